import Derived.Test.YtmbnphmhaoomoaaGreatDoorAW8
import Derived.Test.YtmbnphmhaoomoaaGreatDoorAV11
import Derived.Test.YtmbnphmhaoomoaaGreatDoorAW1
import Derived.Test.YtmbnphmhaoomoaaGreatDoorAW3
import Derived.Test.YtmbnphmhaoomoaaGreatDoorAW2
set_option linter.unusedVariables false
set_option linter.unusedSimpArgs false
set_option maxRecDepth 100000
section
set_option maxHeartbeats 4000000
open Go Go.VM Go.Proofs Tether
namespace Go.VM.Tryz
def finU (h:Hub) (r:Request):Uploads × Str × Int:=fd h.ups r.who r.number h.now
def finC (h:Hub) (r:Request):Change:=⟨2,r.name,[],(finU h r).2.1,r.base⟩
def finP (h:Hub) (r:Request):Hub × Int × Int :=
 if (finU h r).2.2≠0 then (h,0,(finU h r).2.2) else
 let p:=comP h r [finC h r]
 (if p.2.2=0 then { comH h r [finC h r] with ups:=(finU h r).1 } else h,p.2.1,p.2.2)
theorem zhi {h:Hub} {r:Request} (ok:dz h):(finU h r).2.1.length≤1048576:=by
 unfold finU fd
 split
 ·rename_i hm
  dsimp only
  split
  ·simp
  ·exact (ok.2.2.2 _ (zhu hm)).2
 ·simp
set_option maxHeartbeats 4000000 in
theorem finS_c (h:Hub) (r:Request) (ok:dz h) (okr:okRq r) (hf:fo h.folders) (hh:hasF h.folders r.folder=true) :
  Does Tryz.prog 90 [.ptr 0 0] (svH h r) (.tup [.agg (anE ⟨0,(finP h r).2.1,noG⟩),.int .i64 (finP h r).2.2]) (svH (finP h r).1 r):=by
 refine eb (fn:=Tryz.f90) Tryz.func90 rfl fb90 (by kernel_rfl) (Nat.le_of_ble_eq_true rfl) ?_
 have hxt:=zhi (r:=r) ok
 refine aa ?_
 simp only[go_sem]
 repeat first|(with_reducible refine ad ?_ ?_;exact byD)|(with_reducible refine ae ?_ ?_;exact byQ)
 refine ab (bc cj [26] (.first 0 (.first 1 (.first 2 (.first 3 (.first 4 (.first 5 (.first 6 (.first 7 (.first 8 (.first 9 (.first 10 (.first 11 (.first 12 (.first 13 (.first 14 (.first 15 (.first 16 (.first 17 (.first 18 (.first 19 (.alt 20 (.first 21 (.first 22 (.first 23 (.first 24 (.one 25 (.one 26 (.first 27 (.first 28 (.done))))))))) (.one 25 (.one 20 (.first 21 (.first 22 (.first 23 (.first 24 (.one 26 (.first 27 (.first 28 (.done))))))))))))))))))))))))))))))) (by kernel_rfl) ?_)
 simp only[go_sem]
 refine⟨?_, ?_⟩
 ·
  refine ek (Up.Finish_c h.ups ok.2.2.good r.who (by have:=okr.1;omega) r.number h.now) byW byT ?_
  simp only[go_sem]
  refine ab ?_
  refine aa ?_
  simp only[go_sem]
  intro t34 e34
  subst e34
  refine ah _ rfl (fun h34=>?_) (fun h34=>?_)
  ·
   (try simp only[go_sem] at h34)
   have hz:(finU h r).2.2≠0:=by simpa [finU] using h34
   have he:finP h r=(h,0,(finU h r).2.2):=by rw[finP,if_pos hz]
   refine aa ?_
   simp only[go_sem]
   refine af ?_
   simp only[go_sem]
   rw[he]
   exact⟨[0,1],rfl,rfl,byC,byC⟩
  ·
   (try simp only[go_sem] at h34)
   have hz:¬ (finU h r).2.2≠0:=by simpa [finU] using h34
   refine ag ?_
   (try simp only[go_sem])
   refine ab (zgu cj [13,14,19] [13] (.first 0 (.first 1 (.first 2 (.first 3 (.first 4 (.first 5 (.first 6 (.first 7 (.first 8 (.first 9 (.first 10 (.first 11 (.first 12 (.alt 13 (.alt 14 (.first 15 (.first 16 (.first 17 (.one 18 (.one 19 (.first 20 (.done))))))) (.one 18 (.one 14 (.first 15 (.first 16 (.first 17 (.one 19 (.first 20 (.done))))))))) (.one 18 (.one 13 (.one 14 (.first 15 (.first 16 (.first 17 (.one 19 (.first 20 (.done))))))))))))))))))))))) (by kernel_rfl) ?_)
   simp only[go_sem]
   refine⟨?_, ?_⟩
   ·
    refine⟨?_, ?_⟩
    ·
     refine ce (vz h r [finC h r] ok okr ⟨by simp,by intro c hc;rw[List.mem_singleton.1 hc];exact⟨okr.2.2.1,by simp[finC],hxt⟩⟩ hf hh) [0,1] rfl ?_ byC ?_
     ·exact⟨byC,qn (enc:=Change.enc) (finC h r),rfl⟩
     simp only[go_sem]
     refine ab ?_
     refine aa ?_
     simp only[go_sem]
     intro t56 e56
     subst e56
     refine ah _ rfl (fun h56=>?_) (fun h56=>?_)
     ·
      (try simp only[go_sem] at h56)
      have hz2:(comP h r [finC h r]).2.2=0:=h56
      have he:finP h r=({ comH h r [finC h r] with ups:=(finU h r).1 },(comP h r [finC h r]).2.1,(comP h r [finC h r]).2.2):=by rw[finP,if_neg hz];dsimp only;rw[if_pos hz2]
      refine aj ?_
      simp only[go_sem]
      refine aa ?_
      simp only[go_sem]
      refine af ?_
      simp only[go_sem]
      rw[he]
      exact⟨[0,1],rfl,rfl,byC,byC⟩
     ·
      (try simp only[go_sem] at h56)
      have hz2:¬ (comP h r [finC h r]).2.2=0:=h56
      have he:finP h r=(h,(comP h r [finC h r]).2.1,(comP h r [finC h r]).2.2):=by rw[finP,if_neg hz];dsimp only;rw[if_neg hz2]
      have hc:comH h r [finC h r]=h:=by rw[comH,if_neg hz2]
      rw[hc]
      refine ag ?_
      (try simp only[go_sem])
      refine aa ?_
      simp only[go_sem]
      refine af ?_
      simp only[go_sem]
      rw[he]
      exact⟨[0,1],rfl,rfl,byC,byC⟩
    ·
     refine ce (vz h r [finC h r] ok okr ⟨by simp,by intro c hc;rw[List.mem_singleton.1 hc];exact⟨okr.2.2.1,by simp[finC],hxt⟩⟩ hf hh) [0,1] rfl ?_ byC ?_
     ·exact⟨byC,qn (enc:=Change.enc) (finC h r),rfl⟩
     simp only[go_sem]
     refine ab ?_
     refine aa ?_
     simp only[go_sem]
     intro t56 e56
     subst e56
     refine ah _ rfl (fun h56=>?_) (fun h56=>?_)
     ·
      (try simp only[go_sem] at h56)
      have hz2:(comP h r [finC h r]).2.2=0:=h56
      have he:finP h r=({ comH h r [finC h r] with ups:=(finU h r).1 },(comP h r [finC h r]).2.1,(comP h r [finC h r]).2.2):=by rw[finP,if_neg hz];dsimp only;rw[if_pos hz2]
      refine aj ?_
      simp only[go_sem]
      refine aa ?_
      simp only[go_sem]
      refine af ?_
      simp only[go_sem]
      rw[he]
      exact⟨[0,1],rfl,rfl,byC,byC⟩
     ·
      (try simp only[go_sem] at h56)
      have hz2:¬ (comP h r [finC h r]).2.2=0:=h56
      have he:finP h r=(h,(comP h r [finC h r]).2.1,(comP h r [finC h r]).2.2):=by rw[finP,if_neg hz];dsimp only;rw[if_neg hz2]
      have hc:comH h r [finC h r]=h:=by rw[comH,if_neg hz2]
      rw[hc]
      refine ag ?_
      (try simp only[go_sem])
      refine aa ?_
      simp only[go_sem]
      refine af ?_
      simp only[go_sem]
      rw[he]
      exact⟨[0,1],rfl,rfl,byC,byC⟩
   ·
    refine ce (vz h r [finC h r] ok okr ⟨by simp,by intro c hc;rw[List.mem_singleton.1 hc];exact⟨okr.2.2.1,by simp[finC],hxt⟩⟩ hf hh) [0,1] rfl ?_ byC ?_
    ·exact⟨byC,qn (enc:=Change.enc) (finC h r),rfl⟩
    simp only[go_sem]
    refine ab ?_
    refine aa ?_
    simp only[go_sem]
    intro t56 e56
    subst e56
    refine ah _ rfl (fun h56=>?_) (fun h56=>?_)
    ·
     (try simp only[go_sem] at h56)
     have hz2:(comP h r [finC h r]).2.2=0:=h56
     have he:finP h r=({ comH h r [finC h r] with ups:=(finU h r).1 },(comP h r [finC h r]).2.1,(comP h r [finC h r]).2.2):=by rw[finP,if_neg hz];dsimp only;rw[if_pos hz2]
     refine aj ?_
     simp only[go_sem]
     refine aa ?_
     simp only[go_sem]
     refine af ?_
     simp only[go_sem]
     rw[he]
     exact⟨[0,1],rfl,rfl,byC,byC⟩
    ·
     (try simp only[go_sem] at h56)
     have hz2:¬ (comP h r [finC h r]).2.2=0:=h56
     have he:finP h r=(h,(comP h r [finC h r]).2.1,(comP h r [finC h r]).2.2):=by rw[finP,if_neg hz];dsimp only;rw[if_neg hz2]
     have hc:comH h r [finC h r]=h:=by rw[comH,if_neg hz2]
     rw[hc]
     refine ag ?_
     (try simp only[go_sem])
     refine aa ?_
     simp only[go_sem]
     refine af ?_
     simp only[go_sem]
     rw[he]
     exact⟨[0,1],rfl,rfl,byC,byC⟩
 ·
  refine ek (Up.Finish_c h.ups ok.2.2.good r.who (by have:=okr.1;omega) r.number h.now) byW byT ?_
  simp only[go_sem]
  refine ab ?_
  refine aa ?_
  simp only[go_sem]
  intro t34 e34
  subst e34
  refine ah _ rfl (fun h34=>?_) (fun h34=>?_)
  ·
   (try simp only[go_sem] at h34)
   have hz:(finU h r).2.2≠0:=by simpa [finU] using h34
   have he:finP h r=(h,0,(finU h r).2.2):=by rw[finP,if_pos hz]
   refine aa ?_
   simp only[go_sem]
   refine af ?_
   simp only[go_sem]
   rw[he]
   exact⟨[0,1],rfl,rfl,byC,byC⟩
  ·
   (try simp only[go_sem] at h34)
   have hz:¬ (finU h r).2.2≠0:=by simpa [finU] using h34
   refine ag ?_
   (try simp only[go_sem])
   refine ab (zgu cj [13,14,19] [13] (.first 0 (.first 1 (.first 2 (.first 3 (.first 4 (.first 5 (.first 6 (.first 7 (.first 8 (.first 9 (.first 10 (.first 11 (.first 12 (.alt 13 (.alt 14 (.first 15 (.first 16 (.first 17 (.one 18 (.one 19 (.first 20 (.done))))))) (.one 18 (.one 14 (.first 15 (.first 16 (.first 17 (.one 19 (.first 20 (.done))))))))) (.one 18 (.one 13 (.one 14 (.first 15 (.first 16 (.first 17 (.one 19 (.first 20 (.done))))))))))))))))))))))) (by kernel_rfl) ?_)
   simp only[go_sem]
   refine⟨?_, ?_⟩
   ·
    refine⟨?_, ?_⟩
    ·
     refine ce (vz h r [finC h r] ok okr ⟨by simp,by intro c hc;rw[List.mem_singleton.1 hc];exact⟨okr.2.2.1,by simp[finC],hxt⟩⟩ hf hh) [0,1] rfl ?_ byC ?_
     ·exact⟨byC,qn (enc:=Change.enc) (finC h r),rfl⟩
     simp only[go_sem]
     refine ab ?_
     refine aa ?_
     simp only[go_sem]
     intro t56 e56
     subst e56
     refine ah _ rfl (fun h56=>?_) (fun h56=>?_)
     ·
      (try simp only[go_sem] at h56)
      have hz2:(comP h r [finC h r]).2.2=0:=h56
      have he:finP h r=({ comH h r [finC h r] with ups:=(finU h r).1 },(comP h r [finC h r]).2.1,(comP h r [finC h r]).2.2):=by rw[finP,if_neg hz];dsimp only;rw[if_pos hz2]
      refine aj ?_
      simp only[go_sem]
      refine aa ?_
      simp only[go_sem]
      refine af ?_
      simp only[go_sem]
      rw[he]
      exact⟨[0,1],rfl,rfl,byC,byC⟩
     ·
      (try simp only[go_sem] at h56)
      have hz2:¬ (comP h r [finC h r]).2.2=0:=h56
      have he:finP h r=(h,(comP h r [finC h r]).2.1,(comP h r [finC h r]).2.2):=by rw[finP,if_neg hz];dsimp only;rw[if_neg hz2]
      have hc:comH h r [finC h r]=h:=by rw[comH,if_neg hz2]
      rw[hc]
      refine ag ?_
      (try simp only[go_sem])
      refine aa ?_
      simp only[go_sem]
      refine af ?_
      simp only[go_sem]
      rw[he]
      exact⟨[0,1],rfl,rfl,byC,byC⟩
    ·
     refine ce (vz h r [finC h r] ok okr ⟨by simp,by intro c hc;rw[List.mem_singleton.1 hc];exact⟨okr.2.2.1,by simp[finC],hxt⟩⟩ hf hh) [0,1] rfl ?_ byC ?_
     ·exact⟨byC,qn (enc:=Change.enc) (finC h r),rfl⟩
     simp only[go_sem]
     refine ab ?_
     refine aa ?_
     simp only[go_sem]
     intro t56 e56
     subst e56
     refine ah _ rfl (fun h56=>?_) (fun h56=>?_)
     ·
      (try simp only[go_sem] at h56)
      have hz2:(comP h r [finC h r]).2.2=0:=h56
      have he:finP h r=({ comH h r [finC h r] with ups:=(finU h r).1 },(comP h r [finC h r]).2.1,(comP h r [finC h r]).2.2):=by rw[finP,if_neg hz];dsimp only;rw[if_pos hz2]
      refine aj ?_
      simp only[go_sem]
      refine aa ?_
      simp only[go_sem]
      refine af ?_
      simp only[go_sem]
      rw[he]
      exact⟨[0,1],rfl,rfl,byC,byC⟩
     ·
      (try simp only[go_sem] at h56)
      have hz2:¬ (comP h r [finC h r]).2.2=0:=h56
      have he:finP h r=(h,(comP h r [finC h r]).2.1,(comP h r [finC h r]).2.2):=by rw[finP,if_neg hz];dsimp only;rw[if_neg hz2]
      have hc:comH h r [finC h r]=h:=by rw[comH,if_neg hz2]
      rw[hc]
      refine ag ?_
      (try simp only[go_sem])
      refine aa ?_
      simp only[go_sem]
      refine af ?_
      simp only[go_sem]
      rw[he]
      exact⟨[0,1],rfl,rfl,byC,byC⟩
   ·
    refine ce (vz h r [finC h r] ok okr ⟨by simp,by intro c hc;rw[List.mem_singleton.1 hc];exact⟨okr.2.2.1,by simp[finC],hxt⟩⟩ hf hh) [0,1] rfl ?_ byC ?_
    ·exact⟨byC,qn (enc:=Change.enc) (finC h r),rfl⟩
    simp only[go_sem]
    refine ab ?_
    refine aa ?_
    simp only[go_sem]
    intro t56 e56
    subst e56
    refine ah _ rfl (fun h56=>?_) (fun h56=>?_)
    ·
     (try simp only[go_sem] at h56)
     have hz2:(comP h r [finC h r]).2.2=0:=h56
     have he:finP h r=({ comH h r [finC h r] with ups:=(finU h r).1 },(comP h r [finC h r]).2.1,(comP h r [finC h r]).2.2):=by rw[finP,if_neg hz];dsimp only;rw[if_pos hz2]
     refine aj ?_
     simp only[go_sem]
     refine aa ?_
     simp only[go_sem]
     refine af ?_
     simp only[go_sem]
     rw[he]
     exact⟨[0,1],rfl,rfl,byC,byC⟩
    ·
     (try simp only[go_sem] at h56)
     have hz2:¬ (comP h r [finC h r]).2.2=0:=h56
     have he:finP h r=(h,(comP h r [finC h r]).2.1,(comP h r [finC h r]).2.2):=by rw[finP,if_neg hz];dsimp only;rw[if_neg hz2]
     have hc:comH h r [finC h r]=h:=by rw[comH,if_neg hz2]
     rw[hc]
     refine ag ?_
     (try simp only[go_sem])
     refine aa ?_
     simp only[go_sem]
     refine af ?_
     simp only[go_sem]
     rw[he]
     exact⟨[0,1],rfl,rfl,byC,byC⟩
def creE (h:Hub) (r:Request):Int:=if (Gr.makeG h.grants r.folder r.who).2=0∧h.folders.length=8 then 2 else (Gr.makeG h.grants r.folder r.who).2
def newF (h:Hub) (r:Request):List Shared:=h.folders.take (fIx h.folders r.folder)++⟨r.folder,⟨[],1,[]⟩⟩::h.folders.drop (fIx h.folders r.folder)
def creH (h:Hub) (r:Request):Hub:={ h with folders:=newF h r,grants:=(Gr.makeG h.grants r.folder r.who).1 }
theorem zwb (h:Hub) (r:Request) (ok:dz h) (okr:okRq r) (he:creE h r≠0) :
  Does Tryz.prog 82 [.ptr 0 0] (svH h r) (.tup [.agg (anE noA),.int .i64 (creE h r)]) [.dead,.dead]:=by
 refine eb (fn:=Tryz.f82) Tryz.func82 rfl fb82 (by kernel_rfl) (Nat.le_of_ble_eq_true rfl) ?_
 have hfl:=ok.1.1
 refine aa ?_
 simp only[go_sem]
 repeat first|(with_reducible refine ad ?_ ?_;exact byD)|(with_reducible refine ae ?_ ?_;exact byQ)
 refine ab (bc cj [] (.first 0 (.first 1 (.first 2 (.first 3 (.first 4 (.first 5 (.first 6 (.first 7 (.first 8 (.first 9 (.first 10 (.first 11 (.first 12 (.first 13 (.first 14 (.one 15 (.first 16 (.first 17 (.first 18 (.first 19 (.first 20 (.done)))))))))))))))))))))) (by kernel_rfl) ?_)
 simp only[go_sem]
 refine ek (Gr.Make_c h.grants ok.2.1.good r.folder r.who (by have:=okr.2.1;omega) (by have:=okr.1;omega)) byW byT ?_
 simp only[go_sem]
 refine ab ?_
 refine aa ?_
 simp only[go_sem]
 intro t28 e28
 intro t36 e36
 intro t37 e37
 rw[ar] at e37
 subst e28 e36 e37
 refine zba (σ:=Unit) (fun u=>True) (fun u=>[⟨5,0,[],.int .i64 (creE h r)⟩]) [0,2,3,4] (fun u=>[.box (svE 1 h r),.arr 4 h.folders.length (En shE default h.folders),.box (anE noA)]) (fun _=>(Nat.le_of_ble_eq_true rfl)) ?_ (fun u hIM1=>?_)
 ·
  refine ah _ rfl (fun h37=>?_) (fun h37=>?_)
  ·
   (try simp only[go_sem] at h37)
   refine aj ?_
   simp only[go_sem]
   refine gi () trivial ?_
   rw[creE,if_pos (by grind)]
   exact byC
  ·
   (try simp only[go_sem] at h37)
   refine ag ?_
   (try simp only[go_sem])
   refine gi () trivial ?_
   rw[creE,if_neg (by grind)]
   exact byC
 simp only[go_sem]
 refine ab ?_
 refine aa ?_
 simp only[go_sem]
 repeat first|(with_reducible refine ad ?_ ?_;exact byD)|(with_reducible refine ae ?_ ?_;exact byQ)
 intro t39 e39
 subst e39
 refine ah _ rfl (fun h39=>?_) (fun h39=>?_)
 ·exact absurd (by simpa using h39) he
 ·
  (try simp only[go_sem] at h39)
  refine ag ?_
  (try simp only[go_sem])
  refine aa ?_
  simp only[go_sem]
  refine af ?_
  simp only[go_sem]
  exact⟨[0,1],rfl,rfl,byC,byC⟩
theorem zyh (h:Hub) (r:Request) (ok:dz h) (okr:okRq r) (hf:fo h.folders) (he:creE h r=0) :
  Does Tryz.prog 82 [.ptr 0 0] (svH h r) (.tup [.agg (anE noA),.int .i64 0]) [.box (svE 2 (creH h r) r),.dead,.arr 4 (newF h r).length (En shE default (newF h r))]:=by
 refine eb (fn:=Tryz.f82) Tryz.func82 rfl fb82 (by kernel_rfl) (Nat.le_of_ble_eq_true rfl) ?_
 have hfl:=ok.1.1
 have hm0:(Gr.makeG h.grants r.folder r.who).2=0:=by unfold creE at he;grind
 have hn8:¬ h.folders.length=8:=by unfold creE at he;grind
 have hix:=zpw h.folders r.folder
 have hnl:(newF h r).length=h.folders.length+1:=by simp[newF];omega
 refine aa ?_
 simp only[go_sem]
 repeat first|(with_reducible refine ad ?_ ?_;exact byD)|(with_reducible refine ae ?_ ?_;exact byQ)
 refine ab (bc cj [] (.first 0 (.first 1 (.first 2 (.first 3 (.first 4 (.first 5 (.first 6 (.first 7 (.first 8 (.first 9 (.first 10 (.first 11 (.first 12 (.first 13 (.first 14 (.one 15 (.first 16 (.first 17 (.first 18 (.first 19 (.first 20 (.done)))))))))))))))))))))) (by kernel_rfl) ?_)
 simp only[go_sem]
 refine ek (Gr.Make_c h.grants ok.2.1.good r.folder r.who (by have:=okr.2.1;omega) (by have:=okr.1;omega)) byW byT ?_
 simp only[go_sem]
 refine ab ?_
 refine aa ?_
 simp only[go_sem]
 intro t28 e28
 intro t36 e36
 intro t37 e37
 rw[ar] at e37
 subst e28 e36 e37
 refine ah _ rfl (fun h37=>?_) (fun h37=>?_)
 ·exfalso;grind
 ·
  (try simp only[go_sem] at h37)
  refine ag ?_
  (try simp only[go_sem])
  refine ab ?_
  refine aa ?_
  simp only[go_sem]
  intro t39 e39
  subst e39
  refine ah _ rfl (fun h39=>?_) (fun h39=>?_)
  ·
   (try simp only[go_sem] at h39)
   refine ab (bc cj [] (.first 0 (.first 1 (.first 2 (.first 3 (.first 4 (.first 5 (.first 6 (.first 7 (.first 8 (.one 9 (.first 10 (.first 11 (.first 12 (.first 13 (.first 14 (.done)))))))))))))))) (by kernel_rfl) ?_)
   simp only[go_sem]
   refine zil 2 (tz h r.folder hf (by omega)) byV byC rfl ?_
   simp only[go_sem]
   refine ab (bc cj [15,19] (.first 0 (.first 1 (.first 2 (.first 3 (.first 4 (.first 5 (.first 6 (.first 7 (.first 8 (.first 9 (.first 10 (.first 11 (.first 12 (.first 13 (.one 14 (.one 15 (.first 16 (.first 17 (.first 18 (.one 19 (.done))))))))))))))))))))) (by kernel_rfl) ?_)
   simp only[go_sem]
   refine ce (zbf h.folders (fIx h.folders r.folder) ⟨r.folder,⟨[],1,[]⟩⟩ hix (by omega)) [1,3] rfl byC ?_ ?_
   ·refine⟨⟨rfl,Nat.le_refl _,fun i hi=>ak _⟩,⟨rfl,Nat.le_refl _,fun i hi=>?_⟩,rfl⟩
    show wks [V.str r.folder,V.nil,V.int IntKind.i64 1,V.nil] (shE ⟨r.folder,⟨[],1,[]⟩⟩)
    exact byC
   simp only[go_sem]
   refine aj ?_
   simp only[go_sem]
   refine aa ?_
   simp only[go_sem]
   refine af ?_
   simp only[go_sem]
   have hnl2:(creH h r).folders.length=h.folders.length+1:=hnl
   rw[hnl,hnl2,hm0,newF]
   exact⟨[0,1,4],rfl,rfl,byC,byC⟩
  ·exfalso;grind
end Go.VM.Tryz
end
section
set_option maxHeartbeats 4000000
open Go Go.VM Go.Proofs Tether
namespace Go.VM.Tryz
def bd (h:Hub) (r:Request):Hub × Answer × Int :=
 if r.kind<1∨8<r.kind then (h,noA,7) else if ba r.who=false then (h,noA,1)
 else if r.kind=8 then (if creE h r=0 then creH h r else h,noA,creE h r)
 else if r.kind=3 then (qs h r,noA,qj h r)
 else if r.kind=2 then (h,⟨0,0,(jk h r).1⟩,(jk h r).2)
 else if r.kind=4 then
  (upsH h (ip h.ups r.who r.number h.now).1 (ip h.ups r.who r.number h.now).2.2,⟨0,(ip h.ups r.who r.number h.now).2.1,noG⟩,(ip h.ups r.who r.number h.now).2.2)
 else if r.kind=5 then
  (upsH h (bz h.ups r.who r.number r.offset r.text h.now).1 (bz h.ups r.who r.number r.offset r.text h.now).2.2,⟨0,(bz h.ups r.who r.number r.offset r.text h.now).2.1,noG⟩,(bz h.ups r.who r.number r.offset r.text h.now).2.2)
 else if r.kind=6 then (h,⟨0,(la h.ups r.who r.number h.now).1,noG⟩,(la h.ups r.who r.number h.now).2)
 else if mayE h r 2≠0 then (h,noA,mayE h r 2)
 else if r.kind=7 then ((finP h r).1,⟨0,(finP h r).2.1,noG⟩,(finP h r).2.2)
 else (comH h r r.changes,⟨0,(comP h r r.changes).2.1,noG⟩,(comP h r r.changes).2.2)
structure GoodH (h:Hub):Prop where
 now:0≤h.now∧h.now≤1099511627776
 len:h.folders.length≤8
 each:∀ s∈h.folders,ba s.name=true∧(bl s.jn).2=0
 sorted:fo h.folders
 grants:eo h.grants=0
 matched:gm h=true
 ups:dj h.ups=0
theorem rm {α:Type} {f:α→Int} {l:List α} (h:bh f l=0):∀ x∈l,f x=0:=by
 induction l with
 | nil=>intro x hx;cases hx
 | cons y l ih =>
   unfold bh at h
   split at h
   ·rename_i h1;exact absurd h h1
   ·rename_i h1
    intro x hx
    rcases List.mem_cons.1 hx with rfl|hx
    ·simpa using h1
    ·exact ih h x hx
theorem firstErr_zero {α:Type} {f:α→Int} {l:List α} (h:∀ x∈l,f x=0):bh f l=0:=by
 induction l with
 | nil=>rfl
 | cons y l ih =>
   unfold bh
   rw[if_neg (by simp[h y (by simp)])]
   exact ih fun x hx=>h x (by simp[hx])
theorem checkH_good {h:Hub}:dn h=0↔GoodH h:=by
 constructor
 ·intro hc
  have h1:¬ (h.now<0∨1099511627776<h.now):=by unfold dn at hc;grind
  have h2:¬ 8<(h.folders.length:Int):=by unfold dn at hc;grind
  have h3:bh sw h.folders=0:=by unfold dn at hc;grind
  have h4:((List.range h.folders.length).all fun i=>decide (i=0) || oo h.folders i)=true:=by
   rw[dn,if_neg h1,if_neg h2,if_neg (by simp[h3])] at hc
   split at hc
   ·cases hc
   ·rename_i h4;exact (Bool.not_eq_false _).mp h4
  rw[dn,if_neg h1,if_neg h2,if_neg (by simp[h3]),if_neg (by simp[h4])] at hc
  have h5:eo h.grants=0:=by grind
  have h6:gm h=true:=by grind
  have h7:dj h.ups=0:=by grind
  refine⟨by omega,by omega,fun s hs=>?_,rises_sorted.1 h4,h5,h6,h7⟩
  have:=rm h3 s hs
  unfold sw at this
  grind
 ·intro g
  have h4:=rises_sorted.2 g.sorted
  rw[dn,if_neg (by have:=g.now;omega),if_neg (by have:=g.len;omega),if_neg (by
   rw[firstErr_zero fun s hs=>by rw[sw,if_neg (by simp[(g.each s hs).1])];exact (g.each s hs).2]
   simp),if_neg (by simp[h4]),if_neg (by simp[g.grants]),if_neg (by simp[g.matched]),g.ups]
theorem ra {l:List Grant} (h:eo l=0):ec l∧l.length≤60∧(∀ g∈l,gErr g=0)∧mg l=true:=by
 have h1:¬ 60<(l.length:Int):=by unfold eo at h;grind
 have h2:bh gErr l=0:=by unfold eo at h;grind
 rw[eo,if_neg h1,if_neg (by simp[h2])] at h
 have h3:((List.range l.length).all fun i=>i=0 || oc l i)=true:=by grind
 have h4:mg l=true:=by grind
 exact⟨ot h3,by omega,rm h2,h4⟩
theorem GoodH.gsorted {h:Hub} (g:GoodH h):ec h.grants:=(ra g.grants).1
theorem zda {l:List Grant} {f w:Str} (h:dm l f w≠0):∃ g∈l,g.folder=f∧g.who=w∧g.right=dm l f w:=by
 unfold dm at h ⊢
 cases hf:l.find? (isG f w) with
 | none=>rw[hf] at h;exact absurd rfl h
 | some g =>
   have h1:=List.mem_of_find?_eq_some hf
   have h2:=List.find?_some hf
   simp[isG] at h2
   exact⟨g,h1,h2.1,h2.2,rfl⟩
theorem gn {h:Hub} (g:GoodH h) {r:Request} {k:Int} (hk:1≤k) (hm:mayE h r k=0):hasF h.folders r.folder=true:=by
 have h1:¬ dm h.grants r.folder r.who<k:=by unfold mayE at hm;grind
 obtain⟨x,hx,e1,e2,e3⟩:=zda (l:=h.grants) (f:=r.folder) (w:=r.who) (by omega)
 have hmt:=g.matched
 unfold gm at hmt
 rw[Bool.and_eq_true] at hmt
 have h2:=List.all_eq_true.1 hmt.1 x hx
 obtain⟨s,hs,e⟩:=List.any_eq_true.1 h2
 exact (ld g.sorted).2 ⟨s,hs,by simpa [e1] using e⟩
set_option maxHeartbeats 4000000 in
theorem zjq (h:Hub) (r:Request) (ok:dz h) (okr:okRq r) (g:GoodH h) (hk:r.kind≠8) :
  Does Tryz.prog 45 [.ptr 0 0] (svH h r) (.tup [.agg (anE (bd h r).2.1),.int .i64 (bd h r).2.2]) (svH (bd h r).1 r):=by
 refine eb (fn:=Tryz.f45) Tryz.func45 rfl fb45 (by kernel_rfl) (Nat.le_of_ble_eq_true rfl) ?_
 have hw:r.who.length<4611686018427387904:=by have:=okr.1;omega
 refine aa ?_
 simp only[go_sem]
 repeat first|(with_reducible refine ad ?_ ?_;exact byD)|(with_reducible refine ae ?_ ?_;exact byQ)
 refine aa ?_
 simp only[go_sem]
 refine ab (ai ?_)
 refine aa ?_
 simp only[go_sem]
 intro t15 e15
 intro t19 e19
 intro t20 e20
 rw[az] at e20
 subst e15 e19 e20
 refine ah _ rfl (fun h12=>?_) (fun h12=>?_)
 ·
  (try simp only[go_sem] at h12)
  refine aa ?_
  simp only[go_sem]
  refine af ?_
  simp only[go_sem]
  have he:bd h r=(h,noA,7):=by rw[bd,if_pos (by simpa using h12)]
  rw[he]
  exact⟨[0,1],rfl,rfl,byC,byC⟩
 ·
  (try simp only[go_sem] at h12)
  have n1:¬ (r.kind<1∨8<r.kind):=by grind
  refine aa ?_
  simp only[go_sem]
  refine cw_m (jc r.who hw) byW byT ?_
  simp only[go_sem]
  intro t26 e26
  subst e26
  refine ah _ rfl (fun h22=>?_) (fun h22=>?_)
  ·
   (try simp only[go_sem] at h22)
   refine aa ?_
   simp only[go_sem]
   refine af ?_
   simp only[go_sem]
   have he:bd h r=(h,noA,1):=by rw[bd,if_neg n1,if_pos (by simpa using h22)]
   rw[he]
   exact⟨[0,1],rfl,rfl,byC,byC⟩
  ·
   (try simp only[go_sem] at h22)
   have n2:¬ ba r.who=false:=by simpa using h22
   refine ag ?_
   (try simp only[go_sem])
   refine ab ?_
   refine aa ?_
   simp only[go_sem]
   refine ai ?_
   refine aa ?_
   simp only[go_sem]
   intro t31 e31
   subst e31
   refine ah _ rfl (fun h30=>?_) (fun h30=>?_)
   ·exact absurd (by simpa using h30) hk
   ·
    (try simp only[go_sem] at h30)
    refine aa ?_
    simp only[go_sem]
    intro t37 e37
    subst e37
    refine ah _ rfl (fun h36=>?_) (fun h36=>?_)
    ·
     (try simp only[go_sem] at h36)
     refine aa ?_
     simp only[go_sem]
     refine ce (zzn h r ok okr g.gsorted) [0,1] rfl byC byC ?_
     simp only[go_sem]
     refine af ?_
     simp only[go_sem]
     have he:bd h r=(qs h r,noA,qj h r):=by rw[bd,if_neg n1,if_neg n2,if_neg hk,if_pos (by simpa using h36)]
     rw[he]
     exact⟨[0,1],rfl,rfl,byC,byC⟩
    ·
     (try simp only[go_sem] at h36)
     have n3:¬ r.kind=3:=by simpa using h36
     refine aa ?_
     simp only[go_sem]
     intro t43 e43
     subst e43
     refine ah _ rfl (fun h42=>?_) (fun h42=>?_)
     ·
      (try simp only[go_sem] at h42)
      refine aa ?_
      simp only[go_sem]
      refine ce (z1w h r ok okr g.gsorted g.sorted (fun hm=>gn g (Int.le_refl 1) hm)) [0,1] rfl byC byC ?_
      simp only[go_sem]
      refine af ?_
      simp only[go_sem]
      have he:bd h r=(h,⟨0,0,(jk h r).1⟩,(jk h r).2):=by rw[bd,if_neg n1,if_neg n2,if_neg hk,if_neg n3,if_pos (by simpa using h42)]
      rw[he]
      exact⟨[0,1],rfl,rfl,byC,byC⟩
     ·
      (try simp only[go_sem] at h42)
      have n4:¬ r.kind=2:=by simpa using h42
      refine aa ?_
      simp only[go_sem]
      intro t49 e49
      subst e49
      refine ah _ rfl (fun h48=>?_) (fun h48=>?_)
      ·
       (try simp only[go_sem] at h48)
       refine ab (bc cj [19,22] (.first 0 (.first 1 (.first 2 (.first 3 (.first 4 (.first 5 (.first 6 (.first 7 (.first 8 (.first 9 (.first 10 (.first 11 (.first 12 (.first 13 (.first 14 (.one 15 (.first 16 (.first 17 (.first 18 (.one 19 (.first 20 (.first 21 (.one 22 (.first 23 (.done))))))))))))))))))))))))) (by kernel_rfl) ?_)
       simp only[go_sem]
       refine ek (Up.Open_c h.ups ok.2.2.good r.who hw r.number h.now) byW byT ?_
       simp only[go_sem]
       refine ce (zyb h r (ip h.ups r.who r.number h.now).1 (ip h.ups r.who r.number h.now).2.1 (ip h.ups r.who r.number h.now).2.2) [0,1] rfl byC byC ?_
       simp only[go_sem]
       refine af ?_
       simp only[go_sem]
       rw[bd,if_neg n1,if_neg n2,if_neg hk,if_neg n3,if_neg n4,if_pos (by simpa using h48)]
       exact⟨[0,1],rfl,rfl,byC,byC⟩
      ·
       (try simp only[go_sem] at h48)
       have n5:¬ r.kind=4:=by simpa using h48
       refine aa ?_
       simp only[go_sem]
       intro t73 e73
       subst e73
       refine ah _ rfl (fun h72=>?_) (fun h72=>?_)
       ·
        (try simp only[go_sem] at h72)
        refine ab (bc cj [23,26] (.first 0 (.first 1 (.first 2 (.first 3 (.first 4 (.first 5 (.first 6 (.first 7 (.first 8 (.first 9 (.first 10 (.first 11 (.first 12 (.first 13 (.first 14 (.first 15 (.first 16 (.first 17 (.first 18 (.one 19 (.first 20 (.first 21 (.first 22 (.one 23 (.first 24 (.first 25 (.one 26 (.first 27 (.done))))))))))))))))))))))))))))) (by kernel_rfl) ?_)
        simp only[go_sem]
        refine ek (Up.Append_c h.ups ok.2.2.good r.who hw r.number r.offset r.text (by have:=okr.2.2.2.2.1;omega) h.now) byW byT ?_
        simp only[go_sem]
        refine ce (zyb h r (bz h.ups r.who r.number r.offset r.text h.now).1 (bz h.ups r.who r.number r.offset r.text h.now).2.1 (bz h.ups r.who r.number r.offset r.text h.now).2.2) [0,1] rfl byC byC ?_
        simp only[go_sem]
        refine af ?_
        simp only[go_sem]
        rw[bd,if_neg n1,if_neg n2,if_neg hk,if_neg n3,if_neg n4,if_neg n5,if_pos (by simpa using h72)]
        exact⟨[0,1],rfl,rfl,byC,byC⟩
       ·
        (try simp only[go_sem] at h72)
        have n6:¬ r.kind=5:=by simpa using h72
        refine aa ?_
        simp only[go_sem]
        intro t101 e101
        subst e101
        refine ah _ rfl (fun h100=>?_) (fun h100=>?_)
        ·
         (try simp only[go_sem] at h100)
         refine ab (bc cj [] (.first 0 (.first 1 (.first 2 (.first 3 (.first 4 (.first 5 (.first 6 (.first 7 (.first 8 (.first 9 (.first 10 (.first 11 (.first 12 (.first 13 (.one 14 (.first 15 (.first 16 (.first 17 (.first 18 (.first 19 (.done))))))))))))))))))))) (by kernel_rfl) ?_)
         simp only[go_sem]
         refine ek (Up.Query_c h.ups ok.2.2.good r.who hw r.number h.now) byW byT ?_
         simp only[go_sem]
         refine aa ?_
         simp only[go_sem]
         refine af ?_
         simp only[go_sem]
         have he:bd h r=(h,⟨0,(la h.ups r.who r.number h.now).1,noG⟩,(la h.ups r.who r.number h.now).2):=by rw[bd,if_neg n1,if_neg n2,if_neg hk,if_neg n3,if_neg n4,if_neg n5,if_neg n6,if_pos (by simpa using h100)]
         rw[he]
         exact⟨[0,1],rfl,rfl,byC,byC⟩
        ·
         (try simp only[go_sem] at h100)
         have n7:¬ r.kind=6:=by simpa using h100
         refine ag ?_
         (try simp only[go_sem])
         refine ab ?_
         refine aa ?_
         simp only[go_sem]
         refine ce (zrf h r 2 ok g.gsorted) [0,1] rfl byC byC ?_
         simp only[go_sem]
         refine aa ?_
         simp only[go_sem]
         intro t126 e126
         subst e126
         refine ah _ rfl (fun h126=>?_) (fun h126=>?_)
         ·
          (try simp only[go_sem] at h126)
          refine aa ?_
          simp only[go_sem]
          refine af ?_
          simp only[go_sem]
          have he:bd h r=(h,noA,mayE h r 2):=by rw[bd,if_neg n1,if_neg n2,if_neg hk,if_neg n3,if_neg n4,if_neg n5,if_neg n6,if_neg n7,if_pos (by simpa using h126)]
          rw[he]
          exact⟨[0,1],rfl,rfl,byC,byC⟩
         ·
          (try simp only[go_sem] at h126)
          have hm2:mayE h r 2=0:=by simpa using h126
          have hh:=gn g (by decide) hm2
          refine ag ?_
          (try simp only[go_sem])
          refine ab ?_
          refine aa ?_
          simp only[go_sem]
          intro t131 e131
          subst e131
          refine ah _ rfl (fun h131=>?_) (fun h131=>?_)
          ·
           (try simp only[go_sem] at h131)
           refine aa ?_
           simp only[go_sem]
           refine ce (finS_c h r ok okr g.sorted hh) [0,1] rfl byC byC ?_
           simp only[go_sem]
           refine af ?_
           simp only[go_sem]
           have he:bd h r=((finP h r).1,⟨0,(finP h r).2.1,noG⟩,(finP h r).2.2):=by rw[bd,if_neg n1,if_neg n2,if_neg hk,if_neg n3,if_neg n4,if_neg n5,if_neg n6,if_neg n7,if_neg (by simp[hm2]),if_pos (by simpa using h131)]
           rw[he]
           exact⟨[0,1],rfl,rfl,byC,byC⟩
          ·
           (try simp only[go_sem] at h131)
           refine ag ?_
           (try simp only[go_sem])
           refine aa ?_
           simp only[go_sem]
           refine ce (vz h r r.changes ok okr okr.2.2.2.2.2 g.sorted hh) [0,1] rfl byC byC ?_
           simp only[go_sem]
           refine af ?_
           simp only[go_sem]
           have he:bd h r=(comH h r r.changes,⟨0,(comP h r r.changes).2.1,noG⟩,(comP h r r.changes).2.2):=by rw[bd,if_neg n1,if_neg n2,if_neg hk,if_neg n3,if_neg n4,if_neg n5,if_neg n6,if_neg n7,if_neg (by simp[hm2]),if_neg (by simpa using h131)]
           rw[he]
           exact⟨[0,1],rfl,rfl,byC,byC⟩
theorem zqr (h:Hub) (r:Request) (ok:dz h) (okr:okRq r) (hk:r.kind=8) (he:(bd h r).2.2≠0) :
  Does Tryz.prog 45 [.ptr 0 0] (svH h r) (.tup [.agg (anE noA),.int .i64 (bd h r).2.2]) [.dead,.dead]:=by
 refine eb (fn:=Tryz.f45) Tryz.func45 rfl fb45 (by kernel_rfl) (Nat.le_of_ble_eq_true rfl) ?_
 have hw:r.who.length<4611686018427387904:=by have:=okr.1;omega
 have n1:¬ (r.kind<1∨8<r.kind):=by omega
 refine aa ?_
 simp only[go_sem]
 repeat first|(with_reducible refine ad ?_ ?_;exact byD)|(with_reducible refine ae ?_ ?_;exact byQ)
 refine aa ?_
 simp only[go_sem]
 refine ab (ai ?_)
 refine aa ?_
 simp only[go_sem]
 intro t15 e15
 intro t19 e19
 intro t20 e20
 rw[az] at e20
 subst e15 e19 e20
 refine ah _ rfl (fun h12=>?_) (fun h12=>?_)
 ·exfalso;grind
 ·
  (try simp only[go_sem] at h12)
  refine aa ?_
  simp only[go_sem]
  refine cw_m (jc r.who hw) byW byT ?_
  simp only[go_sem]
  intro t26 e26
  subst e26
  refine ah _ rfl (fun h22=>?_) (fun h22=>?_)
  ·
   (try simp only[go_sem] at h22)
   have hs:bd h r=(h,noA,1):=by rw[bd,if_neg n1,if_pos (by simpa using h22)]
   rw[hs]
   refine aa ?_
   simp only[go_sem]
   refine af ?_
   simp only[go_sem]
   exact⟨[0,1],rfl,rfl,byC,byC⟩
  ·
   (try simp only[go_sem] at h22)
   have hs:bd h r=(if creE h r=0 then creH h r else h,noA,creE h r):=by rw[bd,if_neg n1,if_neg (by simpa using h22),if_pos hk]
   rw[hs] at he ⊢
   refine ag ?_
   (try simp only[go_sem])
   refine ab ?_
   refine aa ?_
   simp only[go_sem]
   refine ai ?_
   refine aa ?_
   simp only[go_sem]
   intro t31 e31
   subst e31
   refine ah _ rfl (fun h30=>?_) (fun h30=>?_)
   ·
    (try simp only[go_sem] at h30)
    refine aa ?_
    simp only[go_sem]
    refine ce (zwb h r ok okr he) [0,1] rfl byC byC ?_
    simp only[go_sem]
    refine af ?_
    simp only[go_sem]
    exact⟨[0,1],rfl,rfl,byC,byC⟩
   ·exact absurd hk (by simpa using h30)
theorem zkt (h:Hub) (r:Request) (ok:dz h) (okr:okRq r) (g:GoodH h) (hk:r.kind=8) (he:(bd h r).2.2=0) :
  Does Tryz.prog 45 [.ptr 0 0] (svH h r) (.tup [.agg (anE noA),.int .i64 0]) [.box (svE 2 (creH h r) r),.dead,.arr 4 (newF h r).length (En shE default (newF h r))]∧bd h r=(creH h r,noA,0):=by
 have n1:¬ (r.kind<1∨8<r.kind):=by omega
 have n2:¬ ba r.who=false:=by
  intro hn
  rw[bd,if_neg n1,if_pos hn] at he
  simp at he
 have hs:bd h r=(if creE h r=0 then creH h r else h,noA,creE h r):=by rw[bd,if_neg n1,if_neg n2,if_pos hk]
 rw[hs] at he
 have he:creE h r=0:=he
 rw[hs,if_pos he,he]
 refine⟨?_,rfl⟩
 refine eb (fn:=Tryz.f45) Tryz.func45 rfl fb45 (by kernel_rfl) (Nat.le_of_ble_eq_true rfl) ?_
 have hw:r.who.length<4611686018427387904:=by have:=okr.1;omega
 refine aa ?_
 simp only[go_sem]
 repeat first|(with_reducible refine ad ?_ ?_;exact byD)|(with_reducible refine ae ?_ ?_;exact byQ)
 refine aa ?_
 simp only[go_sem]
 refine ab (ai ?_)
 refine aa ?_
 simp only[go_sem]
 intro t15 e15
 intro t19 e19
 intro t20 e20
 rw[az] at e20
 subst e15 e19 e20
 refine ah _ rfl (fun h12=>?_) (fun h12=>?_)
 ·exfalso;grind
 ·
  (try simp only[go_sem] at h12)
  refine aa ?_
  simp only[go_sem]
  refine cw_m (jc r.who hw) byW byT ?_
  simp only[go_sem]
  intro t26 e26
  subst e26
  refine ah _ rfl (fun h22=>?_) (fun h22=>?_)
  ·exact absurd (by simpa using h22) n2
  ·
   (try simp only[go_sem] at h22)
   refine ag ?_
   (try simp only[go_sem])
   refine ab ?_
   refine aa ?_
   simp only[go_sem]
   refine ai ?_
   refine aa ?_
   simp only[go_sem]
   intro t31 e31
   subst e31
   refine ah _ rfl (fun h30=>?_) (fun h30=>?_)
   ·
    (try simp only[go_sem] at h30)
    refine aa ?_
    simp only[go_sem]
    refine ce (zyh h r ok okr g.sorted he) [0,1] rfl byC byC ?_
    simp only[go_sem]
    refine af ?_
    simp only[go_sem]
    exact⟨[0,1,4],rfl,rfl,byC,byC⟩
   ·exact absurd hk (by simpa using h30)
end Go.VM.Tryz
end
section
set_option maxHeartbeats 4000000
open Go Go.VM Go.Proofs Tether
namespace Go.VM.Tryz
def dg (h:Hub) (r:Request):Hub × Answer × Int :=
 if dn h≠0 then (noH,noA,dn h) else if (bd h r).2.2≠0 then (h,⟨(bd h r).2.2,0,noG⟩,0) else ((bd h r).1,(bd h r).2.1,0)
theorem zpq (h:Hub) (r:Request) (ok:dz h) (hb:dn h≠0):Meets Tryz.prog 18 [.agg (hubE h),.agg (rqE r)] (.tup [.agg (hubE noH),.agg (anE noA),.int .i64 (dn h)]) []:=by
 refine an (fn:=Tryz.f18) Tryz.func18 rfl fb18 (by kernel_rfl) (Nat.le_of_ble_eq_true rfl) ?_
 refine aa ?_
 simp only[go_sem]
 repeat first|(with_reducible refine ad ?_ ?_;exact byD)|(with_reducible refine ae ?_ ?_;exact byQ)
 refine ab ?_
 refine aa ?_
 simp only[go_sem]
 refine cw_m (nz h ok) byW byT ?_
 simp only[go_sem]
 refine aa ?_
 simp only[go_sem]
 intro t14 e14
 subst e14
 refine ah _ rfl (fun h14=>?_) (fun h14=>?_)
 ·
  (try simp only[go_sem] at h14)
  refine aa ?_
  simp only[go_sem]
  refine af ?_
  simp only[go_sem]
  exact ap 2 [] rfl byC byC byC byC
 ·exact absurd (by simpa using h14) hb
theorem zko (h:Hub) (r:Request) (ok:dz h) (okr:okRq r) (g:GoodH h) (hk:r.kind≠8):Meets Tryz.prog 18 [.agg (hubE h),.agg (rqE r)] (.tup [.agg (hubE (dg h r).1),.agg (anE (dg h r).2.1),.int .i64 (dg h r).2.2]) []:=by
 refine an (fn:=Tryz.f18) Tryz.func18 rfl fb18 (by kernel_rfl) (Nat.le_of_ble_eq_true rfl) ?_
 have hc:=checkH_good.2 g
 refine aa ?_
 simp only[go_sem]
 repeat first|(with_reducible refine ad ?_ ?_;exact byD)|(with_reducible refine ae ?_ ?_;exact byQ)
 refine ab ?_
 refine aa ?_
 simp only[go_sem]
 refine cw_m (nz h ok) byW byT ?_
 simp only[go_sem]
 refine aa ?_
 simp only[go_sem]
 intro t14 e14
 subst e14
 refine ah _ rfl (fun h14=>?_) (fun h14=>?_)
 ·exact absurd hc (by simpa using h14)
 ·
  (try simp only[go_sem] at h14)
  refine ag ?_
  (try simp only[go_sem])
  refine ab (bc cj [] (.first 0 (.first 2 (.one 1 (.first 3 (.one 4 (.first 5 (.done))))))) (by kernel_rfl) ?_)
  simp only[go_sem]
  refine ek (ow h ok) byW byT ?_
  simp only[go_sem]
  refine aa ?_
  simp only[go_sem]
  refine ce (zjq h r ok okr g hk) [5,4] rfl byC byC ?_
  simp only[go_sem]
  refine ab ?_
  refine aa ?_
  simp only[go_sem]
  intro t29 e29
  subst e29
  refine ah _ rfl (fun h29=>?_) (fun h29=>?_)
  ·
   (try simp only[go_sem] at h29)
   refine aa ?_
   simp only[go_sem]
   refine cw_m (ow h ok) byW byT ?_
   simp only[go_sem]
   refine af ?_
   simp only[go_sem]
   have he:(bd h r).2.2≠0:=by simpa using h29
   rw[dg,if_neg (by simp[hc]),if_pos he]
   exact ap 2 [] rfl byC byC byC byC
  ·
   (try simp only[go_sem] at h29)
   refine ag ?_
   (try simp only[go_sem])
   refine ab (jd cj [5,6] [5,6] (.firstZ 0 (.firstZ 1 (.firstZ 2 (.firstZ 3 (.firstZ 4 (.one 5 (.one 6 (.firstZ 7 (.done))))))))) (by kernel_rfl) ?_)
   simp only[go_sem]
   refine af ?_
   simp only[go_sem]
   have he:¬ (bd h r).2.2≠0:=by simpa using h29
   rw[dg,if_neg (by simp[hc]),if_neg he]
   exact ap 2 [] rfl byC byC byC byC
theorem zmv (h:Hub) (r:Request) (ok:dz h) (okr:okRq r) (g:GoodH h) (hk:r.kind=8) (he:(bd h r).2.2≠0):Meets Tryz.prog 18 [.agg (hubE h),.agg (rqE r)] (.tup [.agg (hubE (dg h r).1),.agg (anE (dg h r).2.1),.int .i64 (dg h r).2.2]) []:=by
 refine an (fn:=Tryz.f18) Tryz.func18 rfl fb18 (by kernel_rfl) (Nat.le_of_ble_eq_true rfl) ?_
 have hc:=checkH_good.2 g
 refine aa ?_
 simp only[go_sem]
 repeat first|(with_reducible refine ad ?_ ?_;exact byD)|(with_reducible refine ae ?_ ?_;exact byQ)
 refine ab ?_
 refine aa ?_
 simp only[go_sem]
 refine cw_m (nz h ok) byW byT ?_
 simp only[go_sem]
 refine aa ?_
 simp only[go_sem]
 intro t14 e14
 subst e14
 refine ah _ rfl (fun h14=>?_) (fun h14=>?_)
 ·exact absurd hc (by simpa using h14)
 ·
  (try simp only[go_sem] at h14)
  refine ag ?_
  (try simp only[go_sem])
  refine ab (bc cj [] (.first 0 (.first 2 (.one 1 (.first 3 (.one 4 (.first 5 (.done))))))) (by kernel_rfl) ?_)
  simp only[go_sem]
  refine ek (ow h ok) byW byT ?_
  simp only[go_sem]
  refine aa ?_
  simp only[go_sem]
  refine ce (zqr h r ok okr hk he) [5,4] rfl byC byC ?_
  simp only[go_sem]
  refine ab ?_
  refine aa ?_
  simp only[go_sem]
  intro t29 e29
  subst e29
  refine ah _ rfl (fun h29=>?_) (fun h29=>?_)
  ·
   (try simp only[go_sem] at h29)
   refine aa ?_
   simp only[go_sem]
   refine cw_m (ow h ok) byW byT ?_
   simp only[go_sem]
   refine af ?_
   simp only[go_sem]
   rw[dg,if_neg (by simp[hc]),if_pos he]
   exact ap 2 [] rfl byC byC byC byC
  ·exact absurd (by simpa using h29) he
theorem zjf (h:Hub) (r:Request) (ok:dz h) (okr:okRq r) (g:GoodH h) (hk:r.kind=8) (he:(bd h r).2.2=0):Meets Tryz.prog 18 [.agg (hubE h),.agg (rqE r)] (.tup [.agg (hubE (dg h r).1),.agg (anE (dg h r).2.1),.int .i64 (dg h r).2.2]) []:=by
 obtain⟨hD,hS⟩:=zkt h r ok okr g hk he
 have hc:=checkH_good.2 g
 have hp:dg h r=(creH h r,noA,0):=by rw[dg,if_neg (by simp[hc]),if_neg (by simp[he]),hS]
 rw[hp]
 have hn:(creH h r).folders=newF h r:=rfl
 refine an (fn:=Tryz.f18) Tryz.func18 rfl fb18 (by kernel_rfl) (Nat.le_of_ble_eq_true rfl) ?_
 refine aa ?_
 simp only[go_sem]
 repeat first|(with_reducible refine ad ?_ ?_;exact byD)|(with_reducible refine ae ?_ ?_;exact byQ)
 refine ab ?_
 refine aa ?_
 simp only[go_sem]
 refine cw_m (nz h ok) byW byT ?_
 simp only[go_sem]
 refine aa ?_
 simp only[go_sem]
 intro t14 e14
 subst e14
 refine ah _ rfl (fun h14=>?_) (fun h14=>?_)
 ·exact absurd hc (by simpa using h14)
 ·
  (try simp only[go_sem] at h14)
  refine ag ?_
  (try simp only[go_sem])
  refine ab (bc cj [] (.first 0 (.first 2 (.one 1 (.first 3 (.one 4 (.first 5 (.done))))))) (by kernel_rfl) ?_)
  simp only[go_sem]
  refine ek (ow h ok) byW byT ?_
  simp only[go_sem]
  refine aa ?_
  simp only[go_sem]
  refine ce (hD) [5,4] rfl byC byC ?_
  simp only[go_sem]
  refine ab ?_
  refine aa ?_
  simp only[go_sem]
  intro t29 e29
  subst e29
  refine ah _ rfl (fun h29=>?_) (fun h29=>?_)
  ·simp at h29
  ·
   (try simp only[go_sem] at h29)
   refine ag ?_
   (try simp only[go_sem])
   refine ab (jd cj [5,7] [5,6] (.firstZ 0 (.firstZ 1 (.firstZ 2 (.firstZ 3 (.firstZ 4 (.one 5 (.one 6 (.firstZ 7 (.done))))))))) (by kernel_rfl) ?_)
   simp only[go_sem]
   refine af ?_
   simp only[go_sem]
   rw[hn]
   exact ap 2 [] rfl byC byC byC byC
theorem np (h:Hub) (r:Request) (ok:dz h) (okr:okRq r):Meets Tryz.prog 18 [.agg (hubE h),.agg (rqE r)] (.tup [.agg (hubE (dg h r).1),.agg (anE (dg h r).2.1),.int .i64 (dg h r).2.2]) []:=by
 by_cases hc:dn h=0
 ·have g:=checkH_good.1 hc
  by_cases hk:r.kind=8
  ·by_cases he:(bd h r).2.2=0
   ·exact zjf h r ok okr g hk he
   ·exact zmv h r ok okr g hk he
  ·exact zko h r ok okr g hk
 ·have hp:dg h r=(noH,noA,dn h):=by rw[dg,if_pos hc]
  rw[hp]
  exact zpq h r ok hc
end Go.VM.Tryz
end
section
set_option maxHeartbeats 4000000
open Go Go.VM
namespace Tether
theorem zry {l:List Grant} {k:Nat} (hk:k<l.length):l=l.take k++l.getD k default::l.drop (k+1):=by
 have:l.getD k default=l[k]:=by simp[List.getD,hk]
 rw[this,← List.drop_eq_getElem_cons hk,List.take_append_drop]
theorem Grant.of_eq {a b:Grant} (h:a.folder=b.folder∧a.who=b.who∧a.right=b.right):a=b:=by
 cases a;cases b;simp only at h;obtain⟨rfl,rfl,rfl⟩:=h;rfl
def sameL {α:Type} [DecidableEq α] (a b:List α):Bool:=decide (a=b)
theorem mw {α:Type} {a b:List α} {d:α} (hl:a.length=b.length) (h:∀ i,i<a.length→a.getD i d=b.getD i d):a=b:=by
 apply List.ext_getElem hl
 intro i h1 h2
 have:=h i h1
 simpa [List.getD,h1,h2] using this
end Tether
end
section
set_option maxHeartbeats 4000000
open Go Go.VM Go.Proofs Tether
namespace Go.VM.Tryz.Gr
set_option maxHeartbeats 1000000
theorem SameGrants_c (a b:List Grant) (ha:a.length<4611686018427387904) (hb:b.length<4611686018427387904):Meets Tryz.prog 34 [lstV 3 Grant.enc default a,lstV 3 Grant.enc default b] (.bool (Tether.sameL a b)) []:=by
 refine an (fn:=Tryz.f34) Tryz.func34 rfl fb34 (by kernel_rfl) (Nat.le_of_ble_eq_true rfl) ?_
 refine aa ?_
 simp only[go_sem]
 repeat first|(with_reducible refine ad ?_ ?_;exact byD)|(with_reducible refine ae ?_ ?_;exact byQ)
 refine ab ?_
 refine aa ?_
 simp only[go_sem]
 intro t10 e10
 subst e10
 refine ah _ rfl (fun h10=>?_) (fun h10=>?_)
 ·
  (try simp only[go_sem] at h10)
  refine aa ?_
  simp only[go_sem]
  refine af ?_
  simp only[go_sem]
  refine aq ?_
  have:a≠b:=fun e=>by subst e;exact h10 rfl
  simp[Tether.sameL,this]
 ·
  (try simp only[go_sem] at h10)
  refine ag ?_
  (try simp only[go_sem])
  refine ab ?_
  refine aa ?_
  simp only[go_sem]
  refine ai ?_
  refine bm (σ:=Nat) (fun i=>i≤a.length∧∀ j,j<i→a.getD j default=b.getD j default) (fun i=>[⟨5,0,[],.int .i64 (i:Nat)⟩]) [0,1] (fun i=>a.length-i) 0 ⟨Nat.zero_le _,fun j hj=>absurd hj (Nat.not_lt_zero j)⟩ (Nat.zero_le _) byC (fun i hI1=>?_)
  simp only[go_sem]
  refine ab ?_
  refine aa ?_
  simp only[go_sem]
  repeat first|(with_reducible refine ad ?_ ?_;exact byD)|(with_reducible refine ae ?_ ?_;exact byQ)
  intro t14 e14
  subst e14
  refine ah _ rfl (fun h14=>?_) (fun h14=>?_)
  ·
   (try simp only[go_sem] at h14)
   refine ag ?_
   (try simp only[go_sem])
   refine ab (ai ?_)
   refine ab (bc cj [] (.first 0 (.first 1 (.first 2 (.first 3 (.first 4 (.first 5 (.first 6 (.first 7 (.first 8 (.done)))))))))) (by kernel_rfl) ?_)
   simp only[go_sem]
   repeat first|(with_reducible refine ad ?_ ?_;exact byD)|(with_reducible refine ae ?_ ?_;exact byQ)
   intro t25 e25
   subst e25
   refine ah _ rfl (fun h25=>?_) (fun h25=>?_)
   ·
    (try simp only[go_sem] at h25)
    refine aa ?_
    simp only[go_sem]
    refine af ?_
    simp only[go_sem]
    refine aq ?_
    have:a≠b:=fun e=>by
     subst e
     grind
    simp[Tether.sameL,this]
   ·
    (try simp only[go_sem] at h25)
    refine ag ?_
    (try simp only[go_sem])
    refine aj ?_
    simp only[go_sem]
    intro t16 e16
    (try replace e16:=w64 e16 (by omega) (by omega))
    have hk:a.getD i default=b.getD i default:=by
     exact Grant.of_eq h25
    refine ay (i+1) ⟨by omega,bw hI1.2 hk⟩ (by first|omega|(dsimp only;omega)) byC
  ·
   (try simp only[go_sem] at h14)
   refine bk ?_
   simp only[go_sem]
   refine aa ?_
   simp only[go_sem]
   refine af ?_
   simp only[go_sem]
   refine aq ?_
   have:a=b:=mw (d:=default) (by omega) (fun j hj=>hI1.2 j (by omega))
   simp[Tether.sameL,this]
end Go.VM.Tryz.Gr
end
section
set_option maxHeartbeats 4000000
open Go Go.VM Go.Proofs Tether
namespace Go.VM.Tryz.Gr
set_option maxHeartbeats 1000000
end Go.VM.Tryz.Gr
end
section
set_option maxHeartbeats 4000000
open Go Go.VM Go.Proofs Tether
namespace Go.VM.Tryz.Gr
set_option maxHeartbeats 1000000
def giveO (l:List Grant) (f by_ w:Str) (r:Int):List Grant × Int:=if ed l f by_ w r=0 then (putG l f w r,0) else ([],ed l f by_ w r)
def makeO (l:List Grant) (f w:Str):List Grant × Int:=if en l f w=0 then (putG l f w 3,0) else ([],en l f w)
theorem grantBegun_c:Meets Tryz.prog 23 [] (.bool true) []:=by
 have o1:Meets Tryz.prog 60 [gsV [],.str [102],.str [97]] (.tup [gsV [⟨[102],[97],3⟩],.int .i64 0]) []:=by
  have:=Make_c [] ⟨by decide,by simp⟩ [102] [97] (by decide) (by decide)
  rw[show makeG [] [102] [97]=([⟨[102],[97],3⟩],0) by decide +kernel] at this
  exact this
 have o2:Meets Tryz.prog 61 [gsV [⟨[102],[97],3⟩],.str [102],.str [97],.str [98],.int .i64 1] (.tup [gsV [⟨[102],[97],3⟩,⟨[102],[98],1⟩],.int .i64 0]) []:=by
  have:=Give_c [⟨[102],[97],3⟩] ⟨by decide,by simp⟩ [102] [97] [98] (by decide) (by decide) (by decide) 1
  rw[show giveG [⟨[102],[97],3⟩] [102] [97] [98] 1=([⟨[102],[97],3⟩,⟨[102],[98],1⟩],0) by decide +kernel] at this
  exact this
 refine an (fn:=Tryz.f23) Tryz.func23 rfl fb23 (by kernel_rfl) (Nat.le_of_ble_eq_true rfl) ?_
 refine aa ?_
 simp only[go_sem]
 repeat first|(with_reducible refine ad ?_ ?_;exact byD)|(with_reducible refine ae ?_ ?_;exact byQ)
 refine aa ?_
 simp only[go_sem]
 refine cw_m (o1) byW byT ?_
 simp only[go_sem]
 refine aa ?_
 simp only[go_sem]
 refine cw_m (o2) byW byT ?_
 simp only[go_sem]
 refine aa ?_
 simp only[go_sem]
 intro t15 e15
 intro t18 e18
 intro t19 e19
 rw[ar] at e19
 intro t23 e23
 intro t24 e24
 rw[ar] at e24
 intro t28 e28
 intro t29 e29
 rw[ar] at e29
 subst e15 e18 e19 e23 e24 e28 e29
 refine af ?_
 simp only[go_sem]
 exact aq rfl
end Go.VM.Tryz.Gr
end
section
set_option maxHeartbeats 4000000
open Go Go.VM Go.Proofs Tether
namespace Go.VM.Tryz.Up
theorem zvd (l:List Session) (who:Str) (hl:l.length<4611686018427387904):Meets Tryz.prog 33 [ssV l,.str who] (.int .i64 (iy l who)) []:=by
 refine an (fn:=Tryz.f33) Tryz.func33 rfl fb33 (by kernel_rfl) (Nat.le_of_ble_eq_true rfl) ?_
 refine aa ?_
 simp only[go_sem]
 repeat first|(with_reducible refine ad ?_ ?_;exact byD)|(with_reducible refine ae ?_ ?_;exact byQ)
 refine aa ?_
 simp only[go_sem]
 refine ab ?_
 refine aa ?_
 simp only[go_sem]
 refine ai ?_
 refine bm (σ:=Nat) (fun i=>i≤l.length) (fun i=>[⟨6,0,[],.int .i64 (i:Nat)⟩,⟨5,0,[],.int .i64 (iy (l.take i) who)⟩]) [0,1,4] (fun i=>l.length-i) 0 (by first|trivial|omega|simp) (Nat.zero_le _) byC (fun i hI1=>?_)
 simp only[go_sem]
 refine ab ?_
 refine aa ?_
 simp only[go_sem]
 repeat first|(with_reducible refine ad ?_ ?_;exact byD)|(with_reducible refine ae ?_ ?_;exact byQ)
 intro t10 e10
 subst e10
 refine ah _ rfl (fun h10=>?_) (fun h10=>?_)
 ·
  (try simp only[go_sem] at h10)
  refine ag ?_
  (try simp only[go_sem])
  refine ab (ai ?_)
  refine aa ?_
  simp only[go_sem]
  repeat first|(with_reducible refine ad ?_ ?_;exact byD)|(with_reducible refine ae ?_ ?_;exact byQ)
  intro t19 e19
  subst e19
  refine ah _ rfl (fun h19=>?_) (fun h19=>?_)
  ·
   (try simp only[go_sem] at h19)
   refine aj ?_
   simp only[go_sem]
   repeat first|(with_reducible refine ad ?_ ?_;exact byD)|(with_reducible refine ae ?_ ?_;exact byQ)
   intro t26 e26
   (try replace e26:=w64 e26 (by omega) (by omega))
   refine aj ?_
   simp only[go_sem]
   intro t12 e12
   (try replace e12:=w64 e12 (by omega) (by omega))
   have hx:t26=iy (l.take (i+1)) who:=by
    rw[iy,mc _ _ _ default (by omega),e26,if_pos h19];rfl
   refine ay (i+1) (by omega) (by first|omega|(dsimp only;omega)) byC
  ·
   (try simp only[go_sem] at h19)
   refine ag ?_
   (try simp only[go_sem])
   refine aj ?_
   simp only[go_sem]
   intro t12 e12
   (try replace e12:=w64 e12 (by omega) (by omega))
   have hx:iy (l.take i) who=iy (l.take (i+1)) who:=by
    rw[iy,iy,mc _ _ _ default (by omega),if_neg h19]
   refine ay (i+1) (by omega) (by first|omega|(dsimp only;omega)) byC
 ·
  (try simp only[go_sem] at h10)
  refine bk ?_
  simp only[go_sem]
  refine aa ?_
  simp only[go_sem]
  refine af ?_
  simp only[go_sem]
  refine am ?_
  rw[List.take_of_length_le (by omega)]
theorem sd (n a b:Int):Meets Tryz.prog 32 [.int .i64 n,.int .i64 a,.int .i64 b] (.bool (na n a b)) []:=by
 refine an (fn:=Tryz.f32) Tryz.func32 rfl fb32 (by kernel_rfl) (Nat.le_of_ble_eq_true rfl) ?_
 refine aa ?_
 simp only[go_sem]
 repeat first|(with_reducible refine ad ?_ ?_;exact byD)|(with_reducible refine ae ?_ ?_;exact byQ)
 refine aa ?_
 simp only[go_sem]
 intro t9 e9
 intro t13 e13
 intro t14 e14
 rw[ar] at e14
 subst e9 e13 e14
 refine af ?_
 simp only[go_sem]
 exact aq rfl
theorem RCheck_c (u:Uploads) (hl:u.ss.length<4611686018427387904) (hw:∀ s∈u.ss,s.who.length<4611686018427387904):Meets Tryz.prog 13 [u.enc] (.int .i64 (dj u)) []:=by
 refine an (fn:=Tryz.f13) Tryz.func13 rfl fb13 (by kernel_rfl) (Nat.le_of_ble_eq_true rfl) ?_
 refine aa ?_
 simp only[go_sem]
 repeat first|(with_reducible refine ad ?_ ?_;exact byD)|(with_reducible refine ae ?_ ?_;exact byQ)
 refine aa ?_
 simp only[go_sem]
 refine ab ?_
 refine aa ?_
 simp only[go_sem]
 refine cw_m (sd _ _ _) byW byT ?_
 simp only[go_sem]
 intro t12 e12
 refine⟨_,fun hp=>cw_m (sd _ _ _) byW byT ⟨rfl,rfl⟩, ?_⟩
 simp only[go_sem]
 intro t18 e18
 intro t19 e19
 rw[az] at e19
 refine⟨_,fun hp=>cw_m (sd _ _ _) byW byT ⟨rfl,rfl⟩, ?_⟩
 simp only[go_sem]
 intro t25 e25
 intro t26 e26
 rw[az] at e26
 subst e12 e18 e19 e25 e26
 refine ah _ rfl (fun h26=>?_) (fun h26=>?_)
 ·
  (try simp only[go_sem] at h26)
  refine aa ?_
  simp only[go_sem]
  refine af ?_
  simp only[go_sem]
  refine am ?_
  rcases h26 with (h|h)|h<;>simp[dj,h]
 ·
  (try simp only[go_sem] at h26)
  refine ag ?_
  (try simp only[go_sem])
  refine ab ?_
  refine aa ?_
  simp only[go_sem]
  intro t30 e30
  subst e30
  refine ah _ rfl (fun h30=>?_) (fun h30=>?_)
  ·
   (try simp only[go_sem] at h30)
   refine aa ?_
   simp only[go_sem]
   refine af ?_
   simp only[go_sem]
   refine am ?_
   simp[dj,h26,h30]
  ·
   (try simp only[go_sem] at h30)
   refine ag ?_
   (try simp only[go_sem])
   refine ab ?_
   refine aa ?_
   simp only[go_sem]
   refine ai ?_
   refine bm (σ:=Nat) (fun i=>i≤u.ss.length∧∀ j,j<i→db u (u.ss.getD j default)=0) (fun i=>[⟨4,0,[],.int .i64 (i:Nat)⟩]) [1,3] (fun i=>u.ss.length-i) 0 ⟨Nat.zero_le _,fun j hj=>absurd hj (Nat.not_lt_zero j)⟩ (Nat.zero_le _) byC (fun i hI1=>?_)
   simp only[go_sem]
   refine ab ?_
   refine aa ?_
   simp only[go_sem]
   repeat first|(with_reducible refine ad ?_ ?_;exact byD)|(with_reducible refine ae ?_ ?_;exact byQ)
   intro t35 e35
   subst e35
   refine ah _ rfl (fun h35=>?_) (fun h35=>?_)
   ·
    (try simp only[go_sem] at h35)
    refine ag ?_
    (try simp only[go_sem])
    refine ab (ai ?_)
    refine aa ?_
    simp only[go_sem]
    repeat first|(with_reducible refine ad ?_ ?_;exact byD)|(with_reducible refine ae ?_ ?_;exact byQ)
    refine ai ?_
    refine ab ?_
    refine aa ?_
    simp only[go_sem]
    intro t49 e49
    (try replace e49:=w64 e49 (by omega) (by omega))
    refine cw_m (sd _ _ _) byW byT ?_
    simp only[go_sem]
    intro t51 e51
    subst e51
    refine ah _ rfl (fun h43=>?_) (fun h43=>?_)
    ·
     (try simp only[go_sem] at h43)
     refine ag ?_
     (try simp only[go_sem])
     refine ah _ rfl (fun h43b=>?_) (fun h43b=>ew h43b)
     refine aa ?_
     simp only[go_sem]
     refine af ?_
     simp only[go_sem]
     subst e49
     have hk:db u (u.ss.getD i default)=3:=if_pos (by rw[h43];simp)
     refine am ?_
     have hf:=dq (f:=db u) (i:=i) (by omega) hI1.2 (by rw[hk];simp)
     rw[dj,if_neg (by simp[h26]),if_neg h30,hf,hk,if_pos (by simp)]
    ·
     (try simp only[go_sem] at h43)
     refine aa ?_
     simp only[go_sem]
     refine cw_m (sd _ _ _) byW byT ?_
     simp only[go_sem]
     intro t56 e56
     subst e56
     refine ah _ rfl (fun h43b=>?_) (fun h43b=>?_)
     ·
      (try simp only[go_sem] at h43b)
      refine ag ?_
      (try simp only[go_sem])
      refine ah _ rfl (fun h43c=>?_) (fun h43c=>ew h43c)
      refine aa ?_
      simp only[go_sem]
      refine af ?_
      simp only[go_sem]
      have hk:db u (u.ss.getD i default)=3:=if_pos (by rw[h43b];simp)
      refine am ?_
      have hf:=dq (f:=db u) (i:=i) (by omega) hI1.2 (by rw[hk];simp)
      rw[dj,if_neg (by simp[h26]),if_neg h30,hf,hk,if_pos (by simp)]
     ·
      (try simp only[go_sem] at h43b)
      refine aj ?_
      simp only[go_sem]
      refine cw_m (sd _ _ _) byW byT ?_
      simp only[go_sem]
      intro t61 e61
      subst e61
      refine ah _ rfl (fun h43c=>?_) (fun h43c=>?_)
      ·
       (try simp only[go_sem] at h43c)
       refine aa ?_
       simp only[go_sem]
       refine af ?_
       simp only[go_sem]
       have hk:db u (u.ss.getD i default)=3:=if_pos (by rw[h43c];simp)
       refine am ?_
       have hf:=dq (f:=db u) (i:=i) (by omega) hI1.2 (by rw[hk];simp)
       rw[dj,if_neg (by simp[h26]),if_neg h30,hf,hk,if_pos (by simp)]
      ·
       (try simp only[go_sem] at h43c)
       refine aa ?_
       simp only[go_sem]
       refine cw_m (zdj (u.ss.getD i default).who (hw _ (bj (by omega)))) byW byT ?_
       simp only[go_sem]
       intro t66 e66
       subst e66
       refine ah _ rfl (fun h62=>?_) (fun h62=>?_)
       ·
        (try simp only[go_sem] at h62)
        refine aa ?_
        simp only[go_sem]
        refine af ?_
        simp only[go_sem]
        subst e49
        have hk:db u (u.ss.getD i default)=1:=by rw[db,if_neg (by simp only[wrap];rw[h43,h43b,h43c];simp),if_pos h62]
        refine am ?_
        have hf:=dq (f:=db u) (i:=i) (by omega) hI1.2 (by rw[hk];simp)
        rw[dj,if_neg (by simp[h26]),if_neg h30,hf,hk,if_pos (by simp)]
       ·
        (try simp only[go_sem] at h62)
        refine aa ?_
        simp only[go_sem]
        intro t73 e73
        subst e73
        refine ah _ rfl (fun h67=>?_) (fun h67=>?_)
        ·
         (try simp only[go_sem] at h67)
         refine aa ?_
         simp only[go_sem]
         refine af ?_
         simp only[go_sem]
         subst e49
         have hk:db u (u.ss.getD i default)=2:=by rw[db,if_neg (by simp only[wrap];rw[h43,h43b,h43c];simp),if_neg (by rw[h62];simp),if_pos h67]
         refine am ?_
         have hf:=dq (f:=db u) (i:=i) (by omega) hI1.2 (by rw[hk];simp)
         rw[dj,if_neg (by simp[h26]),if_neg h30,hf,hk,if_pos (by simp)]
        ·
         (try simp only[go_sem] at h67)
         refine ag ?_
         (try simp only[go_sem])
         refine aj ?_
         simp only[go_sem]
         intro t37 e37
         (try replace e37:=w64 e37 (by omega) (by omega))
         subst e49
         have hk:db u (u.ss.getD i default)=0:=by
          rw[db,if_neg (by simp only[wrap];rw[h43,h43b,h43c];simp),if_neg (by rw[h62];simp),if_neg h67]
         refine ay (i+1) ⟨by omega,bw hI1.2 hk⟩ (by first|omega|(dsimp only;omega)) byC
   ·
    (try simp only[go_sem] at h35)
    have hf:=fw (f:=db u) (l:=u.ss) (d:=default) fun j hj=>hI1.2 j (by omega)
    refine bk ?_
    simp only[go_sem]
    refine ab ?_
    refine aa ?_
    simp only[go_sem]
    refine ai ?_
    refine bm (σ:=Nat) (fun i=>1≤i∧(i=1∨i≤u.ss.length)∧∀ j,1≤j→j<i→gb u.ss j=true) (fun i=>[⟨6,0,[],.int .i64 (i:Nat)⟩]) [1] (fun i=>u.ss.length-i) 1 ⟨Nat.le_refl _,.inl rfl,fun j hj hj'=>by omega⟩ (Nat.zero_le _) byC (fun i hI2=>?_)
    simp only[go_sem]
    refine ab ?_
    refine aa ?_
    simp only[go_sem]
    repeat first|(with_reducible refine ad ?_ ?_;exact byD)|(with_reducible refine ae ?_ ?_;exact byQ)
    intro t78 e78
    subst e78
    refine ah _ rfl (fun h78=>?_) (fun h78=>?_)
    ·
     (try simp only[go_sem] at h78)
     refine ag ?_
     (try simp only[go_sem])
     refine ab (ai ?_)
     refine ab (bc cj [] (.first 0 (.first 1 (.first 2 (.first 3 (.first 4 (.first 5 (.first 6 (.first 7 (.first 8 (.first 9 (.first 10 (.first 11 (.first 12 (.first 13 (.done))))))))))))))) (by kernel_rfl) ?_)
     simp only[go_sem]
     repeat first|(with_reducible refine ad ?_ ?_;exact byD)|(with_reducible refine ae ?_ ?_;exact byQ)
     intro t90 e90
     (try replace e90:=w64 e90 (by omega) (by omega))
     repeat first|(with_reducible refine ad ?_ ?_;exact byD)|(with_reducible refine ae ?_ ?_;exact byQ)
     intro t94 e94
     subst e94
     refine ah _ rfl (fun h94=>?_) (fun h94=>?_)
     ·
      (try simp only[go_sem] at h94)
      refine aa ?_
      simp only[go_sem]
      refine af ?_
      simp only[go_sem]
      refine am ?_
      have hk:((i:Int)-1).toNat=i-1:=by omega
      subst e90
      rw[hk] at h94
      have hr:((List.range u.ss.length).all fun i=>i=0 || gb u.ss i)=false:=dl (i:=i) (by omega) (by
       have:¬ i=0:=by omega
       simp only[this,decide_false,Bool.false_or,gb,decide_eq_false_iff_not];omega)
      rw[dj,if_neg (by simp[h26]),if_neg h30,hf,if_neg (by simp),hr,if_pos rfl]
     ·
      (try simp only[go_sem] at h94)
      refine ag ?_
      (try simp only[go_sem])
      refine aj ?_
      simp only[go_sem]
      intro t80 e80
      (try replace e80:=w64 e80 (by omega) (by omega))
      have hk:((i:Int)-1).toNat=i-1:=by omega
      subst e90
      rw[hk] at h94
      refine ay (i+1) ⟨by omega,by omega,fun j h1 hj=>?_⟩ (by first|omega|(dsimp only;omega)) byC
      exact bw (p:=fun j=>1≤j→gb u.ss j=true) (fun j hj h1=>hI2.2.2 j h1 hj) (fun _=>by simp only[gb,decide_eq_true_eq];omega) j hj h1
    ·
     (try simp only[go_sem] at h78)
     have hr:((List.range u.ss.length).all fun i=>i=0 || gb u.ss i)=true:=dk fun j hj=>by
      by_cases h0:j=0
      ·simp[h0]
      ·simp[hI2.2.2 j (by omega) (by omega)]
     refine bk ?_
     simp only[go_sem]
     refine ab ?_
     refine aa ?_
     simp only[go_sem]
     refine ai ?_
     refine bm (σ:=Nat) (fun i=>i≤u.ss.length∧∀ j,j<i→iy u.ss (u.ss.getD j default).who≤u.room) (fun i=>[⟨7,0,[],.int .i64 (i:Nat)⟩]) [1] (fun i=>u.ss.length-i) 0 ⟨Nat.zero_le _,fun j hj=>absurd hj (Nat.not_lt_zero j)⟩ (Nat.zero_le _) byC (fun i hI3=>?_)
     simp only[go_sem]
     refine ab ?_
     refine aa ?_
     simp only[go_sem]
     repeat first|(with_reducible refine ad ?_ ?_;exact byD)|(with_reducible refine ae ?_ ?_;exact byQ)
     intro t99 e99
     subst e99
     refine ah _ rfl (fun h99=>?_) (fun h99=>?_)
     ·
      (try simp only[go_sem] at h99)
      refine ag ?_
      (try simp only[go_sem])
      refine ab (ai ?_)
      refine ab (bc cj [] (.first 0 (.first 1 (.first 2 (.first 3 (.first 4 (.first 5 (.first 6 (.first 7 (.first 9 (.first 10 (.one 8 (.first 11 (.done))))))))))))) (by kernel_rfl) ?_)
      simp only[go_sem]
      repeat first|(with_reducible refine ad ?_ ?_;exact byD)|(with_reducible refine ae ?_ ?_;exact byQ)
      refine ek (zvd u.ss _ hl) byW byT ?_
      simp only[go_sem]
      intro t113 e113
      subst e113
      refine ah _ rfl (fun h113=>?_) (fun h113=>?_)
      ·
       (try simp only[go_sem] at h113)
       refine aa ?_
       simp only[go_sem]
       refine af ?_
       simp only[go_sem]
       refine am ?_
       have ho:(u.ss.all fun s=>decide (iy u.ss s.who≤u.room))=false:=zoq (d:=default) (i:=i) (by omega) (by simp only[decide_eq_false_iff_not];omega)
       rw[dj,if_neg (by simp[h26]),if_neg h30,hf,if_neg (by simp),hr,if_neg (by simp),ho,if_pos rfl]
      ·
       (try simp only[go_sem] at h113)
       refine ag ?_
       (try simp only[go_sem])
       refine aj ?_
       simp only[go_sem]
       intro t101 e101
       (try replace e101:=w64 e101 (by omega) (by omega))
       refine ay (i+1) ⟨by omega,bw hI3.2 (by omega)⟩ (by first|omega|(dsimp only;omega)) byC
     ·
      (try simp only[go_sem] at h99)
      refine bk ?_
      simp only[go_sem]
      refine aa ?_
      simp only[go_sem]
      refine af ?_
      simp only[go_sem]
      refine am ?_
      have ho:(u.ss.all fun s=>decide (iy u.ss s.who≤u.room))=true:=zoa (d:=default) fun j hj=>by simpa using hI3.2 j (by omega)
      rw[dj,if_neg (by simp[h26]),if_neg h30,hf,if_neg (by simp),hr,if_neg (by simp),ho,if_neg (by simp)]
end Go.VM.Tryz.Up
end
section
set_option maxHeartbeats 4000000
open Go Go.VM Go.Proofs Tether
namespace Go.VM.Tryz.Up
end Go.VM.Tryz.Up
end
section
set_option maxHeartbeats 4000000
open Go Go.VM Go.Proofs Tether
namespace Go.VM.Tryz.Up
set_option maxHeartbeats 4000000
end Go.VM.Tryz.Up
end
section
set_option maxHeartbeats 4000000
open Go Go.VM Go.Proofs Tether
namespace Go.VM.Tryz.Up
set_option maxHeartbeats 4000000
theorem RSame_c (a b:Uploads) (ha:a.ss.length<4611686018427387904) (hb:b.ss.length<4611686018427387904):Meets Tryz.prog 35 [a.enc,b.enc] (.bool (zcc a b)) []:=by
 refine an (fn:=Tryz.f35) Tryz.func35 rfl fb35 (by kernel_rfl) (Nat.le_of_ble_eq_true rfl) ?_
 refine aa ?_
 simp only[go_sem]
 repeat first|(with_reducible refine ad ?_ ?_;exact byD)|(with_reducible refine ae ?_ ?_;exact byQ)
 refine ab ?_
 refine aa ?_
 simp only[go_sem]
 intro t10 e10
 intro t16 e16
 intro t17 e17
 rw[az] at e17
 intro t23 e23
 intro t24 e24
 rw[az] at e24
 intro t32 e32
 intro t33 e33
 rw[az] at e33
 subst e10 e16 e17 e23 e24 e32 e33
 refine ah _ rfl (fun h33=>?_) (fun h33=>?_)
 ·
  (try simp only[go_sem] at h33)
  refine aa ?_
  simp only[go_sem]
  refine af ?_
  simp only[go_sem]
  refine aq ?_
  simp only[zcc]
  rcases h33 with ((h|h)|h)|h<;>simp[h]
 ·
  (try simp only[go_sem] at h33)
  refine ag ?_
  (try simp only[go_sem])
  refine ab ?_
  refine aa ?_
  simp only[go_sem]
  refine ai ?_
  refine bm (σ:=Nat) (fun i=>i≤a.ss.length∧∀ j,j<i→ya (a.ss.getD j default) (b.ss.getD j default)=true) (fun i=>[⟨5,0,[],.int .i64 (i:Nat)⟩]) [2,3] (fun i=>a.ss.length-i) 0 ⟨Nat.zero_le _,fun j hj=>absurd hj (Nat.not_lt_zero j)⟩ (Nat.zero_le _) byC (fun i hI1=>?_)
  simp only[go_sem]
  refine ab ?_
  refine aa ?_
  simp only[go_sem]
  repeat first|(with_reducible refine ad ?_ ?_;exact byD)|(with_reducible refine ae ?_ ?_;exact byQ)
  intro t38 e38
  subst e38
  refine ah _ rfl (fun h38=>?_) (fun h38=>?_)
  ·
   (try simp only[go_sem] at h38)
   refine ag ?_
   (try simp only[go_sem])
   refine ab (ai ?_)
   refine ab (bc cj [] (.first 0 (.first 1 (.first 2 (.first 3 (.first 4 (.first 5 (.first 6 (.first 7 (.first 8 (.first 9 (.first 10 (.done)))))))))))) (by kernel_rfl) ?_)
   simp only[go_sem]
   repeat first|(with_reducible refine ad ?_ ?_;exact byD)|(with_reducible refine ae ?_ ?_;exact byQ)
   intro t51 e51
   subst e51
   refine ah _ rfl (fun h51=>?_) (fun h51=>?_)
   ·
    (try simp only[go_sem] at h51)
    refine aa ?_
    simp only[go_sem]
    refine af ?_
    simp only[go_sem]
    refine aq ?_
    have hk:ya (a.ss.getD i default) (b.ss.getD i default)=false:=by
     rw[← Bool.not_eq_true];intro h;simp only[ya,Bool.and_eq_true,decide_eq_true_eq] at h
     rcases h51 with h1|h1|h1|h1|h1
     ·exact h1 h.1
     ·exact h1 h.2.1
     ·exact h1 h.2.2.1
     ·exact h1 h.2.2.2.1
     ·exact h1 h.2.2.2.2
    rw[zcc,dl (i:=i) (by omega) hk,Bool.and_false]
   ·
    (try simp only[go_sem] at h51)
    refine ag ?_
    (try simp only[go_sem])
    refine aj ?_
    simp only[go_sem]
    intro t40 e40
    (try replace e40:=w64 e40 (by omega) (by omega))
    have hk:ya (a.ss.getD i default) (b.ss.getD i default)=true:=by
     simp only[ya,Bool.and_eq_true,decide_eq_true_eq];exact h51
    refine ay (i+1) ⟨by omega,bw hI1.2 hk⟩ (by first|omega|(dsimp only;omega)) byC
  ·
   (try simp only[go_sem] at h38)
   refine bk ?_
   simp only[go_sem]
   refine aa ?_
   simp only[go_sem]
   refine af ?_
   simp only[go_sem]
   refine aq ?_
   rw[zcc,dk (fun j hj=>hI1.2 j (by omega)),h33.1.1.1,h33.1.1.2,h33.1.2,h33.2]
   simp
end Go.VM.Tryz.Up
end
section
set_option maxHeartbeats 4000000
open Go Go.VM Go.Proofs Tether
namespace Go.VM.Tryz.Up
set_option maxHeartbeats 4000000
end Go.VM.Tryz.Up
end
section
set_option maxHeartbeats 4000000
open Go Go.VM Go.Proofs Tether
namespace Go.VM.Tryz
def eu (h:Hub) (p:Str):List Entry × Int :=
 if dn h≠0 then ([],dn h) else if hasF h.folders p=false then ([],5) else bl (h.folders.getD (fIx h.folders p) default).jn
theorem vl (h:Hub) (p:Str) (ok:dz h):Meets Tryz.prog 21 [.agg (hubE h),.str p] (.tup [esV (eu h p).1,.int .i64 (eu h p).2]) []:=by
 refine an (fn:=Tryz.f21) Tryz.func21 rfl fb21 (by kernel_rfl) (Nat.le_of_ble_eq_true rfl) ?_
 have hfl:=ok.1.1
 refine aa ?_
 simp only[go_sem]
 repeat first|(with_reducible refine ad ?_ ?_;exact byD)|(with_reducible refine ae ?_ ?_;exact byQ)
 refine ab ?_
 refine aa ?_
 simp only[go_sem]
 refine cw_m (nz h ok) byW byT ?_
 simp only[go_sem]
 refine aa ?_
 simp only[go_sem]
 intro t12 e12
 subst e12
 refine ah _ rfl (fun h12=>?_) (fun h12=>?_)
 ·
  (try simp only[go_sem] at h12)
  refine aa ?_
  simp only[go_sem]
  refine af ?_
  simp only[go_sem]
  have he:eu h p=([],dn h):=by rw[eu,if_pos (by simpa using h12)]
  rw[he]
  exact ap 2 [] rfl byC byC byC byC
 ·
  (try simp only[go_sem] at h12)
  have hc:dn h=0:=by simpa using h12
  have g:=checkH_good.1 hc
  refine ag ?_
  (try simp only[go_sem])
  refine aa ?_
  simp only[go_sem]
  refine cw_m (tz h p g.sorted (by omega)) byW byT ?_
  simp only[go_sem]
  refine ab ?_
  refine aa ?_
  simp only[go_sem]
  intro t21 e21
  subst e21
  refine ah _ rfl (fun h21=>?_) (fun h21=>?_)
  ·
   (try simp only[go_sem] at h21)
   refine aa ?_
   simp only[go_sem]
   refine af ?_
   simp only[go_sem]
   have he:eu h p=([],5):=by rw[eu,if_neg (by simpa using hc),if_pos (by simpa using h21)]
   rw[he]
   exact ap 2 [] rfl byC byC byC byC
  ·
   (try simp only[go_sem] at h21)
   have hh:hasF h.folders p=true:=by simpa using h21
   have hix:fIx h.folders p<h.folders.length:=by rw[lw] at hh;simp at hh;exact hh.1
   have hmem:=ok.1.2 _ (bj (l:=h.folders) (d:=default) hix)
   refine ag ?_
   (try simp only[go_sem])
   refine aa ?_
   simp only[go_sem]
   repeat first|(with_reducible refine ad ?_ ?_;exact byD)|(with_reducible refine ae ?_ ?_;exact byQ)
   refine cw_m (z3m (h.folders.getD (fIx h.folders p) default).jn hmem.2) byW byT ?_
   simp only[go_sem]
   refine af ?_
   simp only[go_sem]
   have he:eu h p=bl (h.folders.getD (fIx h.folders p) default).jn:=by rw[eu,if_neg (by simpa using hc),if_neg (by simp[hh])]
   rw[he]
   exact ap 2 [] rfl byC byC byC byC
theorem zxr {l:List Shared} (hs:fo l) {i:Nat} (hi:i<l.length):fIx l (l.getD i default).name=i∧hasF l (l.getD i default).name=true:=by
 have hn:(l.getD i default).name=((l.map keyE)[i]'(by simpa using hi)).path:=by simp[List.getD,hi,keyE]
 have h1:hasF l (l.getD i default).name=true:=(ld hs).2 ⟨l.getD i default,bj hi,rfl⟩
 refine⟨?_,h1⟩
 have h2:=h1
 rw[lw] at h2
 simp only[Bool.and_eq_true,decide_eq_true_eq] at h2
 generalize fIx l (l.getD i default).name=k at h2 ⊢
 have e:((l.map keyE)[k]'(by simpa using h2.1)).path=((l.map keyE)[i]'(by simpa using hi)).path:=by
  refine Eq.trans ?_ (h2.2.trans hn)
  simp[List.getD,h2.1,keyE]
 exact si hs (by simpa using h2.1) (by simpa using hi) e
end Go.VM.Tryz
end
section
set_option maxHeartbeats 4000000
open Go Go.VM Go.Proofs Tether
namespace Go.VM.Tryz
theorem zhy {l:List Grant} {f b w:Str} {r:Int} (h:eo l=0):Gr.giveG l f b w r=Gr.giveO l f b w r:=by rw[Gr.giveG,if_neg (by simp[h])];rfl
theorem zho {l:List Grant} {f w:Str} (h:eo l=0):Gr.makeG l f w=Gr.makeO l f w:=by rw[Gr.makeG,if_neg (by simp[h])];rfl
def bi (h:Hub) (r:Request):Hub × Answer:=if (bd h r).2.2≠0 then (h,⟨(bd h r).2.2,0,noG⟩) else ((bd h r).1,(bd h r).2.1)
theorem jt {h:Hub} {r:Request} (g:GoodH h):dg h r=((bi h r).1,(bi h r).2,0):=by
 rw[dg,if_neg (by simp[checkH_good.2 g]),bi]
 split<;>rfl
end Go.VM.Tryz
end
