import Derived.Test.YtmbnphmhaoomoaaGreatDoorAW5
import Derived.Test.YtmbnphmhaoomoaaGreatDoorAV8
set_option maxHeartbeats 4000000
set_option linter.unusedVariables false
set_option linter.unusedSimpArgs false
set_option maxRecDepth 100000
section
open Go Go.VM Go.Proofs Tether
namespace Go.VM.Tryz
theorem zkd {j:Journal} (h:(bl j).2=0):FullT j.base:=by
 have h0:dd j.base=0:=by unfold bl at h;grind
 exact checkT_iff.1 h0
end Go.VM.Tryz
end
section
open Go Go.VM Go.Proofs Tether
namespace Go.VM.Tryz
def noG:Page:=⟨false,[],[],0,false⟩
def sm (j:Journal) (cur most:Int):List Commit:=(j.commits.drop (cur-j.first+1).toNat).take most.toNat
def px (j:Journal) (cur most:Int):Page × Int :=
 if (bl j).2≠0 then (noG,(bl j).2) else if most<1∨10<most∨cur<0 then (noG,3) else if j.first+j.commits.length-1<cur then (noG,5)
 else if cur<j.first-1 then (⟨true,(bl j).1,[],j.first+j.commits.length-1,false⟩,0)
 else (⟨false,[],sm j cur most,cur+(sm j cur most).length,decide (cur+(sm j cur most).length<j.first+j.commits.length-1)⟩,0)
theorem zoh {j:Journal} (ok:okJ j) (cur most:Int):okMs (sm j cur most):=by
 refine⟨?_,fun c hc=>ok.2.2 c (List.mem_of_mem_drop (List.mem_of_mem_take hc))⟩
 have:=ok.2.1
 unfold sm
 simp
 omega
theorem zye (j:Journal) (cur most:Int) (ok:okJ j):Meets Tryz.prog 124 [.agg (jnE j),.int .i64 cur,.int .i64 most] (.tup [.agg (pgE (px j cur most).1),.int .i64 (px j cur most).2]) []:=by
 refine an (fn:=Tryz.f124) Tryz.func124 rfl fb124 (by kernel_rfl) (Nat.le_of_ble_eq_true rfl) ?_
 have hbl:=ok.1.1
 have hcl:=ok.2.1
 refine aa ?_
 simp only[go_sem]
 repeat first|(with_reducible refine ad ?_ ?_;exact byD)|(with_reducible refine ae ?_ ?_;exact byQ)
 refine aa ?_
 simp only[go_sem]
 repeat first|(with_reducible refine ad ?_ ?_;exact byD)|(with_reducible refine ae ?_ ?_;exact byQ)
 by_cases hs14:(bl j).2=0
 ·
  refine cw_m (Open_c j ok _ _ (fun _=>⟨rfl,rfl⟩) (fun h=>absurd hs14 h)) byW byT ?_
  simp only[go_sem]
  have hrn:(bl j).2=0→1≤j.first∧j.first≤1000000∧j.commits.length≤30:=fun h=>pg h
  have hfl:(bl j).2=0→(bl j).1.length≤60:=fun h=>(nw ok h).len
  refine ab (ai ?_)
  refine aa ?_
  simp only[go_sem]
  intro t19 e19
  subst e19
  refine ah _ rfl (fun h17=>ew h17) (fun h17=>?_)
  refine aa ?_
  simp only[go_sem]
  intro t22 e22
  intro t25 e25
  intro t26 e26
  rw[az] at e26
  intro t29 e29
  intro t30 e30
  rw[az] at e30
  subst e22 e25 e26 e29 e30
  refine ah _ rfl (fun h20=>?_) (fun h20=>?_)
  ·
   (try simp only[go_sem] at h20)
   refine aj ?_
   simp only[go_sem]
   refine ab ?_
   refine aa ?_
   simp only[go_sem]
   intro t37 e37
   subst e37
   refine ah _ rfl (fun h37=>?_) (fun h37=>ew h37)
   refine aa ?_
   simp only[go_sem]
   refine af ?_
   simp only[go_sem]
   have hc:px j cur most=(noG,3):=by rw[px,if_neg (by simpa using hs14),if_pos (by omega)]
   rw[hc]
   exact ap 2 [] rfl byC byC byC byC
  ·
   (try simp only[go_sem] at h20)
   obtain⟨hr1,hr2,hr3⟩:=hrn hs14
   have hfl:=hfl hs14
   refine aa ?_
   simp only[go_sem]
   refine cw_v 2 (zhj j (bl j).1 (by omega) (by omega) hcl) byV byC rfl ?_
   simp only[go_sem]
   intro t35 e35
   subst e35
   refine ah _ rfl (fun h31=>?_) (fun h31=>?_)
   ·
    (try simp only[go_sem] at h31)
    refine aj ?_
    simp only[go_sem]
    refine ab ?_
    refine aa ?_
    simp only[go_sem]
    intro t37 e37
    subst e37
    refine ah _ rfl (fun h37=>?_) (fun h37=>ew h37)
    refine aa ?_
    simp only[go_sem]
    refine af ?_
    simp only[go_sem]
    have hc:px j cur most=(noG,5):=by rw[px,if_neg (by simpa using hs14),if_neg (by omega),if_pos h31]
    rw[hc]
    exact ap 2 [] rfl byC byC byC byC
   ·
    (try simp only[go_sem] at h31)
    refine ag ?_
    (try simp only[go_sem])
    refine ab ?_
    refine aa ?_
    simp only[go_sem]
    intro t37 e37
    subst e37
    refine ah _ rfl (fun h37=>ew h37) (fun h37=>?_)
    refine ag ?_
    (try simp only[go_sem])
    refine ab ?_
    refine aa ?_
    simp only[go_sem]
    intro t43 e43
    (try replace e43:=w64 e43 (by omega) (by omega))
    intro t44 e44
    subst e44
    refine ah _ rfl (fun h44=>?_) (fun h44=>?_)
    ·
     (try simp only[go_sem] at h44)
     refine aa ?_
     simp only[go_sem]
     refine cw_m (jy (bl j).1 (by omega)) byW byT ?_
     simp only[go_sem]
     refine cw_v 2 (zhj j (bl j).1 (by omega) (by omega) hcl) byV byC rfl ?_
     simp only[go_sem]
     refine af ?_
     simp only[go_sem]
     have hc:px j cur most=(⟨true,(bl j).1,[],j.first+j.commits.length-1,false⟩,0):=by rw[px,if_neg (by simpa using hs14),if_neg (by omega),if_neg h31,if_pos (by omega)]
     rw[hc]
     exact ap 2 [] rfl byC byC byC byC
    ·
     (try simp only[go_sem] at h44)
     refine ag ?_
     (try simp only[go_sem])
     refine aa ?_
     simp only[go_sem]
     intro t58 e58
     (try replace e58:=w64 e58 (by omega) (by omega))
     intro t59 e59
     (try replace e59:=w64 e59 (by omega) (by omega))
     repeat first|(with_reducible refine ad ?_ ?_;exact byD)|(with_reducible refine ae ?_ ?_;exact byQ)
     refine aa ?_
     simp only[go_sem]
     repeat first|(with_reducible refine ad ?_ ?_;exact byD)|(with_reducible refine ae ?_ ?_;exact byQ)
     have hn:(if most<((j.commits.length-t59.toNat:Nat):Int) then most else ((j.commits.length-t59.toNat:Nat):Int)).toNat=(sm j cur most).length:=by
      unfold sm
      rw[List.length_take,List.length_drop,← show t59=cur-j.first+1 by omega]
      split<;>omega
     refine cw_m (um (sm j cur most) (zoh ok cur most)) ?_ byT ?_
     ·rw[hn]
      simp only[wks,wk,and_true,true_and]
      refine⟨.inr rfl,.inr rfl,fun i hi=>?_⟩
      have:En cmE default (List.drop t59.toNat j.commits) i=En cmE default (sm j cur most) i:=by
       have hi2:=hi
       unfold sm at hi2 ⊢
       rw[← show t59=cur-j.first+1 by omega] at hi2 ⊢
       simp only[En,List.getD_eq_getElem?_getD]
       rw[List.getElem?_take_of_lt (by simp at hi2;omega)]
      rw[this]
      exact ak _
     simp only[go_sem]
     refine aa ?_
     simp only[go_sem]
     intro t72 e72
     (try replace e72:=w64 e72 (by omega) (by omega))
     refine ab (bc cj [6] (.first 0 (.first 1 (.first 2 (.one 3 (.first 4 (.first 5 (.one 6 (.done)))))))) (by kernel_rfl) ?_)
     simp only[go_sem]
     refine zil 2 (zhj j (bl j).1 (by omega) (by omega) hcl) byV byC rfl ?_
     simp only[go_sem]
     intro t78 e78
     subst e78
     refine aa ?_
     simp only[go_sem]
     refine af ?_
     simp only[go_sem]
     have hc:px j cur most=(⟨false,[],sm j cur most,cur+(sm j cur most).length,decide (cur+(sm j cur most).length<j.first+j.commits.length-1)⟩,0):=by rw[px,if_neg (by simpa using hs14),if_neg (by omega),if_neg h31,if_neg (by omega)]
     rw[hc]
     exact ap 2 [] rfl byC byC byC byC
 ·
  refine cw_m (Open_c j ok _ _ (fun h=>absurd h hs14) (fun _=>⟨rfl,rfl⟩)) byW byT ?_
  simp only[go_sem]
  have hrn:(bl j).2=0→1≤j.first∧j.first≤1000000∧j.commits.length≤30:=fun h=>pg h
  have hfl:(bl j).2=0→(bl j).1.length≤60:=fun h=>(nw ok h).len
  refine ab (ai ?_)
  refine aa ?_
  simp only[go_sem]
  intro t19 e19
  subst e19
  refine ah _ rfl (fun h17=>?_) (fun h17=>?_)
  ·
   (try simp only[go_sem] at h17)
   refine ag ?_
   (try simp only[go_sem])
   refine ab ?_
   refine aa ?_
   simp only[go_sem]
   intro t37 e37
   subst e37
   refine ah _ rfl (fun h37=>?_) (fun h37=>?_)
   ·
    (try simp only[go_sem] at h37)
    refine aa ?_
    simp only[go_sem]
    refine af ?_
    simp only[go_sem]
    have hc:px j cur most=(noG,(bl j).2):=by rw[px,if_pos hs14]
    rw[hc]
    exact ap 2 [] rfl byC byC byC byC
   ·simp_all
  ·simp_all
end Go.VM.Tryz
end
