import Derived.Test.YtmbnphmhaoomoaaGreatDoorAW2
import Derived.Test.YtmbnphmhaoomoaaGreatDoorAW1
set_option linter.unusedVariables false
set_option linter.unusedSimpArgs false
set_option maxRecDepth 100000
section
set_option maxHeartbeats 4000000
open Go Go.VM Go.Proofs Tether
namespace Go.VM.Tryz.Gr
set_option maxHeartbeats 1000000
theorem Or_c (l:List Int) (hl:l.length<4611686018427387904):Meets Tryz.prog 120 [lstV 1 numE 0 l] (.int .i64 (match l.find? (fun n=>decide (¬ n=0)) with|some n=>n|none=>0)) []:=by
 refine an (fn:=Tryz.f120) Tryz.func120 rfl fb120 (by kernel_rfl) (Nat.le_of_ble_eq_true rfl) ?_
 refine aa ?_
 simp only[go_sem]
 repeat first|(with_reducible refine ad ?_ ?_;exact byD)|(with_reducible refine ae ?_ ?_;exact byQ)
 refine aa ?_
 simp only[go_sem]
 refine ab ?_
 refine aa ?_
 simp only[go_sem]
 refine ai ?_
 refine bm (σ:=Nat) (fun i=>i≤l.length∧∀ j,j<i→l.getD j 0=0) (fun i=>[⟨8,0,[],.int .i64 (i:Nat)⟩]) [3,6,7] (fun i=>l.length-i) 0 ⟨Nat.zero_le _,fun j hj=>absurd hj (Nat.not_lt_zero j)⟩ (Nat.zero_le _) byC (fun i hI1=>?_)
 simp only[go_sem]
 refine aa ?_
 simp only[go_sem]
 repeat first|(with_reducible refine ad ?_ ?_;exact byD)|(with_reducible refine ae ?_ ?_;exact byQ)
 intro t9 e9
 subst e9
 refine ab ?_
 refine ah _ rfl (fun h9=>?_) (fun h9=>?_)
 ·
  (try simp only[go_sem] at h9)
  refine ag ?_
  (try simp only[go_sem])
  refine ab (ai ?_)
  refine aa ?_
  simp only[go_sem]
  repeat first|(with_reducible refine ad ?_ ?_;exact byD)|(with_reducible refine ae ?_ ?_;exact byQ)
  refine aa ?_
  simp only[go_sem]
  intro t14 e14
  subst e14
  refine ah _ rfl (fun h14=>?_) (fun h14=>?_)
  ·
   (try simp only[go_sem] at h14)
   refine aa ?_
   simp only[go_sem]
   refine af ?_
   simp only[go_sem]
   refine am ?_
   have:l.find? (fun n=>decide (¬ n=0))=some (l.getD i 0):=by
    rw[List.find?_eq_some_iff_getElem]
    have hi:i<l.length:=by omega
    refine⟨by simpa using h14,i,hi,by simp[List.getD,hi],fun j hj=>?_⟩
    have:=hI1.2 j hj
    simpa [List.getD,show j<l.length by omega] using this
   rw[this]
  ·
   (try simp only[go_sem] at h14)
   refine ag ?_
   (try simp only[go_sem])
   refine aj ?_
   simp only[go_sem]
   intro t16 e16
   (try replace e16:=w64 e16 (by omega) (by omega))
   refine ay (i+1) ⟨by omega,bw hI1.2 h14⟩ (by first|omega|(dsimp only;omega)) byC
 ·
  (try simp only[go_sem] at h9)
  refine bk ?_
  simp only[go_sem]
  refine aa ?_
  simp only[go_sem]
  refine af ?_
  simp only[go_sem]
  refine am ?_
  have:l.find? (fun n=>decide (¬ n=0))=none:=by
   rw[List.find?_eq_none]
   intro x hx
   obtain⟨j,hj,rfl⟩:=List.getElem_of_mem hx
   have:=hI1.2 j (by omega)
   simpa [List.getD,hj] using this
  rw[this]
theorem zoz (a b:Grant):Meets Tryz.prog 75 [.agg a.enc,.agg b.enc] (.int .i64 (ky a b)) []:=by
 refine an (fn:=Tryz.f75) Tryz.func75 rfl fb75 (by kernel_rfl) (Nat.le_of_ble_eq_true rfl) ?_
 refine aa ?_
 simp only[go_sem]
 repeat first|(with_reducible refine ad ?_ ?_;exact byD)|(with_reducible refine ae ?_ ?_;exact byQ)
 refine ab (bc cj [] (.first 0 (.first 1 (.first 2 (.first 3 (.first 5 (.first 6 (.first 7 (.first 8 (.one 4 (.one 9 (.one 10 (.one 11 (.first 12 (.done)))))))))))))) (by kernel_rfl) ?_)
 simp only[go_sem]
 refine ek (rq a.folder b.folder) byW byT ?_
 simp only[go_sem]
 refine ek (rq a.who b.who) byW byT ?_
 simp only[go_sem]
 refine zil 2 (Or_c [cmpS a.folder b.folder,cmpS a.who b.who] (by simp)) byV byC rfl ?_
 simp only[go_sem]
 refine af ?_
 simp only[go_sem]
 refine am ?_
 unfold ky
 by_cases h:cmpS a.folder b.folder=0
 ·by_cases h2:cmpS a.who b.who=0<;>simp[h,h2]
 ·simp[h]
theorem zsb (s:Str) (hs:s.length<4611686018427387904):Meets Tryz.prog 107 [.str s] (.bool (!ba s)) []:=by
 refine an (fn:=Tryz.f107) Tryz.func107 rfl fb107 (by kernel_rfl) (Nat.le_of_ble_eq_true rfl) ?_
 refine aa ?_
 simp only[go_sem]
 repeat first|(with_reducible refine ad ?_ ?_;exact byD)|(with_reducible refine ae ?_ ?_;exact byQ)
 refine aa ?_
 simp only[go_sem]
 refine cw_m (jc s hs) byW byT ?_
 simp only[go_sem]
 intro t5 e5
 subst e5
 refine af ?_
 simp only[go_sem]
 exact aq rfl
theorem zao (l:List Str) (hl:l.length<4611686018427387904) (hs:∀ s∈l,s.length<4611686018427387904):Meets Tryz.prog 62 [strsV l] (.bool (l.all ba)) []:=by
 refine an (fn:=Tryz.f62) Tryz.func62 rfl fb62 (by kernel_rfl) (Nat.le_of_ble_eq_true rfl) ?_
 refine aa ?_
 simp only[go_sem]
 repeat first|(with_reducible refine ad ?_ ?_;exact byD)|(with_reducible refine ae ?_ ?_;exact byQ)
 refine aa ?_
 simp only[go_sem]
 refine cw_m (qd 107 [] rfl (fun s=>!ba s) l (fun s h=>zsb s (hs s h)) hl) byW byT ?_
 simp only[go_sem]
 intro t5 e5
 subst e5
 refine af ?_
 simp only[go_sem]
 refine aq ?_
 simp[List.all_eq_not_any_not]
theorem tz (l:List Grant) (hl:l.length<4611686018427387904) (hs:ec l) (f w:Str):Meets Tryz.prog 108 [gsV l,.str f,.str w] (.tup [.int .i64 (gIx l f w:Nat),.bool (hasG l f w)]) []:=by
 refine an (fn:=Tryz.f108) Tryz.func108 rfl fb108 (by kernel_rfl) (Nat.le_of_ble_eq_true rfl) ?_
 refine aa ?_
 simp only[go_sem]
 repeat first|(with_reducible refine ad ?_ ?_;exact byD)|(with_reducible refine ae ?_ ?_;exact byQ)
 refine aa ?_
 simp only[go_sem]
 refine cw_m (zo 75 ⟨f,w,0⟩ (fun g=>ky g ⟨f,w,0⟩) (fun x=>zoz x ⟨f,w,0⟩) l hl (gIx l f w) (zbn l f w) (fun j hj=>zik hj) (fun j h1 h2=>zib hs h1 h2)) byW byT ?_
 simp only[go_sem]
 refine af ?_
 simp only[go_sem]
 exact ap 1 [] rfl byC byC byC byC
theorem Of_c (l:List Grant) (hl:l.length<4611686018427387904) (hs:ec l) (f w:Str):Meets Tryz.prog 63 [gsV l,.str f,.str w] (.int .i64 (dm l f w)) []:=by
 refine an (fn:=Tryz.f63) Tryz.func63 rfl fb63 (by kernel_rfl) (Nat.le_of_ble_eq_true rfl) ?_
 refine aa ?_
 simp only[go_sem]
 repeat first|(with_reducible refine ad ?_ ?_;exact byD)|(with_reducible refine ae ?_ ?_;exact byQ)
 refine ab ?_
 refine aa ?_
 simp only[go_sem]
 refine cw_m (tz l hl hs f w) byW byT ?_
 simp only[go_sem]
 refine aa ?_
 simp only[go_sem]
 refine ah _ rfl (fun h16=>?_) (fun h16=>?_)
 ·
  (try simp only[go_sem] at h16)
  have hh:gIx l f w<l.length∧ky (l.getD (gIx l f w) default) ⟨f,w,0⟩=0:=by simpa [hasG] using h16
  refine aa ?_
  simp only[go_sem]
  repeat first|(with_reducible refine ad ?_ ?_;exact byD)|(with_reducible refine ae ?_ ?_;exact byQ)
  refine af ?_
  simp only[go_sem]
  refine am ?_
  rw[wm hs,if_pos hh]
 ·
  (try simp only[go_sem] at h16)
  refine ag ?_
  (try simp only[go_sem])
  refine aa ?_
  simp only[go_sem]
  refine af ?_
  simp only[go_sem]
  refine am ?_
  rw[wm hs,if_neg (by simpa [hasG] using h16)]
end Go.VM.Tryz.Gr
end
section
set_option maxHeartbeats 4000000
open Go Go.VM Go.Proofs Tether
namespace Go.VM.Tryz.Gr
set_option maxHeartbeats 1000000
def allK (l:List Grant):List Str:=l.map (·.folder)
def ownK (l:List Grant):List Str:=(l.filter fun g=>decide (g.right=3)).map (·.folder)
theorem zcn {α:Type} {l:List α} {d:α} {i:Nat} (hi:i<l.length):l.take (i+1)=l.take i++[l.getD i d]:=by
 rw[List.take_succ_eq_append_getElem hi];simp[List.getD,hi]
theorem zyt (l:List Grant) (hl:l.length<4611686018427387904):Meets Tryz.prog 76 [gsV l] (.bool (mg l)) []:=by
 refine an (fn:=Tryz.f76) Tryz.func76 rfl fb76 (by kernel_rfl) (Nat.le_of_ble_eq_true rfl) ?_
 refine aa ?_
 simp only[go_sem]
 repeat first|(with_reducible refine ad ?_ ?_;exact byD)|(with_reducible refine ae ?_ ?_;exact byQ)
 refine aa ?_
 simp only[go_sem]
 refine ab ?_
 refine aa ?_
 simp only[go_sem]
 refine ai ?_
 refine gz (σ:=Nat) (fun i=>i≤l.length) (fun i=>[⟨11,0,[],.int .i64 (i:Nat)⟩]) [2,3,4,9,10] (fun i=>[.mp (mE boE (jf (ownK (l.take i)))),.mp (mE boE (jf (allK (l.take i))))]) (fun i=>l.length-i) 0 (by first|trivial|omega|simp) (fun _=>(Nat.zero_le _)) byC (fun i hI1=>?_)
 simp only[go_sem]
 have hK:i<l.length→jf (allK (l.take (i+1)))=aSet (jf (allK (l.take i))) (l.getD i default).folder true:=fun hi=>by
  rw[zcn (d:=default) hi,allK,List.map_append];exact sc _ _
 have hO:i<l.length→jf (ownK (l.take (i+1)))=if (l.getD i default).right=3 then aSet (jf (ownK (l.take i))) (l.getD i default).folder true else jf (ownK (l.take i)):=fun hi=>by
  rw[zcn (d:=default) hi,ownK,List.filter_append]
  by_cases h:(l.getD i default).right=3
  ·rw[if_pos h,List.filter_cons_of_pos (by simpa using h),List.filter_nil,List.map_append];exact sc _ _
  ·rw[if_neg h,List.filter_cons_of_neg (by simpa using h),List.filter_nil,List.append_nil];rfl
 refine aa ?_
 simp only[go_sem]
 repeat first|(with_reducible refine ad ?_ ?_;exact byD)|(with_reducible refine ae ?_ ?_;exact byQ)
 intro t12 e12
 subst e12
 refine ab ?_
 refine ah _ rfl (fun h12=>?_) (fun h12=>?_)
 ·
  (try simp only[go_sem] at h12)
  refine ag ?_
  (try simp only[go_sem])
  refine ab (ai ?_)
  refine aa ?_
  simp only[go_sem]
  repeat first|(with_reducible refine ad ?_ ?_;exact byD)|(with_reducible refine ae ?_ ?_;exact byQ)
  refine aa ?_
  simp only[go_sem]
  repeat first|(with_reducible refine ad ?_ ?_;exact byD)|(with_reducible refine ae ?_ ?_;exact byQ)
  refine aa ?_
  simp only[go_sem]
  intro t20 e20
  subst e20
  refine ah _ rfl (fun h20=>?_) (fun h20=>?_)
  ·
   (try simp only[go_sem] at h20)
   refine aj ?_
   simp only[go_sem]
   repeat first|(with_reducible refine ad ?_ ?_;exact byD)|(with_reducible refine ae ?_ ?_;exact byQ)
   refine aj ?_
   simp only[go_sem]
   intro t24 e24
   (try replace e24:=w64 e24 (by omega) (by omega))
   refine ay (i+1) (by omega) (by first|omega|(dsimp only;omega)) ?_
   rw[hK (by omega),hO (by omega),if_pos h20]
   exact byC
  ·
   (try simp only[go_sem] at h20)
   refine ag ?_
   (try simp only[go_sem])
   refine aj ?_
   simp only[go_sem]
   intro t24 e24
   (try replace e24:=w64 e24 (by omega) (by omega))
   refine ay (i+1) (by omega) (by first|omega|(dsimp only;omega)) ?_
   rw[hK (by omega),hO (by omega),if_neg h20]
   exact byC
 ·
  (try simp only[go_sem] at h12)
  refine bk ?_
  simp only[go_sem]
  refine aa ?_
  simp only[go_sem]
  intro t29 e29
  subst e29
  refine af ?_
  simp only[go_sem]
  refine aq ?_
  rw[List.take_of_length_le (by omega),← zky]
  simp only[Int.natCast_inj]
  rfl
end Go.VM.Tryz.Gr
end
section
set_option maxHeartbeats 4000000
open Go Go.VM Go.Proofs Tether
namespace Go.VM.Tryz.Gr
set_option maxHeartbeats 1000000
theorem checkG_c (l:List Grant) (hl:okG l):Meets Tryz.prog 39 [gsV l] (.int .i64 (eo l)) []:=by
 refine an (fn:=Tryz.f39) Tryz.func39 rfl fb39 (by kernel_rfl) (Nat.le_of_ble_eq_true rfl) ?_
 have hln:=hl.len
 refine aa ?_
 simp only[go_sem]
 repeat first|(with_reducible refine ad ?_ ?_;exact byD)|(with_reducible refine ae ?_ ?_;exact byQ)
 refine ab ?_
 refine aa ?_
 simp only[go_sem]
 intro t8 e8
 subst e8
 refine ah _ rfl (fun h8=>?_) (fun h8=>?_)
 ·
  (try simp only[go_sem] at h8)
  refine aa ?_
  simp only[go_sem]
  refine af ?_
  simp only[go_sem]
  refine am ?_
  simp[eo,h8]
 ·
  (try simp only[go_sem] at h8)
  refine ag ?_
  (try simp only[go_sem])
  refine ab ?_
  refine aa ?_
  simp only[go_sem]
  refine ai ?_
  refine bm (σ:=Nat) (fun i=>i≤l.length∧∀ j,j<i→gErr (l.getD j default)=0) (fun i=>[⟨11,0,[],.int .i64 (i:Nat)⟩]) [0,9,10] (fun i=>l.length-i) 0 ⟨Nat.zero_le _,fun j hj=>absurd hj (Nat.not_lt_zero j)⟩ (Nat.zero_le _) byC (fun i hI1=>?_)
  simp only[go_sem]
  refine aa ?_
  simp only[go_sem]
  repeat first|(with_reducible refine ad ?_ ?_;exact byD)|(with_reducible refine ae ?_ ?_;exact byQ)
  intro t12 e12
  subst e12
  refine ab ?_
  refine ah _ rfl (fun h12=>?_) (fun h12=>?_)
  ·
   (try simp only[go_sem] at h12)
   have hm:=hl.2 _ (bj (l:=l) (d:=default) (show i<l.length by omega))
   refine ag ?_
   (try simp only[go_sem])
   refine ab (ai ?_)
   refine aa ?_
   simp only[go_sem]
   repeat first|(with_reducible refine ad ?_ ?_;exact byD)|(with_reducible refine ae ?_ ?_;exact byQ)
   refine ai ?_
   refine aa ?_
   simp only[go_sem]
   refine cw_v 2 (zao [(l.getD i default).folder,(l.getD i default).who] (by simp) (by intro s hs;rcases List.mem_cons.1 hs with rfl|hs;exact hm.1;rcases List.mem_singleton.1 hs with rfl;exact hm.2)) byV byC rfl ?_
   simp only[go_sem]
   intro t22 e22
   subst e22
   refine ah _ rfl (fun h15=>?_) (fun h15=>?_)
   ·
    (try simp only[go_sem] at h15)
    refine aa ?_
    simp only[go_sem]
    refine af ?_
    simp only[go_sem]
    refine am ?_
    have hg:gErr (l.getD i default)=1:=by rw[gErr,if_pos (by simpa using h15)]
    have hf:=dq (f:=gErr) (l:=l) (d:=default) (i:=i) (by omega) hI1.2 (by rw[hg];decide)
    rw[eo,if_neg h8,hf,hg,if_pos (by decide)]
   ·
    (try simp only[go_sem] at h15)
    refine aa ?_
    simp only[go_sem]
    intro t26 e26
    intro t30 e30
    intro t31 e31
    rw[az] at e31
    subst e26 e30 e31
    refine ah _ rfl (fun h23=>?_) (fun h23=>?_)
    ·
     (try simp only[go_sem] at h23)
     refine aa ?_
     simp only[go_sem]
     refine af ?_
     simp only[go_sem]
     refine am ?_
     have hg:gErr (l.getD i default)=3:=by rw[gErr,if_neg (by simpa using h15),if_pos (by omega)]
     have hf:=dq (f:=gErr) (l:=l) (d:=default) (i:=i) (by omega) hI1.2 (by rw[hg];decide)
     rw[eo,if_neg h8,hf,hg,if_pos (by decide)]
    ·
     (try simp only[go_sem] at h23)
     refine ag ?_
     (try simp only[go_sem])
     refine aj ?_
     simp only[go_sem]
     intro t32 e32
     (try replace e32:=w64 e32 (by omega) (by omega))
     have hg:gErr (l.getD i default)=0:=by
      rw[gErr,if_neg (by simpa using h15),if_neg (by omega)]
     refine ay (i+1) ⟨by omega,bw hI1.2 hg⟩ (by first|omega|(dsimp only;omega)) byC
  ·
   (try simp only[go_sem] at h12)
   have hf:=fw (f:=gErr) (l:=l) (d:=default) fun j hj=>hI1.2 j (by omega)
   refine bk ?_
   simp only[go_sem]
   refine ab ?_
   refine aa ?_
   simp only[go_sem]
   refine ai ?_
   refine bm (σ:=Nat) (fun i=>1≤i∧(i=1∨i≤l.length)∧∀ j,1≤j→j<i→oc l j=true) (fun i=>[⟨5,0,[],.int .i64 (i:Nat)⟩]) [0] (fun i=>l.length-i) 1 ⟨Nat.le_refl _,.inl rfl,fun j hj hj'=>by omega⟩ (Nat.zero_le _) byC (fun i hI2=>?_)
   simp only[go_sem]
   refine ab ?_
   refine aa ?_
   simp only[go_sem]
   repeat first|(with_reducible refine ad ?_ ?_;exact byD)|(with_reducible refine ae ?_ ?_;exact byQ)
   intro t36 e36
   subst e36
   refine ah _ rfl (fun h36=>?_) (fun h36=>?_)
   ·
    (try simp only[go_sem] at h36)
    refine ag ?_
    (try simp only[go_sem])
    refine ab (ai ?_)
    refine ab (bc cj [] (.first 0 (.first 1 (.first 2 (.first 3 (.first 4 (.first 5 (.first 6 (.first 7 (.first 8 (.one 9 (.first 10 (.done)))))))))))) (by kernel_rfl) ?_)
    simp only[go_sem]
    intro t41 e41
    (try replace e41:=w64 e41 (by omega) (by omega))
    repeat first|(with_reducible refine ad ?_ ?_;exact byD)|(with_reducible refine ae ?_ ?_;exact byQ)
    refine ek (zoz (l.getD t41.toNat default) (l.getD i default)) byW byT ?_
    simp only[go_sem]
    intro t49 e49
    subst e49
    refine ah _ rfl (fun h49=>?_) (fun h49=>?_)
    ·
     (try simp only[go_sem] at h49)
     refine aa ?_
     simp only[go_sem]
     refine af ?_
     simp only[go_sem]
     refine am ?_
     have hk:((i:Int)-1).toNat=i-1:=by omega
     subst e41
     rw[hk] at h49
     have hr:((List.range l.length).all fun i=>i=0 || oc l i)=false:=dl (i:=i) (by omega) (by
      have:¬ i=0:=by omega
      simp only[this,decide_false,Bool.false_or,oc,decide_eq_false_iff_not];omega)
     rw[eo,if_neg h8,hf,if_neg (by simp),hr,if_pos rfl]
    ·
     (try simp only[go_sem] at h49)
     refine ag ?_
     (try simp only[go_sem])
     refine aj ?_
     simp only[go_sem]
     intro t38 e38
     (try replace e38:=w64 e38 (by omega) (by omega))
     have hk:((i:Int)-1).toNat=i-1:=by omega
     subst e41
     rw[hk] at h49
     refine ay (i+1) ⟨by omega,by omega,fun j h1 hj=>?_⟩ (by first|omega|(dsimp only;omega)) byC
     exact bw (p:=fun j=>1≤j→oc l j=true) (fun j hj h1=>hI2.2.2 j h1 hj) (fun _=>by simp only[oc,decide_eq_true_eq];omega) j hj h1
   ·
    (try simp only[go_sem] at h36)
    have hr:((List.range l.length).all fun i=>i=0 || oc l i)=true:=dk fun j hj=>by
     by_cases h0:j=0
     ·simp[h0]
     ·simp[hI2.2.2 j (by omega) (by omega)]
    refine bk ?_
    simp only[go_sem]
    refine ab ?_
    refine aa ?_
    simp only[go_sem]
    refine cw_m (zyt l hln) byW byT ?_
    simp only[go_sem]
    intro t52 e52
    subst e52
    refine ah _ rfl (fun h52=>?_) (fun h52=>?_)
    ·
     (try simp only[go_sem] at h52)
     refine aa ?_
     simp only[go_sem]
     refine af ?_
     simp only[go_sem]
     refine am ?_
     rw[eo,if_neg h8,hf,if_neg (by simp),hr,if_neg (by simp),if_pos h52]
    ·
     (try simp only[go_sem] at h52)
     refine ag ?_
     (try simp only[go_sem])
     refine aa ?_
     simp only[go_sem]
     refine af ?_
     simp only[go_sem]
     refine am ?_
     rw[eo,if_neg h8,hf,if_neg (by simp),hr,if_neg (by simp),if_neg (by simpa using h52)]
end Go.VM.Tryz.Gr
end
section
set_option maxHeartbeats 4000000
open Go Go.VM Go.Proofs Tether
namespace Go.VM.Tryz.Gr
set_option maxHeartbeats 1000000
theorem set_c (l:List Grant) (h60:l.length≤60) (hs:ec l) (f w:Str) (r:Int) (hr:r=0→hasG l f w=true):Meets Tryz.prog 104 [gsV l,.str f,.str w,.int .i64 r] (gsV (putG l f w r)) []:=by
 refine an (fn:=Tryz.f104) Tryz.func104 rfl fb104 (by kernel_rfl) (Nat.le_of_ble_eq_true rfl) ?_
 have hk:=zbn l f w
 have hh:hasG l f w=true→gIx l f w<l.length∧ky (l.getD (gIx l f w) default) ⟨f,w,0⟩=0:=fun h=>by simpa [hasG] using h
 refine aa ?_
 simp only[go_sem]
 repeat first|(with_reducible refine ad ?_ ?_;exact byD)|(with_reducible refine ae ?_ ?_;exact byQ)
 refine aa ?_
 simp only[go_sem]
 refine cw_m (ql l (by omega)) byW byT ?_
 simp only[go_sem]
 refine aa ?_
 simp only[go_sem]
 refine cw_v 2 (tz l (by omega) hs f w) byV byC rfl ?_
 simp only[go_sem]
 refine ab (ai ?_)
 refine aa ?_
 simp only[go_sem]
 intro t22 e22
 subst e22
 refine ah _ rfl (fun h20=>?_) (fun h20=>?_)
 ·
  (try simp only[go_sem] at h20)
  have hh0:=hh (hr h20)
  have hput:putG l f w r=l.take (gIx l f w)++l.drop (gIx l f w+1):=by
   rw[putG,if_pos h20,hr h20,if_pos rfl,List.append_nil]
  refine aa ?_
  simp only[go_sem]
  intro t26 e26
  (try replace e26:=w64 e26 (by omega) (by omega))
  refine ce (zdh l (gIx l f w) (gIx l f w+1) (by omega) (by omega) (by omega)) [0] rfl byC byC ?_
  simp only[go_sem]
  refine af ?_
  simp only[go_sem]
  rw[hput]
  exact ap 1 [] rfl byC byC byC byC
 ·
  (try simp only[go_sem] at h20)
  refine aa ?_
  simp only[go_sem]
  refine ah _ rfl (fun h28=>?_) (fun h28=>?_)
  ·
   (try simp only[go_sem] at h28)
   have hh0:=hh h28
   have hsm:=order_eq.1 hh0.2
   have hs1:(l.getD (gIx l f w) default).folder=f:=hsm.1
   have hs2:(l.getD (gIx l f w) default).who=w:=hsm.2
   have hput:putG l f w r=l.set (gIx l f w) ⟨f,w,r⟩:=by
    rw[putG,if_neg h20,h28,if_pos rfl,List.set_eq_take_append_cons_drop,if_pos hh0.1];simp
   refine aa ?_
   simp only[go_sem]
   repeat first|(with_reducible refine ad ?_ ?_;exact byD)|(with_reducible refine ae ?_ ?_;exact byQ)
   refine aa ?_
   simp only[go_sem]
   refine af ?_
   simp only[go_sem]
   rw[hput]
   refine zxx (.own none 0 3 0 (l.set (gIx l f w) ⟨f,w,r⟩).length .loose) [.arr 3 (l.set (gIx l f w) ⟨f,w,r⟩).length (En Grant.enc default (l.set (gIx l f w) ⟨f,w,r⟩))] ?_ ?_ ?_
   ·simp only[go_sem,wk,List.length_set]
   ·simp only[go_sem,wkB,wkH,List.length_set]
    exact fun i hi=>su hh0.1 (by simp only[go_sem,hs1,hs2]) i
   ·exact ap 1 [] rfl byC byC byC byC
  ·
   (try simp only[go_sem] at h28)
   have hput:putG l f w r=l.take (gIx l f w)++⟨f,w,r⟩::l.drop (gIx l f w):=by
    rw[putG,if_neg h20,if_neg (by simp[h28])];simp
   refine ag ?_
   (try simp only[go_sem])
   refine aa ?_
   simp only[go_sem]
   refine ce (zcl l (gIx l f w) ⟨f,w,r⟩ hk (by omega)) [0,1] rfl byC byC ?_
   simp only[go_sem]
   refine af ?_
   simp only[go_sem]
   rw[hput]
   exact ap 1 [] rfl byC byC byC byC
end Go.VM.Tryz.Gr
end
section
set_option maxHeartbeats 4000000
open Go Go.VM Go.Proofs Tether
namespace Go.VM.Tryz.Gr
set_option maxHeartbeats 1000000
theorem z1p (f:Str) (g:Grant):Meets Tryz.prog 105 [.agg g.enc,.iptr [.str f] 0] (.bool (decide (g.folder=f) && decide (g.right=3))) []:=by
 refine an (fn:=Tryz.f105) Tryz.func105 rfl fb105 (by kernel_rfl) (Nat.le_of_ble_eq_true rfl) ?_
 refine aa ?_
 simp only[go_sem]
 repeat first|(with_reducible refine ad ?_ ?_;exact byD)|(with_reducible refine ae ?_ ?_;exact byQ)
 refine aa ?_
 simp only[go_sem]
 intro t7 e7
 intro t11 e11
 intro t12 e12
 rw[ar] at e12
 subst e7 e11 e12
 refine af ?_
 simp only[go_sem]
 refine aq ?_
 simp
theorem z3o (f:Str) (g:Grant):Meets Tryz.prog 103 [.agg g.enc,.iptr [.str f] 0] (.bool (decide (g.folder=f))) []:=by
 refine an (fn:=Tryz.f103) Tryz.func103 rfl fb103 (by kernel_rfl) (Nat.le_of_ble_eq_true rfl) ?_
 refine aa ?_
 simp only[go_sem]
 repeat first|(with_reducible refine ad ?_ ?_;exact byD)|(with_reducible refine ae ?_ ?_;exact byQ)
 refine aa ?_
 simp only[go_sem]
 intro t7 e7
 subst e7
 refine af ?_
 simp only[go_sem]
 exact aq rfl
theorem ins_len {l:List Grant} {f w:Str} {r:Int}:(putG l f w r).length≤l.length+1:=by
 unfold putG
 have:=zbn l f w
 simp only[List.length_append,List.length_take,List.length_drop]
 split<;>split<;>simp<;>omega
def rightE (l:List Grant) (f w:Str):Int × Int :=
 if ¬ eo l=0 then (0,eo l) else if (ba f && ba w)=false then (0,1) else (dm l f w,0)
theorem Right_c (l:List Grant) (hl:okG l) (f w:Str) (hf:f.length<4611686018427387904) (hw:w.length<4611686018427387904) :
  Meets Tryz.prog 24 [gsV l,.str f,.str w] (.tup [.int .i64 (rightE l f w).1,.int .i64 (rightE l f w).2]) []:=by
 refine an (fn:=Tryz.f24) Tryz.func24 rfl fb24 (by kernel_rfl) (Nat.le_of_ble_eq_true rfl) ?_
 refine aa ?_
 simp only[go_sem]
 repeat first|(with_reducible refine ad ?_ ?_;exact byD)|(with_reducible refine ae ?_ ?_;exact byQ)
 refine ab ?_
 refine aa ?_
 simp only[go_sem]
 refine cw_m (checkG_c l hl) byW byT ?_
 simp only[go_sem]
 refine aa ?_
 simp only[go_sem]
 intro t12 e12
 subst e12
 refine ah _ rfl (fun h12=>?_) (fun h12=>?_)
 ·
  (try simp only[go_sem] at h12)
  refine aa ?_
  simp only[go_sem]
  refine af ?_
  simp only[go_sem]
  rw[rightE,if_pos h12]
  exact ap 1 [] rfl byC byC byC byC
 ·
  (try simp only[go_sem] at h12)
  have hg:=checkG_iff.1 h12
  refine ag ?_
  (try simp only[go_sem])
  refine ab ?_
  refine aa ?_
  simp only[go_sem]
  refine cw_v 2 (zao [f,w] (by simp) (by intro s hs;rcases List.mem_cons.1 hs with rfl|hs;exact hf;rcases List.mem_singleton.1 hs with rfl;exact hw)) byV byC rfl ?_
  simp only[go_sem]
  intro t18 e18
  subst e18
  refine ah _ rfl (fun h18=>?_) (fun h18=>?_)
  ·
   (try simp only[go_sem] at h18)
   refine aa ?_
   simp only[go_sem]
   refine af ?_
   simp only[go_sem]
   rw[rightE,if_neg (by simpa using h12),if_pos (by simpa using h18)]
   exact ap 1 [] rfl byC byC byC byC
  ·
   (try simp only[go_sem] at h18)
   refine ag ?_
   (try simp only[go_sem])
   refine aa ?_
   simp only[go_sem]
   refine cw_m (Of_c l hl.len hg.rise f w) byW byT ?_
   simp only[go_sem]
   refine af ?_
   simp only[go_sem]
   rw[rightE,if_neg (by simpa using h12),if_neg (by simpa using h18)]
   exact ap 1 [] rfl byC byC byC byC
end Go.VM.Tryz.Gr
end
section
set_option maxHeartbeats 4000000
open Go Go.VM Go.Proofs Tether
namespace Go.VM.Tryz.Gr
set_option maxHeartbeats 1000000
def giveG (l:List Grant) (f by_ w:Str) (r:Int):List Grant × Int :=
 if ¬ eo l=0 then ([],eo l) else if ed l f by_ w r=0 then (putG l f w r,0) else ([],ed l f by_ w r)
def makeG (l:List Grant) (f w:Str):List Grant × Int :=
 if ¬ eo l=0 then ([],eo l) else if en l f w=0 then (putG l f w 3,0) else ([],en l f w)
theorem Make_c (l:List Grant) (hl:okG l) (f w:Str) (hf:f.length<4611686018427387904) (hw:w.length<4611686018427387904) :
  Meets Tryz.prog 60 [gsV l,.str f,.str w] (.tup [gsV (makeG l f w).1,.int .i64 (makeG l f w).2]) []:=by
 refine an (fn:=Tryz.f60) Tryz.func60 rfl fb60 (by kernel_rfl) (Nat.le_of_ble_eq_true rfl) ?_
 refine aa ?_
 simp only[go_sem]
 repeat first|(with_reducible refine ad ?_ ?_;exact byD)|(with_reducible refine ae ?_ ?_;exact byQ)
 refine ab ?_
 refine aa ?_
 simp only[go_sem]
 refine cw_m (checkG_c l hl) byW byT ?_
 simp only[go_sem]
 refine aa ?_
 simp only[go_sem]
 intro t12 e12
 subst e12
 refine ah _ rfl (fun h12=>?_) (fun h12=>?_)
 ·
  (try simp only[go_sem] at h12)
  refine aa ?_
  simp only[go_sem]
  refine af ?_
  simp only[go_sem]
  rw[makeG,if_pos h12]
  exact ap 1 [] rfl byC byC byC byC
 ·
  (try simp only[go_sem] at h12)
  have hg:=checkG_iff.1 h12
  have h60:=hg.len
  refine ag ?_
  (try simp only[go_sem])
  refine ab (ai ?_)
  refine aa ?_
  simp only[go_sem]
  refine cw_v 2 (zao [f,w] (by simp) (by intro s hs;rcases List.mem_cons.1 hs with rfl|hs;exact hf;rcases List.mem_singleton.1 hs with rfl;exact hw)) byV byC rfl ?_
  simp only[go_sem]
  intro t19 e19
  subst e19
  refine ah _ rfl (fun h14=>?_) (fun h14=>?_)
  ·
   (try simp only[go_sem] at h14)
   refine aa ?_
   simp only[go_sem]
   refine af ?_
   simp only[go_sem]
   have he:en l f w=1:=by rw[en,if_pos (by simpa using h14)]
   rw[makeG,if_neg (by simpa using h12),if_neg (by rw[he];decide),he]
   exact ap 1 [] rfl byC byC byC byC
  ·
   (try simp only[go_sem] at h14)
   refine aa ?_
   simp only[go_sem]
   refine cw_v 2 (li 103 [.iptr [.str f] 0] rfl (fun g=>decide (g.folder=f)) l (fun g _=>z3o f g) hl.len) byV byC rfl ?_
   simp only[go_sem]
   refine ah _ rfl (fun h20=>?_) (fun h20=>?_)
   ·
    (try simp only[go_sem] at h20)
    refine aa ?_
    simp only[go_sem]
    refine af ?_
    simp only[go_sem]
    have he:en l f w=6:=by rw[en,if_neg (by simpa using h14),if_pos h20]
    rw[makeG,if_neg (by simpa using h12),if_neg (by rw[he];decide),he]
    exact ap 1 [] rfl byC byC byC byC
   ·
    (try simp only[go_sem] at h20)
    refine aa ?_
    simp only[go_sem]
    intro t27 e27
    subst e27
    refine ah _ rfl (fun h24=>?_) (fun h24=>?_)
    ·
     (try simp only[go_sem] at h24)
     refine aa ?_
     simp only[go_sem]
     refine af ?_
     simp only[go_sem]
     have he:en l f w=2:=by rw[en,if_neg (by simpa using h14),if_neg (by simpa using h20),if_pos h24]
     rw[makeG,if_neg (by simpa using h12),if_neg (by rw[he];decide),he]
     exact ap 1 [] rfl byC byC byC byC
    ·
     (try simp only[go_sem] at h24)
     refine ag ?_
     (try simp only[go_sem])
     refine aa ?_
     simp only[go_sem]
     refine cw_m (set_c l h60 hg.rise f w 3 (fun h=>by cases h)) byW byT ?_
     simp only[go_sem]
     refine af ?_
     simp only[go_sem]
     have he:en l f w=0:=by rw[en,if_neg (by simpa using h14),if_neg (by simpa using h20),if_neg h24]
     rw[makeG,if_neg (by simpa using h12),if_pos he]
     exact ap 1 [] rfl byC byC byC byC
theorem Give_c (l:List Grant) (hl:okG l) (f by_ w:Str) (hf:f.length<4611686018427387904) (hb:by_.length<4611686018427387904) (hw:w.length<4611686018427387904) (r:Int) :
  Meets Tryz.prog 61 [gsV l,.str f,.str by_,.str w,.int .i64 r] (.tup [gsV (giveG l f by_ w r).1,.int .i64 (giveG l f by_ w r).2]) []:=by
 refine an (fn:=Tryz.f61) Tryz.func61 rfl fb61 (by kernel_rfl) (Nat.le_of_ble_eq_true rfl) ?_
 refine aa ?_
 simp only[go_sem]
 repeat first|(with_reducible refine ad ?_ ?_;exact byD)|(with_reducible refine ae ?_ ?_;exact byQ)
 refine ab ?_
 refine aa ?_
 simp only[go_sem]
 refine cw_m (checkG_c l hl) byW byT ?_
 simp only[go_sem]
 refine aa ?_
 simp only[go_sem]
 intro t16 e16
 subst e16
 refine ah _ rfl (fun h16=>?_) (fun h16=>?_)
 ·
  (try simp only[go_sem] at h16)
  refine aa ?_
  simp only[go_sem]
  refine af ?_
  simp only[go_sem]
  rw[giveG,if_pos h16]
  exact ap 1 [] rfl byC byC byC byC
 ·
  (try simp only[go_sem] at h16)
  have hg:=checkG_iff.1 h16
  have h60:=hg.len
  have hpl:=ins_len (l:=l) (f:=f) (w:=w) (r:=r)
  refine ag ?_
  (try simp only[go_sem])
  refine ab (ai ?_)
  refine aa ?_
  simp only[go_sem]
  refine cw_v 2 (zao [f,by_,w] (by simp) (by intro s hs;rcases List.mem_cons.1 hs with rfl|hs;exact hf;rcases List.mem_cons.1 hs with rfl|hs;exact hb;rcases List.mem_singleton.1 hs with rfl;exact hw)) byV byC rfl ?_
  simp only[go_sem]
  intro t24 e24
  subst e24
  refine ah _ rfl (fun h18=>?_) (fun h18=>?_)
  ·
   (try simp only[go_sem] at h18)
   refine aa ?_
   simp only[go_sem]
   refine af ?_
   simp only[go_sem]
   have he:ed l f by_ w r=1:=by
    simp only[List.all_cons,List.all_nil,Bool.and_true] at h18
    unfold ed
    grind
   rw[giveG,if_neg (by simpa using h16),if_neg (by rw[he];decide),he]
   exact ap 1 [] rfl byC byC byC byC
  ·
   (try simp only[go_sem] at h18)
   refine aa ?_
   simp only[go_sem]
   intro t27 e27
   intro t30 e30
   intro t31 e31
   rw[az] at e31
   subst e27 e30 e31
   refine ah _ rfl (fun h25=>?_) (fun h25=>?_)
   ·
    (try simp only[go_sem] at h25)
    refine aa ?_
    simp only[go_sem]
    refine af ?_
    simp only[go_sem]
    have he:ed l f by_ w r=3:=by
     simp only[List.all_cons,List.all_nil,Bool.and_true] at h18
     unfold ed
     grind
    rw[giveG,if_neg (by simpa using h16),if_neg (by rw[he];decide),he]
    exact ap 1 [] rfl byC byC byC byC
   ·
    (try simp only[go_sem] at h25)
    refine aa ?_
    simp only[go_sem]
    refine cw_m (Of_c l hl.len hg.rise f by_) byW byT ?_
    simp only[go_sem]
    intro t37 e37
    intro t41 e41
    intro t44 e44
    intro t45 e45
    rw[ar] at e45
    intro t46 e46
    intro t47 e47
    rw[ar] at e47
    subst e37 e41 e44 e45 e46 e47
    refine ah _ rfl (fun h32=>?_) (fun h32=>?_)
    ·
     (try simp only[go_sem] at h32)
     refine aa ?_
     simp only[go_sem]
     refine af ?_
     simp only[go_sem]
     have he:ed l f by_ w r=9:=by
      simp only[List.all_cons,List.all_nil,Bool.and_true] at h18
      unfold ed
      grind
     rw[giveG,if_neg (by simpa using h16),if_neg (by rw[he];decide),he]
     exact ap 1 [] rfl byC byC byC byC
    ·
     (try simp only[go_sem] at h32)
     refine aa ?_
     simp only[go_sem]
     intro t50 e50
     refine⟨_,fun hp=>cw_m (Of_c l hl.len hg.rise f w) byW byT ⟨rfl,rfl⟩, ?_⟩
     simp only[go_sem]
     intro t56 e56
     intro t57 e57
     rw[ar] at e57
     subst e50 e56 e57
     refine ah _ rfl (fun h48=>?_) (fun h48=>?_)
     ·
      (try simp only[go_sem] at h48)
      refine aa ?_
      simp only[go_sem]
      refine af ?_
      simp only[go_sem]
      have he:ed l f by_ w r=5:=by
       simp only[List.all_cons,List.all_nil,Bool.and_true] at h18
       unfold ed
       grind
      rw[giveG,if_neg (by simpa using h16),if_neg (by rw[he];decide),he]
      exact ap 1 [] rfl byC byC byC byC
     ·
      (try simp only[go_sem] at h48)
      have hrh:r=0→hasG l f w=true:=fun h0=>by
       have h1:¬ dm l f w=0:=by
        rcases h48 with h|h
        ·exact absurd h0 h
        ·exact h
       rw[wm hg.rise] at h1
       split at h1
       ·rename_i h2
        unfold hasG
        rw[decide_eq_true h2.1,decide_eq_true h2.2];rfl
       ·exact absurd rfl h1
      refine ag ?_
      (try simp only[go_sem])
      refine aa ?_
      simp only[go_sem]
      refine cw_m (set_c l h60 hg.rise f w r hrh) byW byT ?_
      simp only[go_sem]
      refine ab (ai ?_)
      refine aa ?_
      simp only[go_sem]
      refine cw_v 2 (li 105 [.iptr [.str f] 0] rfl (fun g=>decide (g.folder=f) && decide (g.right=3)) (putG l f w r) (fun g _=>z1p f g) (by omega)) byV byC rfl ?_
      simp only[go_sem]
      intro t67 e67
      subst e67
      refine ah _ rfl (fun h63=>?_) (fun h63=>?_)
      ·
       (try simp only[go_sem] at h63)
       refine aa ?_
       simp only[go_sem]
       refine af ?_
       simp only[go_sem]
       have he:ed l f by_ w r=4:=by
        simp only[List.all_cons,List.all_nil,Bool.and_true] at h18
        unfold ed
        grind
       rw[giveG,if_neg (by simpa using h16),if_neg (by rw[he];decide),he]
       exact ap 1 [] rfl byC byC byC byC
      ·
       (try simp only[go_sem] at h63)
       refine aa ?_
       simp only[go_sem]
       intro t71 e71
       subst e71
       refine ah _ rfl (fun h68=>?_) (fun h68=>?_)
       ·
        (try simp only[go_sem] at h68)
        refine aa ?_
        simp only[go_sem]
        refine af ?_
        simp only[go_sem]
        have he:ed l f by_ w r=2:=by
         simp only[List.all_cons,List.all_nil,Bool.and_true] at h18
         unfold ed
         grind
        rw[giveG,if_neg (by simpa using h16),if_neg (by rw[he];decide),he]
        exact ap 1 [] rfl byC byC byC byC
       ·
        (try simp only[go_sem] at h68)
        refine ag ?_
        (try simp only[go_sem])
        refine aa ?_
        simp only[go_sem]
        refine af ?_
        simp only[go_sem]
        have he:ed l f by_ w r=0:=by
         simp only[List.all_cons,List.all_nil,Bool.and_true] at h18
         unfold ed
         grind
        rw[giveG,if_neg (by simpa using h16),if_pos he]
        exact ap 1 [] rfl byC byC byC byC
end Go.VM.Tryz.Gr
end
section
set_option maxHeartbeats 4000000
open Go Go.VM Go.Proofs Tether
namespace Go.VM.Tryz.Up
theorem jb (n a b:Int):Meets Tryz.prog 68 [.int .i64 n,.int .i64 a,.int .i64 b] (.bool (na n a b)) []:=by
 refine an (fn:=Tryz.f68) Tryz.func68 rfl fb68 (by kernel_rfl) (Nat.le_of_ble_eq_true rfl) ?_
 refine aa ?_
 simp only[go_sem]
 repeat first|(with_reducible refine ad ?_ ?_;exact byD)|(with_reducible refine ae ?_ ?_;exact byQ)
 refine aa ?_
 simp only[go_sem]
 intro t9 e9
 intro t13 e13
 intro t14 e14
 rw[ar] at e14
 subst e9 e13 e14
 refine af ?_
 simp only[go_sem]
 refine aq ?_
 rfl
end Go.VM.Tryz.Up
end
section
set_option maxHeartbeats 4000000
open Go Go.VM Go.Proofs Tether
namespace Go.VM.Tryz.Up
theorem zya (l:List Session) (who:Str) (hl:l.length<4611686018427387904):Meets Tryz.prog 70 [ssV l,.str who] (.int .i64 (iy l who)) []:=by
 refine an (fn:=Tryz.f70) Tryz.func70 rfl fb70 (by kernel_rfl) (Nat.le_of_ble_eq_true rfl) ?_
 refine aa ?_
 simp only[go_sem]
 repeat first|(with_reducible refine ad ?_ ?_;exact byD)|(with_reducible refine ae ?_ ?_;exact byQ)
 refine aa ?_
 simp only[go_sem]
 refine ab ?_
 refine aa ?_
 simp only[go_sem]
 refine ai ?_
 refine bm (σ:=Nat) (fun i=>i≤l.length) (fun i=>[⟨10,0,[],.int .i64 (i:Nat)⟩,⟨5,0,[],.int .i64 (iy (l.take i) who)⟩]) [1,4,8,9] (fun i=>l.length-i) 0 (by first|trivial|omega|simp) (Nat.zero_le _) byC (fun i hI1=>?_)
 simp only[go_sem]
 refine aa ?_
 simp only[go_sem]
 repeat first|(with_reducible refine ad ?_ ?_;exact byD)|(with_reducible refine ae ?_ ?_;exact byQ)
 intro t11 e11
 subst e11
 refine ab ?_
 refine ah _ rfl (fun h11=>?_) (fun h11=>?_)
 ·
  (try simp only[go_sem] at h11)
  refine ag ?_
  (try simp only[go_sem])
  refine ab (ai ?_)
  refine aa ?_
  simp only[go_sem]
  repeat first|(with_reducible refine ad ?_ ?_;exact byD)|(with_reducible refine ae ?_ ?_;exact byQ)
  refine aa ?_
  simp only[go_sem]
  intro t17 e17
  subst e17
  refine ah _ rfl (fun h17=>?_) (fun h17=>?_)
  ·
   (try simp only[go_sem] at h17)
   refine aj ?_
   simp only[go_sem]
   intro t21 e21
   (try replace e21:=w64 e21 (by omega) (by omega))
   refine aj ?_
   simp only[go_sem]
   intro t22 e22
   (try replace e22:=w64 e22 (by omega) (by omega))
   have hx:t21=iy (l.take (i+1)) who:=by
    rw[iy,mc _ _ _ default (by omega),e21,if_pos h17];rfl
   refine ay (i+1) (by omega) (by first|omega|(dsimp only;omega)) byC
  ·
   (try simp only[go_sem] at h17)
   refine ag ?_
   (try simp only[go_sem])
   refine aj ?_
   simp only[go_sem]
   intro t22 e22
   (try replace e22:=w64 e22 (by omega) (by omega))
   have hx:iy (l.take i) who=iy (l.take (i+1)) who:=by
    rw[iy,iy,mc _ _ _ default (by omega),if_neg h17]
   refine ay (i+1) (by omega) (by first|omega|(dsimp only;omega)) byC
 ·
  (try simp only[go_sem] at h11)
  refine bk ?_
  simp only[go_sem]
  refine aa ?_
  simp only[go_sem]
  refine af ?_
  simp only[go_sem]
  refine am ?_
  rw[List.take_of_length_le (by omega)]
theorem zpn (u:Uploads) (s:Session) (hw:s.who.length<4611686018427387904):Meets Tryz.prog 69 [u.enc,.agg s.enc] (.int .i64 (db u s)) []:=by
 refine an (fn:=Tryz.f69) Tryz.func69 rfl fb69 (by kernel_rfl) (Nat.le_of_ble_eq_true rfl) ?_
 refine aa ?_
 simp only[go_sem]
 repeat first|(with_reducible refine ad ?_ ?_;exact byD)|(with_reducible refine ae ?_ ?_;exact byQ)
 refine ab (ai ?_)
 refine aa ?_
 simp only[go_sem]
 intro t10 e10
 (try replace e10:=w64 e10 (by omega) (by omega))
 refine cw_m (jb _ _ _) byW byT ?_
 simp only[go_sem]
 intro t12 e12
 refine⟨_,fun hp=>cw_m (jb _ _ _) byW byT ⟨rfl,rfl⟩, ?_⟩
 simp only[go_sem]
 intro t17 e17
 intro t18 e18
 rw[az] at e18
 refine⟨_,fun hp=>cw_m (jb _ _ _) byW byT ⟨rfl,rfl⟩, ?_⟩
 simp only[go_sem]
 intro t23 e23
 intro t24 e24
 rw[az] at e24
 subst e12 e17 e18 e23 e24
 refine ah _ rfl (fun h5=>?_) (fun h5=>?_)
 ·
  (try simp only[go_sem] at h5)
  refine aa ?_
  simp only[go_sem]
  refine af ?_
  simp only[go_sem]
  refine am ?_
  subst e10
  rcases h5 with (h5|h5)|h5<;>simp[db,h5]
 ·
  (try simp only[go_sem] at h5)
  refine aa ?_
  simp only[go_sem]
  refine cw_m (jc s.who hw) byW byT ?_
  simp only[go_sem]
  intro t29 e29
  subst e29
  refine ah _ rfl (fun h25=>?_) (fun h25=>?_)
  ·
   (try simp only[go_sem] at h25)
   refine aa ?_
   simp only[go_sem]
   refine af ?_
   simp only[go_sem]
   refine am ?_
   subst e10
   simp[db,h5,h25]
  ·
   (try simp only[go_sem] at h25)
   refine aa ?_
   simp only[go_sem]
   intro t36 e36
   subst e36
   refine ah _ rfl (fun h30=>?_) (fun h30=>?_)
   ·
    (try simp only[go_sem] at h30)
    refine aa ?_
    simp only[go_sem]
    refine af ?_
    simp only[go_sem]
    refine am ?_
    subst e10
    simp[db,h5,h25,h30]
   ·
    (try simp only[go_sem] at h30)
    refine ag ?_
    (try simp only[go_sem])
    refine aa ?_
    simp only[go_sem]
    refine af ?_
    simp only[go_sem]
    refine am ?_
    subst e10
    simp[db,h5,h25,h30]
theorem Check_c (u:Uploads) (hl:u.ss.length<4611686018427387904) (hw:∀ s∈u.ss,s.who.length<4611686018427387904):Meets Tryz.prog 31 [u.enc] (.int .i64 (dj u)) []:=by
 refine an (fn:=Tryz.f31) Tryz.func31 rfl fb31 (by kernel_rfl) (Nat.le_of_ble_eq_true rfl) ?_
 refine aa ?_
 simp only[go_sem]
 repeat first|(with_reducible refine ad ?_ ?_;exact byD)|(with_reducible refine ae ?_ ?_;exact byQ)
 refine ab (ai ?_)
 refine aa ?_
 simp only[go_sem]
 refine cw_m (jb _ _ _) byW byT ?_
 simp only[go_sem]
 intro t13 e13
 refine⟨_,fun hp=>cw_m (jb _ _ _) byW byT ⟨rfl,rfl⟩, ?_⟩
 simp only[go_sem]
 intro t18 e18
 intro t19 e19
 rw[az] at e19
 refine⟨_,fun hp=>cw_m (jb _ _ _) byW byT ⟨rfl,rfl⟩, ?_⟩
 simp only[go_sem]
 intro t24 e24
 intro t25 e25
 rw[az] at e25
 subst e13 e18 e19 e24 e25
 refine ah _ rfl (fun h9=>?_) (fun h9=>?_)
 ·
  (try simp only[go_sem] at h9)
  refine aa ?_
  simp only[go_sem]
  refine af ?_
  simp only[go_sem]
  refine am ?_
  rcases h9 with (h|h)|h<;>simp[dj,h]
 ·
  (try simp only[go_sem] at h9)
  refine aa ?_
  simp only[go_sem]
  intro t30 e30
  subst e30
  refine ah _ rfl (fun h26=>?_) (fun h26=>?_)
  ·
   (try simp only[go_sem] at h26)
   refine aa ?_
   simp only[go_sem]
   refine af ?_
   simp only[go_sem]
   refine am ?_
   simp[dj,h9,h26]
  ·
   (try simp only[go_sem] at h26)
   refine ag ?_
   (try simp only[go_sem])
   refine ab ?_
   refine aa ?_
   simp only[go_sem]
   refine ai ?_
   refine bm (σ:=Nat) (fun i=>i≤u.ss.length∧∀ j,j<i→db u (u.ss.getD j default)=0) (fun i=>[⟨34,0,[],.int .i64 (i:Nat)⟩]) [1,32,33] (fun i=>u.ss.length-i) 0 ⟨Nat.zero_le _,fun j hj=>absurd hj (Nat.not_lt_zero j)⟩ (Nat.zero_le _) byC (fun i hI1=>?_)
   simp only[go_sem]
   refine aa ?_
   simp only[go_sem]
   repeat first|(with_reducible refine ad ?_ ?_;exact byD)|(with_reducible refine ae ?_ ?_;exact byQ)
   intro t35 e35
   subst e35
   refine ab ?_
   refine ah _ rfl (fun h35=>?_) (fun h35=>?_)
   ·
    (try simp only[go_sem] at h35)
    refine ag ?_
    (try simp only[go_sem])
    refine ab (ai ?_)
    refine aa ?_
    simp only[go_sem]
    repeat first|(with_reducible refine ad ?_ ?_;exact byD)|(with_reducible refine ae ?_ ?_;exact byQ)
    refine aa ?_
    simp only[go_sem]
    refine cw_m (zpn u (u.ss.getD i default) (hw _ (bj (by omega)))) byW byT ?_
    simp only[go_sem]
    refine aa ?_
    simp only[go_sem]
    intro t42 e42
    subst e42
    refine ah _ rfl (fun h42=>?_) (fun h42=>?_)
    ·
     (try simp only[go_sem] at h42)
     refine aa ?_
     simp only[go_sem]
     refine af ?_
     simp only[go_sem]
     refine am ?_
     have hf:=dq (i:=i) (by omega) hI1.2 h42
     rw[dj,if_neg (by simp[h9]),if_neg h26,hf,if_pos h42]
    ·
     (try simp only[go_sem] at h42)
     refine ag ?_
     (try simp only[go_sem])
     refine aj ?_
     simp only[go_sem]
     intro t44 e44
     (try replace e44:=w64 e44 (by omega) (by omega))
     refine ay (i+1) ⟨by omega,bw hI1.2 h42⟩ (by first|omega|(dsimp only;omega)) byC
   ·
    (try simp only[go_sem] at h35)
    have hf:=fw (f:=db u) (l:=u.ss) (d:=default) fun j hj=>hI1.2 j (by omega)
    refine bk ?_
    simp only[go_sem]
    refine ab ?_
    refine aa ?_
    simp only[go_sem]
    refine ai ?_
    refine bm (σ:=Nat) (fun i=>1≤i∧(i=1∨i≤u.ss.length)∧∀ j,1≤j→j<i→gb u.ss j=true) (fun i=>[⟨6,0,[],.int .i64 (i:Nat)⟩]) [1] (fun i=>u.ss.length-i) 1 ⟨Nat.le_refl _,.inl rfl,fun j hj hj'=>by omega⟩ (Nat.zero_le _) byC (fun i hI2=>?_)
    simp only[go_sem]
    refine ab ?_
    refine aa ?_
    simp only[go_sem]
    repeat first|(with_reducible refine ad ?_ ?_;exact byD)|(with_reducible refine ae ?_ ?_;exact byQ)
    intro t49 e49
    subst e49
    refine ah _ rfl (fun h49=>?_) (fun h49=>?_)
    ·
     (try simp only[go_sem] at h49)
     refine ag ?_
     (try simp only[go_sem])
     refine ab (ai ?_)
     refine ab (bc cj [] (.first 0 (.first 1 (.first 2 (.first 3 (.first 4 (.first 5 (.first 6 (.first 7 (.first 8 (.first 9 (.first 10 (.first 11 (.first 12 (.first 13 (.done))))))))))))))) (by kernel_rfl) ?_)
     simp only[go_sem]
     repeat first|(with_reducible refine ad ?_ ?_;exact byD)|(with_reducible refine ae ?_ ?_;exact byQ)
     intro t61 e61
     (try replace e61:=w64 e61 (by omega) (by omega))
     repeat first|(with_reducible refine ad ?_ ?_;exact byD)|(with_reducible refine ae ?_ ?_;exact byQ)
     intro t65 e65
     subst e65
     refine ah _ rfl (fun h65=>?_) (fun h65=>?_)
     ·
      (try simp only[go_sem] at h65)
      refine aa ?_
      simp only[go_sem]
      refine af ?_
      simp only[go_sem]
      refine am ?_
      have hk:((i:Int)-1).toNat=i-1:=by omega
      subst e61
      rw[hk] at h65
      have hr:((List.range u.ss.length).all fun i=>i=0 || gb u.ss i)=false:=dl (i:=i) (by omega) (by
       have:¬ i=0:=by omega
       simp only[this,decide_false,Bool.false_or,gb,decide_eq_false_iff_not];omega)
      simp[dj,h9,h26,hf,hr]
     ·
      (try simp only[go_sem] at h65)
      refine ag ?_
      (try simp only[go_sem])
      refine aj ?_
      simp only[go_sem]
      intro t51 e51
      (try replace e51:=w64 e51 (by omega) (by omega))
      have hk:((i:Int)-1).toNat=i-1:=by omega
      subst e61
      rw[hk] at h65
      refine ay (i+1) ⟨by omega,by omega,fun j h1 hj=>?_⟩ (by first|omega|(dsimp only;omega)) byC
      exact bw (p:=fun j=>1≤j→gb u.ss j=true) (fun j hj h1=>hI2.2.2 j h1 hj) (fun _=>by simp only[gb,decide_eq_true_eq];omega) j hj h1
    ·
     (try simp only[go_sem] at h49)
     have hr:((List.range u.ss.length).all fun i=>i=0 || gb u.ss i)=true:=dk fun j hj=>by
      by_cases h0:j=0
      ·simp[h0]
      ·simp[hI2.2.2 j (by omega) (by omega)]
     refine bk ?_
     simp only[go_sem]
     refine ab ?_
     refine aa ?_
     simp only[go_sem]
     refine ai ?_
     refine bm (σ:=Nat) (fun i=>i≤u.ss.length∧∀ j,j<i→iy u.ss (u.ss.getD j default).who≤u.room) (fun i=>[⟨69,0,[],.int .i64 (i:Nat)⟩]) [1,67,68] (fun i=>u.ss.length-i) 0 ⟨Nat.zero_le _,fun j hj=>absurd hj (Nat.not_lt_zero j)⟩ (Nat.zero_le _) byC (fun i hI3=>?_)
     simp only[go_sem]
     refine aa ?_
     simp only[go_sem]
     repeat first|(with_reducible refine ad ?_ ?_;exact byD)|(with_reducible refine ae ?_ ?_;exact byQ)
     intro t70 e70
     subst e70
     refine ab ?_
     refine ah _ rfl (fun h70=>?_) (fun h70=>?_)
     ·
      (try simp only[go_sem] at h70)
      refine ag ?_
      (try simp only[go_sem])
      refine ab (ai ?_)
      refine aa ?_
      simp only[go_sem]
      repeat first|(with_reducible refine ad ?_ ?_;exact byD)|(with_reducible refine ae ?_ ?_;exact byQ)
      refine ab (bc cj [] (.first 0 (.first 1 (.first 2 (.first 3 (.first 5 (.first 6 (.one 4 (.first 7 (.done))))))))) (by kernel_rfl) ?_)
      simp only[go_sem]
      refine ek (zya u.ss _ hl) byW byT ?_
      simp only[go_sem]
      intro t80 e80
      subst e80
      refine ah _ rfl (fun h80=>?_) (fun h80=>?_)
      ·
       (try simp only[go_sem] at h80)
       refine aa ?_
       simp only[go_sem]
       refine af ?_
       simp only[go_sem]
       refine am ?_
       have ho:(u.ss.all fun s=>decide (iy u.ss s.who≤u.room))=false:=zoq (d:=default) (i:=i) (by omega) (by simp only[decide_eq_false_iff_not];omega)
       rw[dj,if_neg (by simp[h9]),if_neg h26,hf,if_neg (by simp),hr,if_neg (by simp),ho,if_pos rfl]
      ·
       (try simp only[go_sem] at h80)
       refine ag ?_
       (try simp only[go_sem])
       refine aj ?_
       simp only[go_sem]
       intro t81 e81
       (try replace e81:=w64 e81 (by omega) (by omega))
       refine ay (i+1) ⟨by omega,bw hI3.2 (by omega)⟩ (by first|omega|(dsimp only;omega)) byC
     ·
      (try simp only[go_sem] at h70)
      refine bk ?_
      simp only[go_sem]
      refine aa ?_
      simp only[go_sem]
      refine af ?_
      simp only[go_sem]
      refine am ?_
      have ho:(u.ss.all fun s=>decide (iy u.ss s.who≤u.room))=true:=zoa (d:=default) fun j hj=>by simpa using hI3.2 j (by omega)
      rw[dj,if_neg (by simp[h9]),if_neg h26,hf,if_neg (by simp),hr,if_neg (by simp),ho,if_neg (by simp)]
end Go.VM.Tryz.Up
end
section
set_option maxHeartbeats 4000000
open Go Go.VM Go.Proofs Tether
namespace Go.VM.Tryz.Up
theorem mh (f:Nat) (caps:List V) (hc:ltrs 0 caps=true) (p:Session→Bool) (l:List Session) (hp:∀ x∈l,Meets Tryz.prog f (.agg (Session.enc x)::caps) (.bool (p x)) []) (hl:l.length<4611686018427387904) :
  Meets Tryz.prog 155 [lstV 5 Session.enc default l,.fn f [] caps] (.int .i64 (idxF p l)) []:=by
 refine an (fn:=Tryz.f155) Tryz.func155 rfl fb155 (by kernel_rfl) (Nat.le_of_ble_eq_true rfl) ?_
 refine aa ?_
 simp only[go_sem]
 repeat first|(with_reducible refine ad ?_ ?_;exact byD)|(with_reducible refine ae ?_ ?_;exact byQ)
 refine ab ?_
 refine aa ?_
 simp only[go_sem]
 refine ai ?_
 refine bm (σ:=Nat) (fun i=>i≤l.length∧∀ j,j<i→p (l.getD j default)=false) (fun i=>[⟨8,0,[],.int .i64 (i:Nat)⟩]) [0,1,7] (fun i=>l.length-i) 0 ⟨Nat.zero_le _,fun j hj=>absurd hj (Nat.not_lt_zero j)⟩ (Nat.zero_le _) byC (fun i hI1=>?_)
 simp only[go_sem]
 refine aa ?_
 simp only[go_sem]
 repeat first|(with_reducible refine ad ?_ ?_;exact byD)|(with_reducible refine ae ?_ ?_;exact byQ)
 intro t9 e9
 subst e9
 refine ab ?_
 refine ah _ rfl (fun h9=>?_) (fun h9=>?_)
 ·
  (try simp only[go_sem] at h9)
  refine ag ?_
  (try simp only[go_sem])
  refine ab (ai ?_)
  refine aa ?_
  simp only[go_sem]
  refine aa ?_
  simp only[go_sem]
  repeat first|(with_reducible refine ad ?_ ?_;exact byD)|(with_reducible refine ae ?_ ?_;exact byQ)
  refine cw_m (hp (l.getD i default) (bj (by omega))) byW byT ?_
  simp only[go_sem]
  refine ah _ rfl (fun h16=>?_) (fun h16=>?_)
  ·
   (try simp only[go_sem] at h16)
   refine aa ?_
   simp only[go_sem]
   refine af ?_
   simp only[go_sem]
   refine am ?_
   rw[qr (by omega) hI1.2 h16]
  ·
   (try simp only[go_sem] at h16)
   refine ag ?_
   (try simp only[go_sem])
   refine aj ?_
   simp only[go_sem]
   intro t18 e18
   (try replace e18:=w64 e18 (by omega) (by omega))
   refine ay (i+1) ⟨by omega,bw hI1.2 h16⟩ (by first|omega|(dsimp only;omega)) byC
 ·
  (try simp only[go_sem] at h9)
  refine bk ?_
  simp only[go_sem]
  refine aa ?_
  simp only[go_sem]
  refine af ?_
  simp only[go_sem]
  refine am ?_
  rw[om fun j hj=>hI1.2 j (by omega)]
theorem nu (l:List Session) (hl:l.length*56≤140737488355328):Meets Tryz.prog 80 [lstV 5 Session.enc default l] (.own none 0 5 0 l.length .loose) [.arr 5 l.length (En Session.enc default l)]:=by
 refine an (fn:=Tryz.f80) Tryz.func80 rfl fb80 (by kernel_rfl) (Nat.le_of_ble_eq_true rfl) ?_
 refine uc 0 rfl fun b hb=>?_
 refine aa ?_
 simp only[go_sem]
 repeat first|(with_reducible refine ad ?_ ?_;exact byD)|(with_reducible refine ae ?_ ?_;exact byQ)
 refine ab ?_
 refine aa ?_
 simp only[go_sem]
 intro t4 e4
 subst e4
 refine ah _ rfl (fun h4=>?_) (fun h4=>?_)
 ·
  (try simp only[go_sem] at h4)
  have hb:=hb h4
  refine aa ?_
  simp only[go_sem]
  refine fp 2 5 (En Session.enc default l) rfl ?_
  simp only[go_sem]
  refine af ?_
  simp only[go_sem]
  exact ap 1 [0] rfl byC byC byC byC
 ·
  (try simp only[go_sem] at h4)
  refine ag ?_
  (try simp only[go_sem])
  refine aa ?_
  simp only[go_sem]
  repeat first|(with_reducible refine ad ?_ ?_;exact byD)|(with_reducible refine ae ?_ ?_;exact byQ)
  refine af ?_
  simp only[go_sem]
  exact ap 1 [1] rfl byC byC byC byC
theorem qw (f:Nat) (cs:List V) (hcs:ltrs 0 cs=true) (p:Session→Bool) (l:List Session) (hp:∀ x∈l,Meets Tryz.prog f [.agg (Session.enc x),.iptr cs 0] (.bool (p x)) []) (hl:l.length<4611686018427387904) :
  Does Tryz.prog 177 [.own none 0 5 0 l.length .loose,.fn f [] [.ptr 1 0]] [.arr 5 l.length (En Session.enc default l),.box cs]
   (.own none 0 5 0 (l.filter fun x=>!p x).length .loose) [.arr 5 (l.filter fun x=>!p x).length (En Session.enc default (l.filter fun x=>!p x)),.box cs]:=by
 refine eb (fn:=Tryz.f177) Tryz.func177 rfl fb177 (by kernel_rfl) (Nat.le_of_ble_eq_true rfl) ?_
 refine aa ?_
 simp only[go_sem,hcs]
 repeat ((with_reducible first|refine ad ?_ ?_|refine ae ?_ ?_);focus (first|(refine Sd.mk ?_;omega)|(refine Sq.mk ?_;omega)|exact Sd.mk trivial|exact Sq.mk trivial|(refine Sq.mk ?_;and_intros<;>first|omega|trivial|(simp;omega))|(refine Sd.of fun hp=>?_;simp only[pc,and_true] at hp;(try subst_vars);simp only[decide_eq_true_eq,Bool.not_eq_true',decide_eq_false_iff_not,Bool.and_eq_true,Bool.or_eq_true,Bool.or_eq_false_iff] at hp;omega)))
 refine aa ?_
 simp only[go_sem,hcs]
 refine cw_v 2 (mh f [.iptr cs 0] rfl p l hp hl) (by first|(simp only[go_sem,hcs];exact ak _)|(first|trivial|(simp only[go_sem,hcs,wk,wks,wkB,wkH,subw,cn,cm,ltb,subr,dc];done)|(simp only[go_sem,hcs,wk,wks,wkB,wkH,subw,cn,cm,ltb,subr,dc];and_intros<;>first|trivial|rfl|omega|assumption|exact Nat.le_refl _|exact ak _|exact bf _|(intros;exact ak _)|(simp;done)|(simp;omega)))) (by (first|trivial|(simp only[go_sem,hcs,wk,wks,wkB,wkH,subw,cn,cm,ltb,subr,dc];done)|(simp only[go_sem,hcs,wk,wks,wkB,wkH,subw,cn,cm,ltb,subr,dc];and_intros<;>first|trivial|rfl|omega|assumption|exact Nat.le_refl _|exact ak _|exact bf _|(intros;exact ak _)|(simp;done)|(simp;omega)))) rfl ?_
 simp only[go_sem,hcs]
 refine ab ?_
 refine aa ?_
 simp only[go_sem,hcs]
 intro t12 e12
 subst e12
 refine ah _ rfl (fun h12=>?_) (fun h12=>?_)
 ·
  (try simp only[go_sem,hcs] at h12)
  refine aa ?_
  simp only[go_sem,hcs]
  refine af ?_
  simp only[go_sem,hcs]
  rw[zhn h12]
  refine⟨[0,1],rfl,rfl, ?_, ?_⟩<;>(first|trivial|(simp only[go_sem,hcs,wk,wks,wkB,wkH,subw,cn,cm,ltb,subr,dc];done)|(simp only[go_sem,hcs,wk,wks,wkB,wkH,subw,cn,cm,ltb,subr,dc];and_intros<;>first|trivial|rfl|omega|assumption|exact Nat.le_refl _|exact ak _|exact bf _|(intros;exact ak _)|(simp;done)|(simp;omega)))
 ·
  (try simp only[go_sem,hcs] at h12)
  obtain⟨iN,hiN,hiN1,hiN2,hiN3⟩:=rh default h12
  refine ag ?_
  (try simp only[go_sem,hcs])
  refine ab ?_
  refine aa ?_
  simp only[go_sem,hcs]
  intro t15 e15
  (try replace e15:=w64 e15 (by omega) (by omega))
  refine ai ?_
  refine gz (σ:=Nat × Nat × List Session) (fun s=>s.2.1<s.1∧s.1≤l.length∧s.2.2.length=l.length∧s.2.2.take s.2.1=(l.take s.1).filter (fun x=>!p x)∧s.2.2.drop s.1=l.drop s.1) (fun s=>[⟨6,0,[],.int .i64 (s.1:Nat)⟩,⟨5,0,[],.int .i64 (s.2.1:Nat)⟩]) [0,1,4] (fun s=>[.arr 5 l.length (En Session.enc default s.2.2),.box cs]) (fun s=>l.length-s.1) (iN+1,iN,l) ⟨by dsimp only;omega,by dsimp only;omega,rfl,hiN3.symm,rfl⟩ (fun _=>(Nat.le_of_ble_eq_true rfl)) (by (first|trivial|(simp only[go_sem,hcs,wk,wks,wkB,wkH,subw,cn,cm,ltb,subr,dc];done)|(simp only[go_sem,hcs,wk,wks,wkB,wkH,subw,cn,cm,ltb,subr,dc];and_intros<;>first|trivial|rfl|omega|assumption|exact Nat.le_refl _|exact ak _|exact bf _|(intros;exact ak _)|(simp;done)|(simp;omega)))) (fun s hI1=>?_)
  simp only[go_sem,hcs]
  refine ab ?_
  refine aa ?_
  simp only[go_sem,hcs]
  repeat ((with_reducible first|refine ad ?_ ?_|refine ae ?_ ?_);focus (first|(refine Sd.mk ?_;omega)|(refine Sq.mk ?_;omega)|exact Sd.mk trivial|exact Sq.mk trivial|(refine Sq.mk ?_;and_intros<;>first|omega|trivial|(simp;omega))|(refine Sd.of fun hp=>?_;simp only[pc,and_true] at hp;(try subst_vars);simp only[decide_eq_true_eq,Bool.not_eq_true',decide_eq_false_iff_not,Bool.and_eq_true,Bool.or_eq_true,Bool.or_eq_false_iff] at hp;omega)))
  intro t19 e19
  subst e19
  refine ah _ rfl (fun h19=>?_) (fun h19=>?_)
  ·
   (try simp only[go_sem,hcs] at h19)
   have hmem:s.2.2.getD s.1 default∈l:=by
    have h5:=congrArg (fun z=>z.getD 0 default) hI1.2.2.2.2
    simp only[List.getD_eq_getElem?_getD,List.getElem?_drop,Nat.add_zero] at h5
    rw[List.getD_eq_getElem?_getD,h5,← List.getD_eq_getElem?_getD]
    exact bj (by omega)
   refine ag ?_
   (try simp only[go_sem,hcs])
   refine ab (ai ?_)
   refine aa ?_
   simp only[go_sem,hcs]
   repeat ((with_reducible first|refine ad ?_ ?_|refine ae ?_ ?_);focus (first|(refine Sd.mk ?_;omega)|(refine Sq.mk ?_;omega)|exact Sd.mk trivial|exact Sq.mk trivial|(refine Sq.mk ?_;and_intros<;>first|omega|trivial|(simp;omega))|(refine Sd.of fun hp=>?_;simp only[pc,and_true] at hp;(try subst_vars);simp only[decide_eq_true_eq,Bool.not_eq_true',decide_eq_false_iff_not,Bool.and_eq_true,Bool.or_eq_true,Bool.or_eq_false_iff] at hp;omega)))
   refine aa ?_
   simp only[go_sem,hcs]
   refine cw_v 2 (hp (s.2.2.getD s.1 default) hmem) (by first|(simp only[go_sem,hcs];exact ak _)|(first|trivial|(simp only[go_sem,hcs,wk,wks,wkB,wkH,subw,cn,cm,ltb,subr,dc];done)|(simp only[go_sem,hcs,wk,wks,wkB,wkH,subw,cn,cm,ltb,subr,dc];and_intros<;>first|trivial|rfl|omega|assumption|exact Nat.le_refl _|exact ak _|exact bf _|(intros;exact ak _)|(simp;done)|(simp;omega)))) (by (first|trivial|(simp only[go_sem,hcs,wk,wks,wkB,wkH,subw,cn,cm,ltb,subr,dc];done)|(simp only[go_sem,hcs,wk,wks,wkB,wkH,subw,cn,cm,ltb,subr,dc];and_intros<;>first|trivial|rfl|omega|assumption|exact Nat.le_refl _|exact ak _|exact bf _|(intros;exact ak _)|(simp;done)|(simp;omega)))) rfl ?_
   simp only[go_sem,hcs]
   intro t29 e29
   subst e29
   refine ah _ rfl (fun h29=>?_) (fun h29=>?_)
   ·
    (try simp only[go_sem,hcs] at h29)
    refine aa ?_
    simp only[go_sem,hcs]
    repeat ((with_reducible first|refine ad ?_ ?_|refine ae ?_ ?_);focus (first|(refine Sd.mk ?_;omega)|(refine Sq.mk ?_;omega)|exact Sd.mk trivial|exact Sq.mk trivial|(refine Sq.mk ?_;and_intros<;>first|omega|trivial|(simp;omega))|(refine Sd.of fun hp=>?_;simp only[pc,and_true] at hp;(try subst_vars);simp only[decide_eq_true_eq,Bool.not_eq_true',decide_eq_false_iff_not,Bool.and_eq_true,Bool.or_eq_true,Bool.or_eq_false_iff] at hp;omega)))
    refine aj ?_
    simp only[go_sem,hcs]
    intro t35 e35
    (try replace e35:=w64 e35 (by omega) (by omega))
    refine aj ?_
    simp only[go_sem,hcs]
    intro t21 e21
    (try replace e21:=w64 e21 (by omega) (by omega))
    obtain⟨i1,i2,i3,i4,i5⟩:=hI1
    obtain⟨g1,g2⟩:=zhl (d:=default) i1 (by omega) i3 i4 i5 h29
    refine ay (s.1+1,s.2.1+1,s.2.2.set s.2.1 (s.2.2.getD s.1 default)) ⟨by dsimp only;omega,by dsimp only;omega,by simpa using i3,g1,g2⟩ (by first|omega|(dsimp only;omega)) ?_
    simp only[go_sem,hcs,wk,wks,wkB,wkH,subw,cn,cm,ltb]
    exact⟨⟨by omega,by omega⟩,fun i hi=>su (by omega) (ak _) i⟩
   ·
    (try simp only[go_sem,hcs] at h29)
    refine ag ?_
    (try simp only[go_sem,hcs])
    refine aj ?_
    simp only[go_sem,hcs]
    intro t21 e21
    (try replace e21:=w64 e21 (by omega) (by omega))
    obtain⟨i1,i2,i3,i4,i5⟩:=hI1
    obtain⟨g1,g2⟩:=zhk (d:=default) (by omega) i4 i5 h29
    refine ay (s.1+1,s.2.1,s.2.2) ⟨by dsimp only;omega,by dsimp only;omega,i3,g1,g2⟩ (by first|omega|(dsimp only;omega)) (by (first|trivial|(simp only[go_sem,hcs,wk,wks,wkB,wkH,subw,cn,cm,ltb,subr,dc];done)|(simp only[go_sem,hcs,wk,wks,wkB,wkH,subw,cn,cm,ltb,subr,dc];and_intros<;>first|trivial|rfl|omega|assumption|exact Nat.le_refl _|exact ak _|exact bf _|(intros;exact ak _)|(simp;done)|(simp;omega))))
  ·
   (try simp only[go_sem,hcs] at h19)
   refine bk ?_
   simp only[go_sem,hcs]
   refine aa ?_
   simp only[go_sem,hcs]
   repeat ((with_reducible first|refine ad ?_ ?_|refine ae ?_ ?_);focus (first|(refine Sd.mk ?_;omega)|(refine Sq.mk ?_;omega)|exact Sd.mk trivial|exact Sq.mk trivial|(refine Sq.mk ?_;and_intros<;>first|omega|trivial|(simp;omega))|(refine Sd.of fun hp=>?_;simp only[pc,and_true] at hp;(try subst_vars);simp only[decide_eq_true_eq,Bool.not_eq_true',decide_eq_false_iff_not,Bool.and_eq_true,Bool.or_eq_true,Bool.or_eq_false_iff] at hp;omega)))
   refine aa ?_
   simp only[go_sem,hcs]
   repeat ((with_reducible first|refine ad ?_ ?_|refine ae ?_ ?_);focus (first|(refine Sd.mk ?_;omega)|(refine Sq.mk ?_;omega)|exact Sd.mk trivial|exact Sq.mk trivial|(refine Sq.mk ?_;and_intros<;>first|omega|trivial|(simp;omega))|(refine Sd.of fun hp=>?_;simp only[pc,and_true] at hp;(try subst_vars);simp only[decide_eq_true_eq,Bool.not_eq_true',decide_eq_false_iff_not,Bool.and_eq_true,Bool.or_eq_true,Bool.or_eq_false_iff] at hp;omega)))
   refine af ?_
   simp only[go_sem,hcs]
   obtain⟨i1,i2,i3,i4,i5⟩:=hI1
   have hn:s.1=l.length:=by omega
   rw[hn,List.take_of_length_le (Nat.le_refl _)] at i4
   have hk:(l.filter fun x=>!p x).length=s.2.1:=by rw[← i4];simp;omega
   refine⟨[0,1],rfl,rfl, ?_, ?_⟩
   ·(first|trivial|(simp only[go_sem,hcs,wk,wks,wkB,wkH,subw,cn,cm,ltb,subr,dc];done)|(simp only[go_sem,hcs,wk,wks,wkB,wkH,subw,cn,cm,ltb,subr,dc];and_intros<;>first|trivial|rfl|omega|assumption|exact Nat.le_refl _|exact ak _|exact bf _|(intros;exact ak _)|(simp;done)|(simp;omega)))
   ·simp only[go_sem,hcs,wk,wks,wkB,wkH]
    exact⟨by omega,fun i hi=>xl (fun _=>rfl) (by omega) (by rw[← i4,zcy (by omega)])⟩
theorem ye (l:List Session) (i j:Nat) (hij:i≤j) (hj:j≤l.length) (hl:l.length*56≤140737488355328) :
  Does Tryz.prog 157 [.own none 0 5 0 l.length .loose,.int .i64 i,.int .i64 j] [.arr 5 l.length (En Session.enc default l)]
   (.own none 0 5 0 (l.take i++l.drop j).length .loose) [.arr 5 (l.take i++l.drop j).length (En Session.enc default (l.take i++l.drop j))]:=by
 have hlen:(l.take i++l.drop j).length=i+(l.length-j):=by simp;omega
 rw[hlen]
 refine eb (fn:=Tryz.f157) Tryz.func157 rfl fb157 (by kernel_rfl) (Nat.le_of_ble_eq_true rfl) ?_
 refine qv 0 rfl fun C hC=>?_
 refine aa ?_
 simp only[go_sem]
 repeat first|(with_reducible refine ad ?_ ?_;exact byD)|(with_reducible refine ae ?_ ?_;exact byQ)
 refine aa ?_
 simp only[go_sem]
 repeat first|(with_reducible refine ad ?_ ?_;exact byD)|(with_reducible refine ae ?_ ?_;exact byQ)
 refine ab ?_
 refine aa ?_
 simp only[go_sem]
 intro t16 e16
 subst e16
 refine ah _ rfl (fun h16=>?_) (fun h16=>?_)
 ·
  (try simp only[go_sem] at h16)
  refine aa ?_
  simp only[go_sem]
  refine af ?_
  simp only[go_sem]
  have hi:i=j:=by omega
  subst hi
  rw[List.take_append_drop]
  have:i+(l.length-i)=l.length:=by omega
  rw[this]
  exact⟨[0],rfl,rfl,byC,byC⟩
 ·
  (try simp only[go_sem] at h16)
  refine ag ?_
  (try simp only[go_sem])
  refine aa ?_
  simp only[go_sem]
  refine ab (bc cj [6] (.first 0 (.first 1 (.first 2 (.first 3 (.first 4 (.first 5 (.one 6 (.first 7 (.done))))))))) (by kernel_rfl) ?_)
  simp only[go_sem]
  repeat first|(with_reducible refine ad ?_ ?_;exact byD)|(with_reducible refine ae ?_ ?_;exact byQ)
  refine⟨fun hC26=>?_,fun hC26=>absurd hC26 (by omega)⟩
  refine aa ?_
  simp only[go_sem]
  repeat first|(with_reducible refine ad ?_ ?_;exact byD)|(with_reducible refine ae ?_ ?_;exact byQ)
  refine aa ?_
  simp only[go_sem]
  refine af ?_
  simp only[go_sem]
  refine⟨[0],rfl,rfl, ?_, ?_⟩
  ·exact byC
  ·simp only[go_sem,wk,wks,wkB,wkH]
   exact⟨by omega,fun q hq=>yz (fun _=>rfl) hij hj hq⟩
end Go.VM.Tryz.Up
end
section
set_option maxHeartbeats 4000000
open Go Go.VM Go.Proofs Tether
namespace Go.VM.Tryz.Up
theorem zsf (s:Session) (now:Int):Meets Tryz.prog 178 [.agg s.enc,.iptr [.int .i64 now] 0] (.bool (decide (s.till<now))) []:=by
 refine an (fn:=Tryz.f178) Tryz.func178 rfl fb178 (by kernel_rfl) (Nat.le_of_ble_eq_true rfl) ?_
 refine aa ?_
 simp only[go_sem]
 repeat first|(with_reducible refine ad ?_ ?_;exact byD)|(with_reducible refine ae ?_ ?_;exact byQ)
 refine aa ?_
 simp only[go_sem]
 intro t7 e7
 subst e7
 refine af ?_
 simp only[go_sem]
 exact aq rfl
theorem zrd (u:Uploads) (hu:u.ok) (now:Int):Meets Tryz.prog 154 [u.enc,.int .i64 now] (swept u now).own (swept u now).blk:=by
 refine an (fn:=Tryz.f154) Tryz.func154 rfl fb154 (by kernel_rfl) (Nat.le_of_ble_eq_true rfl) ?_
 refine aa ?_
 simp only[go_sem]
 repeat first|(with_reducible refine ad ?_ ?_;exact byD)|(with_reducible refine ae ?_ ?_;exact byQ)
 refine aa ?_
 simp only[go_sem]
 refine cw_m (nu u.ss hu.1) byW byT ?_
 simp only[go_sem]
 refine ce (qw 178 [.int .i64 now] rfl (fun s=>decide (s.till<now)) u.ss (fun s _=>zsf s now) hu.len) [3,1] rfl byC byC ?_
 simp only[go_sem]
 refine aa ?_
 simp only[go_sem]
 refine af ?_
 simp only[go_sem]
 exact ap 1 [3] rfl byC byC byC byC
theorem vd (u:Uploads) (hu:u.ok) (now:Int) (h:cz u now≠0):Meets Tryz.prog 125 [u.enc,.int .i64 now] (.tup [noU,.int .i64 (cz u now)]) []:=by
 refine an (fn:=Tryz.f125) Tryz.func125 rfl fb125 (by kernel_rfl) (Nat.le_of_ble_eq_true rfl) ?_
 refine aa ?_
 simp only[go_sem]
 repeat first|(with_reducible refine ad ?_ ?_;exact byD)|(with_reducible refine ae ?_ ?_;exact byQ)
 refine ab ?_
 refine aa ?_
 simp only[go_sem]
 refine cw_m (Check_c u hu.len fun s hs=>(hu.2 s hs).1) byW byT ?_
 simp only[go_sem]
 refine aa ?_
 simp only[go_sem]
 intro t10 e10
 subst e10
 refine ah _ rfl (fun h10=>?_) (fun h10=>?_)
 ·
  (try simp only[go_sem] at h10)
  refine aa ?_
  simp only[go_sem]
  refine af ?_
  simp only[go_sem]
  rw[cz,if_pos h10]
  exact ap 1 [] rfl byC byC byC byC
 ·
  (try simp only[go_sem] at h10)
  refine ag ?_
  (try simp only[go_sem])
  refine ab ?_
  refine aa ?_
  simp only[go_sem]
  refine cw_m (jb _ _ _) byW byT ?_
  simp only[go_sem]
  intro t15 e15
  subst e15
  refine ah _ rfl (fun h15=>?_) (fun h15=>?_)
  ·
   (try simp only[go_sem] at h15)
   refine aa ?_
   simp only[go_sem]
   refine af ?_
   simp only[go_sem]
   rw[cz,if_neg (by simp[h10]),if_pos h15]
   exact ap 1 [] rfl byC byC byC byC
  ·
   (try simp only[go_sem] at h15)
   refine ag ?_
   (try simp only[go_sem])
   refine aa ?_
   simp only[go_sem]
   refine cw_m (zrd u hu now) byW byT ?_
   simp only[go_sem]
   refine af ?_
   simp only[go_sem]
   exact absurd (by rw[cz,if_neg (by simp[h10]),if_neg (by simp[h15])]) h
theorem zw (u:Uploads) (hu:u.ok) (now:Int) (h:cz u now=0):Meets Tryz.prog 125 [u.enc,.int .i64 now] (.tup [(swept u now).own,.int .i64 0]) (swept u now).blk:=by
 refine an (fn:=Tryz.f125) Tryz.func125 rfl fb125 (by kernel_rfl) (Nat.le_of_ble_eq_true rfl) ?_
 refine aa ?_
 simp only[go_sem]
 repeat first|(with_reducible refine ad ?_ ?_;exact byD)|(with_reducible refine ae ?_ ?_;exact byQ)
 refine ab ?_
 refine aa ?_
 simp only[go_sem]
 refine cw_m (Check_c u hu.len fun s hs=>(hu.2 s hs).1) byW byT ?_
 simp only[go_sem]
 refine aa ?_
 simp only[go_sem]
 intro t10 e10
 subst e10
 refine ah _ rfl (fun h10=>?_) (fun h10=>?_)
 ·
  (try simp only[go_sem] at h10)
  refine aa ?_
  simp only[go_sem]
  refine af ?_
  simp only[go_sem]
  exact absurd h (by rw[cz,if_pos h10];exact h10)
 ·
  (try simp only[go_sem] at h10)
  refine ag ?_
  (try simp only[go_sem])
  refine ab ?_
  refine aa ?_
  simp only[go_sem]
  refine cw_m (jb _ _ _) byW byT ?_
  simp only[go_sem]
  intro t15 e15
  subst e15
  refine ah _ rfl (fun h15=>?_) (fun h15=>?_)
  ·
   (try simp only[go_sem] at h15)
   refine aa ?_
   simp only[go_sem]
   refine af ?_
   simp only[go_sem]
   exact absurd h (by rw[cz,if_neg (by simp[h10]),if_pos h15];simp)
  ·
   (try simp only[go_sem] at h15)
   refine ag ?_
   (try simp only[go_sem])
   refine aa ?_
   simp only[go_sem]
   refine cw_m (zrd u hu now) byW byT ?_
   simp only[go_sem]
   refine af ?_
   simp only[go_sem]
   exact ap 1 [2] rfl byC byC byC byC
end Go.VM.Tryz.Up
end
section
set_option maxHeartbeats 4000000
open Go Go.VM Go.Proofs Tether
namespace Go.VM.Tryz.Up
theorem z0k (s:Session) (number:Int) (who:Str):Meets Tryz.prog 156 [.agg s.enc,.iptr [.int .i64 number] 0,.iptr [.str who] 0] (.bool (decide (s.num=number) && decide (s.who=who))) []:=by
 refine an (fn:=Tryz.f156) Tryz.func156 rfl fb156 (by kernel_rfl) (Nat.le_of_ble_eq_true rfl) ?_
 refine aa ?_
 simp only[go_sem]
 repeat first|(with_reducible refine ad ?_ ?_;exact byD)|(with_reducible refine ae ?_ ?_;exact byQ)
 refine aa ?_
 simp only[go_sem]
 intro t8 e8
 intro t13 e13
 intro t14 e14
 rw[ar] at e14
 subst e8 e13 e14
 refine af ?_
 simp only[go_sem]
 exact aq rfl
theorem zbt (u:Uploads) (hu:u.ok) (who:Str) (number now:Int):Meets Tryz.prog 155 [ssV (swept u now).ss,.fn 156 [] [.iptr [.int .i64 number] 0,.iptr [.str who] 0]] (.int .i64 (dv u who number now)) [] :=
 mh 156 [.iptr [.int .i64 number] 0,.iptr [.str who] 0] rfl (fun s=>decide (s.num=number) && decide (s.who=who)) (swept u now).ss (fun s _=>z0k s number who) (zbk hu now)
theorem zal (u:Uploads) (hu:u.ok) (who:Str) (hw:who.length<4611686018427387904) (number now:Int) (h:¬ ck u who number now=0) :
  Meets Tryz.prog 126 [u.enc,.str who,.int .i64 number,.int .i64 now] (.tup [noU,.int .i64 0,.int .i64 (ck u who number now)]) []:=by
 refine an (fn:=Tryz.f126) Tryz.func126 rfl fb126 (by kernel_rfl) (Nat.le_of_ble_eq_true rfl) ?_
 refine aa ?_
 simp only[go_sem]
 repeat first|(with_reducible refine ad ?_ ?_;exact byD)|(with_reducible refine ae ?_ ?_;exact byQ)
 refine aa ?_
 simp only[go_sem]
 repeat first|(with_reducible refine ad ?_ ?_;exact byD)|(with_reducible refine ae ?_ ?_;exact byQ)
 by_cases hs16:cz u now=0
 ·
  refine cw_m (zw u hu now hs16) byW byT ?_
  simp only[go_sem]
  refine ab ?_
  refine aa ?_
  simp only[go_sem]
  intro t20 e20
  subst e20
  refine ah _ rfl (fun h20=>ew h20) (fun h20=>?_)
  refine ag ?_
  (try simp only[go_sem])
  refine ab ?_
  refine aa ?_
  simp only[go_sem]
  refine cw_m (jc who hw) byW byT ?_
  simp only[go_sem]
  intro t25 e25
  subst e25
  refine ah _ rfl (fun h25=>?_) (fun h25=>?_)
  ·
   (try simp only[go_sem] at h25)
   refine aa ?_
   simp only[go_sem]
   refine af ?_
   simp only[go_sem]
   rw[ck,if_neg (by simp[hs16]),if_pos h25]
   exact ap 1 [] rfl byC byC byC byC
  ·
   (try simp only[go_sem] at h25)
   refine ag ?_
   (try simp only[go_sem])
   refine aa ?_
   simp only[go_sem]
   refine cw_v 2 (zbt u hu who number now) byV byC rfl ?_
   simp only[go_sem]
   refine ab ?_
   refine aa ?_
   simp only[go_sem]
   intro t32 e32
   subst e32
   refine ah _ rfl (fun h32=>?_) (fun h32=>?_)
   ·
    (try simp only[go_sem] at h32)
    refine aa ?_
    simp only[go_sem]
    refine af ?_
    simp only[go_sem]
    rw[ck,if_neg (by simp[hs16]),if_neg (by simp[h25]),if_pos h32]
    exact ap 1 [] rfl byC byC byC byC
   ·
    (try simp only[go_sem] at h32)
    refine ag ?_
    (try simp only[go_sem])
    refine aa ?_
    simp only[go_sem]
    refine af ?_
    simp only[go_sem]
    exact absurd (by rw[ck,if_neg (by simp[hs16]),if_neg (by simp[h25]),if_neg h32]) h
 ·
  refine cw_m (vd u hu now hs16) byW byT ?_
  simp only[go_sem]
  refine ab ?_
  refine aa ?_
  simp only[go_sem]
  intro t20 e20
  subst e20
  refine ah _ rfl (fun h20=>?_) (fun h20=>ew h20)
  refine aa ?_
  simp only[go_sem]
  refine af ?_
  simp only[go_sem]
  rw[ck,if_pos hs16]
  exact ap 1 [] rfl byC byC byC byC
theorem zfm (u:Uploads) (hu:u.ok) (who:Str) (hw:who.length<4611686018427387904) (number now:Int) (h:ck u who number now=0) :
  Meets Tryz.prog 126 [u.enc,.str who,.int .i64 number,.int .i64 now] (.tup [(swept u now).own,.int .i64 (dv u who number now),.int .i64 0]) (swept u now).blk:=by
 refine an (fn:=Tryz.f126) Tryz.func126 rfl fb126 (by kernel_rfl) (Nat.le_of_ble_eq_true rfl) ?_
 refine aa ?_
 simp only[go_sem]
 repeat first|(with_reducible refine ad ?_ ?_;exact byD)|(with_reducible refine ae ?_ ?_;exact byQ)
 refine aa ?_
 simp only[go_sem]
 repeat first|(with_reducible refine ad ?_ ?_;exact byD)|(with_reducible refine ae ?_ ?_;exact byQ)
 by_cases hs16:cz u now=0
 ·
  refine cw_m (zw u hu now hs16) byW byT ?_
  simp only[go_sem]
  refine ab ?_
  refine aa ?_
  simp only[go_sem]
  intro t20 e20
  subst e20
  refine ah _ rfl (fun h20=>ew h20) (fun h20=>?_)
  refine ag ?_
  (try simp only[go_sem])
  refine ab ?_
  refine aa ?_
  simp only[go_sem]
  refine cw_m (jc who hw) byW byT ?_
  simp only[go_sem]
  intro t25 e25
  subst e25
  refine ah _ rfl (fun h25=>?_) (fun h25=>?_)
  ·
   (try simp only[go_sem] at h25)
   refine aa ?_
   simp only[go_sem]
   refine af ?_
   simp only[go_sem]
   exact absurd h (by rw[ck,if_neg (by simp[hs16]),if_pos h25];simp)
  ·
   (try simp only[go_sem] at h25)
   refine ag ?_
   (try simp only[go_sem])
   refine aa ?_
   simp only[go_sem]
   refine cw_v 2 (zbt u hu who number now) byV byC rfl ?_
   simp only[go_sem]
   refine ab ?_
   refine aa ?_
   simp only[go_sem]
   intro t32 e32
   subst e32
   refine ah _ rfl (fun h32=>?_) (fun h32=>?_)
   ·
    (try simp only[go_sem] at h32)
    refine aa ?_
    simp only[go_sem]
    refine af ?_
    simp only[go_sem]
    exact absurd h (by rw[ck,if_neg (by simp[hs16]),if_neg (by simp[h25]),if_pos h32];simp)
   ·
    (try simp only[go_sem] at h32)
    refine ag ?_
    (try simp only[go_sem])
    refine aa ?_
    simp only[go_sem]
    refine af ?_
    simp only[go_sem]
    exact ap 1 [4] rfl byC byC byC byC
 ·
  refine cw_m (vd u hu now hs16) byW byT ?_
  simp only[go_sem]
  refine ab ?_
  refine aa ?_
  simp only[go_sem]
  intro t20 e20
  subst e20
  refine ah _ rfl (fun h20=>?_) (fun h20=>ew h20)
  refine aa ?_
  simp only[go_sem]
  refine af ?_
  simp only[go_sem]
  exact absurd h (by rw[ck,if_pos hs16];exact hs16)
end Go.VM.Tryz.Up
end
section
set_option maxHeartbeats 4000000
open Go Go.VM Go.Proofs Tether
namespace Go.VM.Tryz.Up
theorem Open_c (u:Uploads) (hu:u.ok) (who:Str) (hw:who.length<4611686018427387904) (size now:Int) :
  Meets Tryz.prog 86 [u.enc,.str who,.int .i64 size,.int .i64 now] (.tup [(ip u who size now).1.enc,.int .i64 (ip u who size now).2.1,.int .i64 (ip u who size now).2.2]) []:=by
 refine an (fn:=Tryz.f86) Tryz.func86 rfl fb86 (by kernel_rfl) (Nat.le_of_ble_eq_true rfl) ?_
 refine aa ?_
 simp only[go_sem]
 repeat first|(with_reducible refine ad ?_ ?_;exact byD)|(with_reducible refine ae ?_ ?_;exact byQ)
 refine aa ?_
 simp only[go_sem]
 repeat first|(with_reducible refine ad ?_ ?_;exact byD)|(with_reducible refine ae ?_ ?_;exact byQ)
 by_cases hs16:cz u now=0
 ·
  obtain⟨hc,hn1,hn2⟩:=ni hs16
  obtain⟨⟨hl1,hl2⟩,-,⟨hx1,hx2⟩,h20,hse⟩:=xh hc
  have hsl:(swept u now).ss.length≤20:=Nat.le_trans (List.length_filter_le _ _) h20
  refine cw_m (zw u hu now hs16) byW byT ?_
  simp only[go_sem]
  refine ab (ai ?_)
  refine aa ?_
  simp only[go_sem]
  intro t21 e21
  subst e21
  refine ah _ rfl (fun h19=>ew h19) (fun h19=>?_)
  refine aa ?_
  simp only[go_sem]
  refine cw_m (jc who hw) byW byT ?_
  simp only[go_sem]
  intro t25 e25
  subst e25
  refine ah _ rfl (fun h22=>?_) (fun h22=>?_)
  ·
   (try simp only[go_sem] at h22)
   refine aj ?_
   simp only[go_sem]
   refine ab ?_
   refine aa ?_
   simp only[go_sem]
   intro t51 e51
   subst e51
   refine ah _ rfl (fun h51=>?_) (fun h51=>ew h51)
   refine aa ?_
   simp only[go_sem]
   refine af ?_
   simp only[go_sem]
   have he:fb u who size now=1:=by rw[fb,if_neg (by simp[hs16]),if_pos h22]
   rw[ip,if_neg (by rw[he];simp),he]
   exact ap 1 [] rfl byC byC byC byC
  ·
   (try simp only[go_sem] at h22)
   refine aa ?_
   simp only[go_sem]
   refine cw_m (jb _ _ _) byW byT ?_
   simp only[go_sem]
   intro t29 e29
   intro t33 e33
   intro t34 e34
   rw[az] at e34
   subst e29 e33 e34
   refine ah _ rfl (fun h26=>?_) (fun h26=>?_)
   ·
    (try simp only[go_sem] at h26)
    refine aj ?_
    simp only[go_sem]
    refine ab ?_
    refine aa ?_
    simp only[go_sem]
    intro t51 e51
    subst e51
    refine ah _ rfl (fun h51=>?_) (fun h51=>ew h51)
    refine aa ?_
    simp only[go_sem]
    refine af ?_
    simp only[go_sem]
    have he:fb u who size now=3:=by rw[fb,if_neg (by simp[hs16]),if_neg (by simp[h22]),if_pos h26]
    rw[ip,if_neg (by rw[he];simp),he]
    exact ap 1 [] rfl byC byC byC byC
   ·
    (try simp only[go_sem] at h26)
    refine aa ?_
    simp only[go_sem]
    intro t39 e39
    subst e39
    refine ah _ rfl (fun h35=>?_) (fun h35=>?_)
    ·
     (try simp only[go_sem] at h35)
     refine aj ?_
     simp only[go_sem]
     refine ab ?_
     refine aa ?_
     simp only[go_sem]
     intro t51 e51
     subst e51
     refine ah _ rfl (fun h51=>?_) (fun h51=>ew h51)
     refine aa ?_
     simp only[go_sem]
     refine af ?_
     simp only[go_sem]
     have he:fb u who size now=2:=by rw[fb,if_neg (by simp[hs16]),if_neg (by simp[h22]),if_neg (by simpa using h26),if_pos h35]
     rw[ip,if_neg (by rw[he];simp),he]
     exact ap 1 [] rfl byC byC byC byC
    ·
     (try simp only[go_sem] at h35)
     refine ab (bc cj [] (.first 0 (.first 1 (.first 2 (.first 4 (.first 6 (.first 7 (.one 3 (.first 5 (.first 8 (.first 9 (.done))))))))))) (by kernel_rfl) ?_)
     simp only[go_sem]
     refine zil 2 (zya (swept u now).ss who (zbk hu now)) byV byC rfl ?_
     simp only[go_sem]
     intro t46 e46
     (try replace e46:=w64 e46 (by omega) (by omega))
     intro t49 e49
     subst e49
     refine ah _ rfl (fun h40=>?_) (fun h40=>?_)
     ·
      (try simp only[go_sem] at h40)
      refine aj ?_
      simp only[go_sem]
      refine ab ?_
      refine aa ?_
      simp only[go_sem]
      intro t51 e51
      subst e51
      refine ah _ rfl (fun h51=>?_) (fun h51=>ew h51)
      refine aa ?_
      simp only[go_sem]
      refine af ?_
      simp only[go_sem]
      subst e46
      have he:fb u who size now=10:=by rw[fb,if_neg (by simp[hs16]),if_neg (by simp[h22]),if_neg (by simpa using h26),if_neg h35,if_pos h40]
      rw[ip,if_neg (by rw[he];simp),he]
      exact ap 1 [] rfl byC byC byC byC
     ·
      (try simp only[go_sem] at h40)
      refine ag ?_
      (try simp only[go_sem])
      refine ab ?_
      refine aa ?_
      simp only[go_sem]
      intro t51 e51
      subst e51
      refine ah _ rfl (fun h51=>ew h51) (fun h51=>?_)
      refine ag ?_
      (try simp only[go_sem])
      refine aa ?_
      simp only[go_sem]
      refine aa ?_
      simp only[go_sem]
      intro t58 e58
      (try replace e58:=w64 e58 (by omega) (by omega))
      refine aa ?_
      simp only[go_sem]
      intro t68 e68
      (try replace e68:=w64 e68 (by omega) (by omega))
      repeat first|(with_reducible refine ad ?_ ?_;exact byD)|(with_reducible refine ae ?_ ?_;exact byQ)
      refine aa ?_
      simp only[go_sem]
      refine af ?_
      simp only[go_sem]
      have he:fb u who size now=0:=by rw[fb,if_neg (by simp[hs16]),if_neg (by simp[h22]),if_neg (by simpa using h26),if_neg h35,if_neg (by simpa [e46] using h40)]
      rw[ip,if_pos he]
      refine zxx (.tup [.agg [.own none 4 5 0 ((swept u now).ss++[Session.mk u.next who [] size (now+u.lasts)]).length .loose,.int .i64 (u.next+1),.int .i64 u.lasts,.int .i64 u.room],.int .i64 u.next,.int .i64 0]) [.dead,.dead,.dead,.dead,.arr 5 ((swept u now).ss++[Session.mk u.next who [] size (now+u.lasts)]).length (En Session.enc default ((swept u now).ss++[Session.mk u.next who [] size (now+u.lasts)]))] ?_ ?_ ?_
      ·exact byC
      ·simp only[go_sem,wkB,wkH,List.length_append,List.length_cons,List.length_nil]
       exact fun i hi=>vu (by rw[e68];exact ak _) hi
      ·exact ap 1 [] rfl byC byC byC byC
 ·
  refine cw_m (vd u hu now hs16) byW byT ?_
  simp only[go_sem]
  refine ab (ai ?_)
  refine aa ?_
  simp only[go_sem]
  intro t21 e21
  subst e21
  refine ah _ rfl (fun h19=>?_) (fun h19=>ew h19)
  refine ag ?_
  (try simp only[go_sem])
  refine ab ?_
  refine aa ?_
  simp only[go_sem]
  intro t51 e51
  subst e51
  refine ah _ rfl (fun h51=>?_) (fun h51=>ew h51)
  refine aa ?_
  simp only[go_sem]
  refine af ?_
  simp only[go_sem]
  have he:fb u who size now=cz u now:=by rw[fb,if_pos hs16]
  rw[ip,if_neg (by rw[he];exact hs16),he]
  exact ap 1 [] rfl byC byC byC byC
end Go.VM.Tryz.Up
end
section
set_option maxHeartbeats 4000000
open Go Go.VM Go.Proofs Tether
namespace Go.VM.Tryz.Up
theorem Query_c (u:Uploads) (hu:u.ok) (who:Str) (hw:who.length<4611686018427387904) (number now:Int) :
  Meets Tryz.prog 88 [u.enc,.str who,.int .i64 number,.int .i64 now] (.tup [.int .i64 (la u who number now).1,.int .i64 (la u who number now).2]) []:=by
 refine an (fn:=Tryz.f88) Tryz.func88 rfl fb88 (by kernel_rfl) (Nat.le_of_ble_eq_true rfl) ?_
 refine aa ?_
 simp only[go_sem]
 repeat first|(with_reducible refine ad ?_ ?_;exact byD)|(with_reducible refine ae ?_ ?_;exact byQ)
 refine aa ?_
 simp only[go_sem]
 repeat first|(with_reducible refine ad ?_ ?_;exact byD)|(with_reducible refine ae ?_ ?_;exact byQ)
 by_cases hs17:ck u who number now=0
 ·
  obtain⟨hi1,hi2⟩:=nb hs17
  refine cw_m (zfm u hu who hw number now hs17) byW byT ?_
  simp only[go_sem]
  refine ab ?_
  refine aa ?_
  simp only[go_sem]
  intro t22 e22
  subst e22
  refine ah _ rfl (fun h22=>ew h22) (fun h22=>?_)
  refine ag ?_
  (try simp only[go_sem])
  refine aa ?_
  simp only[go_sem]
  repeat first|(with_reducible refine ad ?_ ?_;exact byD)|(with_reducible refine ae ?_ ?_;exact byQ)
  refine af ?_
  simp only[go_sem]
  rw[la,if_pos hs17]
  exact ap 1 [] rfl byC byC byC byC
 ·
  refine cw_m (zal u hu who hw number now hs17) byW byT ?_
  simp only[go_sem]
  refine ab ?_
  refine aa ?_
  simp only[go_sem]
  intro t22 e22
  subst e22
  refine ah _ rfl (fun h22=>?_) (fun h22=>ew h22)
  refine aa ?_
  simp only[go_sem]
  refine af ?_
  simp only[go_sem]
  rw[la,if_neg hs17]
  exact ap 1 [] rfl byC byC byC byC
theorem Append_c (u:Uploads) (hu:u.ok) (who:Str) (hw:who.length<4611686018427387904) (number offset:Int) (text:Str) (ht:text.length<4611686018427387904) (now:Int) :
  Meets Tryz.prog 87 [u.enc,.str who,.int .i64 number,.int .i64 offset,.str text,.int .i64 now] (.tup [(bz u who number offset text now).1.enc,.int .i64 (bz u who number offset text now).2.1,.int .i64 (bz u who number offset text now).2.2]) []:=by
 refine an (fn:=Tryz.f87) Tryz.func87 rfl fb87 (by kernel_rfl) (Nat.le_of_ble_eq_true rfl) ?_
 refine aa ?_
 simp only[go_sem]
 repeat first|(with_reducible refine ad ?_ ?_;exact byD)|(with_reducible refine ae ?_ ?_;exact byQ)
 refine aa ?_
 simp only[go_sem]
 repeat first|(with_reducible refine ad ?_ ?_;exact byD)|(with_reducible refine ae ?_ ?_;exact byQ)
 by_cases hs24:ck u who number now=0
 ·
  obtain⟨hi1,hi2⟩:=nb hs24
  obtain⟨hb,hn,-⟩:=jx hs24
  obtain⟨hc,hn1,hn2⟩:=ni hb
  obtain⟨⟨hl1,hl2⟩,-,-,h20,hse⟩:=xh hc
  have htx:=(hu.2 _ (zhu hs24)).2
  refine cw_m (zfm u hu who hw number now hs24) byW byT ?_
  simp only[go_sem]
  refine ab ?_
  refine aa ?_
  simp only[go_sem]
  intro t29 e29
  subst e29
  refine ah _ rfl (fun h29=>ew h29) (fun h29=>?_)
  refine ag ?_
  (try simp only[go_sem])
  refine aa ?_
  simp only[go_sem]
  repeat first|(with_reducible refine ad ?_ ?_;exact byD)|(with_reducible refine ae ?_ ?_;exact byQ)
  refine aa ?_
  simp only[go_sem]
  repeat first|(with_reducible refine ad ?_ ?_;exact byD)|(with_reducible refine ae ?_ ?_;exact byQ)
  refine cw_m (jb _ _ _) byW byT ?_
  simp only[go_sem]
  repeat ((with_reducible first|refine ad ?_ ?_|refine ae ?_ ?_);focus (first|exact byD|exact byQ|((first|(refine Sd.mk ?_;omega)|(refine Sd.of fun hp=>?_;simp only[pc,and_true] at hp;exact Tether.within_iff.1 hp)))))
  intro t51 e51
  intro t52 e52
  rw[ar] at e52
  subst e51 e52
  refine ab (ai ?_)
  refine aa ?_
  simp only[go_sem]
  refine ah _ rfl (fun h68=>?_) (fun h68=>?_)
  ·
   (try simp only[go_sem] at h68)
   have hj:bz u who number offset text now=(swept u now,(((swept u now).ss.getD (dv u who number now).toNat default).text.length:Int),0):=by
    rw[bz,if_pos hs24];exact if_pos ⟨Tether.within_iff.1 h68.1,h68.2⟩
   refine ag ?_
   (try simp only[go_sem])
   refine zs ([⟨12,0,[],.ptr 1 0⟩,⟨13,0,[],.int .i64 (bz u who number offset text now).2.1⟩,⟨14,0,[],.int .i64 0⟩]) ([.dead,.box [.own none 2 5 0 (bz u who number offset text now).1.ss.length .loose,.int .i64 u.next,.int .i64 u.lasts,.int .i64 u.room],.arr 5 (bz u who number offset text now).1.ss.length (En Session.enc default (bz u who number offset text now).1.ss)]) (bc cj [0,2,3,4,5,6] (.first 1 (.alt 0 (.alt 2 (.alt 3 (.alt 4 (.alt 5 (.one 6 (.first 7 (.first 8 (.done)))) (.one 6 (.one 5 (.first 7 (.first 8 (.done)))))) (.one 6 (.one 4 (.one 5 (.first 7 (.first 8 (.done))))))) (.one 6 (.one 3 (.one 4 (.one 5 (.first 7 (.first 8 (.done)))))))) (.one 6 (.one 2 (.one 3 (.one 4 (.one 5 (.first 7 (.first 8 (.done))))))))) (.one 2 (.alt 0 (.alt 3 (.alt 4 (.alt 5 (.one 6 (.first 7 (.first 8 (.done)))) (.one 6 (.one 5 (.first 7 (.first 8 (.done)))))) (.one 6 (.one 4 (.one 5 (.first 7 (.first 8 (.done))))))) (.one 6 (.one 3 (.one 4 (.one 5 (.first 7 (.first 8 (.done)))))))) (.one 3 (.alt 0 (.alt 4 (.alt 5 (.one 6 (.first 7 (.first 8 (.done)))) (.one 6 (.one 5 (.first 7 (.first 8 (.done)))))) (.one 6 (.one 4 (.one 5 (.first 7 (.first 8 (.done))))))) (.one 4 (.alt 0 (.alt 5 (.one 6 (.first 7 (.first 8 (.done)))) (.one 6 (.one 5 (.first 7 (.first 8 (.done)))))) (.one 5 (.one 0 (.one 6 (.first 7 (.first 8 (.done)))))))))))))) (by kernel_rfl) ?_) ?_
   ·((try simp only[hj]);simp only[go_sem,wk,wks,wkB,wkH,subw,cn,cm,ltb,subr,dc,wkE];repeat' (first|apply And.intro))<;>first|(refine Sd.mk ?_;omega)|(refine Sq.mk ?_;omega)|first|trivial|rfl|omega|assumption|exact Nat.le_refl _|exact ak _|exact bf _|(intros;exact ak _)|(simp;done)|(simp;omega)|(intro q hq;exact su (by omega) (ak _) q)|(intro q hq;exact zy (by omega) (ak _) q)
   refine af ?_
   simp only[go_sem]
   rw[hj]
   exact ap 1 [] rfl byC byC byC byC
  ·
   (try simp only[go_sem] at h68)
   have hn68:¬ ((0≤offset∧offset≤(((swept u now).ss.getD (dv u who number now).toNat default).text.length:Int))∧((swept u now).ss.getD (dv u who number now).toNat default).text.drop offset.toNat=text):=by
    rintro⟨k1,k2⟩
    rcases h68 with h|h
    ·rw[Tether.within_iff.2 k1] at h;cases h
    ·exact h k2
   refine aa ?_
   simp only[go_sem]
   repeat first|(with_reducible refine ad ?_ ?_;exact byD)|(with_reducible refine ae ?_ ?_;exact byQ)
   intro t77 e77
   subst e77
   refine ah _ rfl (fun h70=>?_) (fun h70=>?_)
   ·
    (try simp only[go_sem] at h70)
    have ha:bz u who number offset text now=(yb,0,4):=by rw[bz,if_pos hs24];exact (if_neg hn68).trans (if_pos h70)
    refine aa ?_
    simp only[go_sem]
    refine af ?_
    simp only[go_sem]
    rw[ha]
    exact ap 1 [] rfl byC byC byC byC
   ·
    (try simp only[go_sem] at h70)
    refine ab (bc cj [] (.first 0 (.first 1 (.first 2 (.first 3 (.first 4 (.first 5 (.first 6 (.first 7 (.first 8 (.first 9 (.first 10 (.first 11 (.first 12 (.first 13 (.done))))))))))))))) (by kernel_rfl) ?_)
    simp only[go_sem]
    repeat first|(with_reducible refine ad ?_ ?_;exact byD)|(with_reducible refine ae ?_ ?_;exact byQ)
    intro t87 e87
    (try replace e87:=w64 e87 (by omega) (by omega))
    repeat first|(with_reducible refine ad ?_ ?_;exact byD)|(with_reducible refine ae ?_ ?_;exact byQ)
    intro t92 e92
    subst e92
    refine ah _ rfl (fun h79=>?_) (fun h79=>?_)
    ·
     (try simp only[go_sem] at h79)
     have ha:bz u who number offset text now=(yb,0,2):=by rw[bz,if_pos hs24];exact (if_neg hn68).trans ((if_neg (by simpa using h70)).trans (if_pos (by rw[← e87];exact h79)))
     refine aa ?_
     simp only[go_sem]
     refine af ?_
     simp only[go_sem]
     rw[ha]
     exact ap 1 [] rfl byC byC byC byC
    ·
     (try simp only[go_sem] at h79)
     have hj:bz u who number offset text now=({ swept u now with ss:=(swept u now).ss.set (dv u who number now).toNat { (swept u now).ss.getD (dv u who number now).toNat default with text:=((swept u now).ss.getD (dv u who number now).toNat default).text++text,till:=now+u.lasts } },((((swept u now).ss.getD (dv u who number now).toNat default).text++text).length:Int),0):=by
      rw[bz,if_pos hs24];exact (if_neg hn68).trans ((if_neg (by simpa using h70)).trans (if_neg (by rw[← e87];exact h79)))
     refine aa ?_
     simp only[go_sem]
     repeat first|(with_reducible refine ad ?_ ?_;exact byD)|(with_reducible refine ae ?_ ?_;exact byQ)
     refine aj ?_
     simp only[go_sem]
     intro t65 e65
     (try replace e65:=w64 e65 (by omega) (by omega))
     repeat first|(with_reducible refine ad ?_ ?_;exact byD)|(with_reducible refine ae ?_ ?_;exact byQ)
     subst e65
     refine zs ([⟨12,0,[],.ptr 1 0⟩,⟨13,0,[],.int .i64 (bz u who number offset text now).2.1⟩,⟨14,0,[],.int .i64 0⟩]) ([.dead,.box [.own none 2 5 0 (bz u who number offset text now).1.ss.length .loose,.int .i64 u.next,.int .i64 u.lasts,.int .i64 u.room],.arr 5 (bz u who number offset text now).1.ss.length (En Session.enc default (bz u who number offset text now).1.ss)]) (bc cj [0,2,3,4,5,6] (.first 1 (.alt 0 (.alt 2 (.alt 3 (.alt 4 (.alt 5 (.one 6 (.first 7 (.first 8 (.done)))) (.one 6 (.one 5 (.first 7 (.first 8 (.done)))))) (.one 6 (.one 4 (.one 5 (.first 7 (.first 8 (.done))))))) (.one 6 (.one 3 (.one 4 (.one 5 (.first 7 (.first 8 (.done)))))))) (.one 6 (.one 2 (.one 3 (.one 4 (.one 5 (.first 7 (.first 8 (.done))))))))) (.one 2 (.alt 0 (.alt 3 (.alt 4 (.alt 5 (.one 6 (.first 7 (.first 8 (.done)))) (.one 6 (.one 5 (.first 7 (.first 8 (.done)))))) (.one 6 (.one 4 (.one 5 (.first 7 (.first 8 (.done))))))) (.one 6 (.one 3 (.one 4 (.one 5 (.first 7 (.first 8 (.done)))))))) (.one 3 (.alt 0 (.alt 4 (.alt 5 (.one 6 (.first 7 (.first 8 (.done)))) (.one 6 (.one 5 (.first 7 (.first 8 (.done)))))) (.one 6 (.one 4 (.one 5 (.first 7 (.first 8 (.done))))))) (.one 4 (.alt 0 (.alt 5 (.one 6 (.first 7 (.first 8 (.done)))) (.one 6 (.one 5 (.first 7 (.first 8 (.done)))))) (.one 5 (.one 0 (.one 6 (.first 7 (.first 8 (.done)))))))))))))) (by kernel_rfl) ?_) ?_
     ·((try simp only[hj]);simp only[go_sem,wk,wks,wkB,wkH,subw,cn,cm,ltb,subr,dc,wkE];repeat' (first|apply And.intro))<;>first|(refine Sd.mk ?_;omega)|(refine Sq.mk ?_;omega)|first|trivial|rfl|omega|assumption|exact Nat.le_refl _|exact ak _|exact bf _|(intros;exact ak _)|(simp;done)|(simp;omega)|(intro q hq;exact su (by omega) (ak _) q)|(intro q hq;exact zy (by omega) (ak _) q)
     refine af ?_
     simp only[go_sem]
     rw[hj]
     exact ap 1 [] rfl byC byC byC byC
 ·
  refine cw_m (zal u hu who hw number now hs24) byW byT ?_
  simp only[go_sem]
  refine ab ?_
  refine aa ?_
  simp only[go_sem]
  intro t29 e29
  subst e29
  refine ah _ rfl (fun h29=>?_) (fun h29=>ew h29)
  refine aa ?_
  simp only[go_sem]
  refine af ?_
  simp only[go_sem]
  rw[bz,if_neg hs24]
  exact ap 1 [] rfl byC byC byC byC
end Go.VM.Tryz.Up
end
section
set_option maxHeartbeats 4000000
open Go Go.VM Go.Proofs Tether
namespace Go.VM.Tryz.Up
theorem Finish_c (u:Uploads) (hu:u.ok) (who:Str) (hw:who.length<4611686018427387904) (number now:Int) :
  Meets Tryz.prog 128 [u.enc,.str who,.int .i64 number,.int .i64 now] (.tup [(fd u who number now).1.enc,.str (fd u who number now).2.1,.int .i64 (fd u who number now).2.2]) []:=by
 refine an (fn:=Tryz.f128) Tryz.func128 rfl fb128 (by kernel_rfl) (Nat.le_of_ble_eq_true rfl) ?_
 refine aa ?_
 simp only[go_sem]
 repeat first|(with_reducible refine ad ?_ ?_;exact byD)|(with_reducible refine ae ?_ ?_;exact byQ)
 refine aa ?_
 simp only[go_sem]
 repeat first|(with_reducible refine ad ?_ ?_;exact byD)|(with_reducible refine ae ?_ ?_;exact byQ)
 by_cases hs19:ck u who number now=0
 ·
  obtain⟨hi1,hi2⟩:=nb hs19
  obtain⟨hb,hn,-⟩:=jx hs19
  have hsl:(swept u now).ss.length*56≤140737488355328:=by
   have:=hu.1
   have h2:(swept u now).ss.length≤u.ss.length:=List.length_filter_le _ _
   omega
  refine cw_m (zfm u hu who hw number now hs19) byW byT ?_
  simp only[go_sem]
  refine ab ?_
  refine aa ?_
  simp only[go_sem]
  intro t24 e24
  subst e24
  refine ah _ rfl (fun h24=>ew h24) (fun h24=>?_)
  refine ag ?_
  (try simp only[go_sem])
  refine aa ?_
  simp only[go_sem]
  repeat first|(with_reducible refine ad ?_ ?_;exact byD)|(with_reducible refine ae ?_ ?_;exact byQ)
  refine ab ?_
  refine aa ?_
  simp only[go_sem]
  intro t37 e37
  subst e37
  refine ah _ rfl (fun h37=>?_) (fun h37=>?_)
  ·
   (try simp only[go_sem] at h37)
   have ha:fd u who number now=(yb,[],4):=by rw[fd,if_pos hs19];exact if_pos h37
   refine aa ?_
   simp only[go_sem]
   refine af ?_
   simp only[go_sem]
   rw[ha]
   exact ap 1 [] rfl byC byC byC byC
  ·
   (try simp only[go_sem] at h37)
   have hj:fd u who number now=({ swept u now with ss:=(swept u now).ss.take (dv u who number now).toNat++(swept u now).ss.drop ((dv u who number now).toNat+1) },((swept u now).ss.getD (dv u who number now).toNat default).text,0):=by rw[fd,if_pos hs19];exact if_neg h37
   refine ag ?_
   (try simp only[go_sem])
   refine aa ?_
   simp only[go_sem]
   intro t43 e43
   (try replace e43:=w64 e43 (by omega) (by omega))
   refine ce (ye (swept u now).ss (dv u who number now).toNat ((dv u who number now).toNat+1) (by omega) (by omega) hsl) [2] rfl byC byC ?_
   simp only[go_sem]
   refine zs ([⟨8,0,[],.ptr 1 0⟩,⟨9,0,[],.str (fd u who number now).2.1⟩,⟨10,0,[],.int .i64 0⟩]) ([.dead,.box [.own none 2 5 0 (fd u who number now).1.ss.length .loose,.int .i64 u.next,.int .i64 u.lasts,.int .i64 u.room],.arr 5 (fd u who number now).1.ss.length (En Session.enc default (fd u who number now).1.ss),.dead]) (bc cj [0,1,2,3] (.alt 0 (.alt 1 (.alt 2 (.one 3 (.first 4 (.first 5 (.done)))) (.one 3 (.one 2 (.first 4 (.first 5 (.done)))))) (.one 3 (.one 1 (.one 2 (.first 4 (.first 5 (.done))))))) (.one 1 (.alt 0 (.alt 2 (.one 3 (.first 4 (.first 5 (.done)))) (.one 3 (.one 2 (.first 4 (.first 5 (.done)))))) (.one 2 (.one 0 (.one 3 (.first 4 (.first 5 (.done))))))))) (by kernel_rfl) ?_) ?_
   ·((try simp only[hj]);simp only[go_sem,wk,wks,wkB,wkH,subw,cn,cm,ltb,subr,dc,wkE];repeat' (first|apply And.intro))<;>first|(refine Sd.mk ?_;omega)|(refine Sq.mk ?_;omega)|first|trivial|rfl|omega|assumption|exact Nat.le_refl _|exact ak _|exact bf _|(intros;exact ak _)|(simp;done)|(simp;omega)|(intro q hq;exact su (by omega) (ak _) q)|(intro q hq;exact zy (by omega) (ak _) q)
   refine af ?_
   simp only[go_sem]
   rw[hj]
   exact ap 1 [] rfl byC byC byC byC
 ·
  refine cw_m (zal u hu who hw number now hs19) byW byT ?_
  simp only[go_sem]
  refine ab ?_
  refine aa ?_
  simp only[go_sem]
  intro t24 e24
  subst e24
  refine ah _ rfl (fun h24=>?_) (fun h24=>ew h24)
  refine aa ?_
  simp only[go_sem]
  refine af ?_
  simp only[go_sem]
  rw[fd,if_neg hs19]
  exact ap 1 [] rfl byC byC byC byC
end Go.VM.Tryz.Up
end
section
set_option maxHeartbeats 4000000
open Go Go.VM Go.Proofs Tether
namespace Go.VM.Tryz
end Go.VM.Tryz
end
section
set_option maxHeartbeats 4000000
open Go Go.VM Go.Proofs Tether
namespace Go.VM.Tryz
end Go.VM.Tryz
end
section
set_option maxHeartbeats 4000000
open Go Go.VM Go.Proofs Tether
namespace Go.VM.Tryz
theorem mi (x:Str) (l:List Str):∀ k,mj (x::l) (k+1)=if k=0 then x else x++47::mj l k
 | 0=>by simp[mj]
 | k+1=>by
   have ih:=mi x l k
   rw[mj,ih]
   by_cases hk:k=0
   ·subst hk;simp[mj]
   ·simp[hk,mj]
theorem ze (b:UInt8) (x:Str) (l:List Str) (k:Nat):mj ((b::x)::l) (k+1)=b::mj (x::l) (k+1):=by
 rw[mi,mi]
 split<;>simp
theorem zbu:∀ s:Str,mj (pcs s) (pcs s).length=s
 | []=>by simp[pcs,mj]
 | b::r=>by
   have ih:=zbu r
   have hne:=ym r
   by_cases hb:b=47
   ·simp only[pcs,hb,if_true,List.length_cons]
    rw[mi,if_neg (by simpa using hne),ih]
    simp
   ·simp only[pcs,hb,if_false]
    rcases hp:pcs r with _ | ⟨x,xs⟩
    ·exact absurd hp hne
    ·rw[hp] at ih
     simp only[List.length_cons] at ih ⊢
     rw[ze,ih]
theorem zvv (b:UInt8) (r:Str) (n:Nat):at8 (b::r) (n+1)=at8 r n:=by simp[at8]
theorem rc (b:UInt8) (r:Str) (c:Int):∀ n,lixN (b::r) c (n+1)=if 0≤lixN r c n then lixN r c n+1 else if (b.toNat:Int)=c then 0 else -1
 | 0=>by simp[lixN,at8]
 | n+1=>by
   have ih:=rc b r c n
   rw[lixN,zvv,ih]
   by_cases h:at8 r n=c
   ·simp only[lixN,h,if_true]
    have:(0:Int)≤n:=by omega
    simp[this]
   ·simp only[lixN,h,if_false]
theorem b47 (b:UInt8):((b.toNat:Int)=47)↔b=47:=by
 constructor
 ·intro h
  apply UInt8.toNat_inj.1
  have:(47:UInt8).toNat=47:=rfl
  rw[this];omega
 ·intro h;rw[h];rfl
theorem zgg:∀ s:Str,lix s 47 = -1↔(pcs s).length=1
 | []=>⟨fun _=>rfl,fun _=>rfl⟩
 | b::r=>by
   have ih:=zgg r
   have hne:=ym r
   have hb2:=b47 b
   have hle:=vp r 47 r.length
   show lixN (b::r) 47 (r.length+1) = -1↔_
   rw[rc]
   by_cases hb:b=47
   ·simp only[pcs,hb,if_true,List.length_cons]
    have h0:0<(pcs r).length:=List.length_pos_iff.2 hne
    constructor
    ·intro h
     have e:((47:UInt8).toNat:Int)=47:=rfl
     rw[if_pos e] at h
     split at h<;>omega
    ·intro h;omega
   ·have hn:¬ ((b.toNat:Int)=47):=fun h=>hb (hb2.1 h)
    have hlen:(pcs (b::r)).length=(pcs r).length:=by
     simp only[pcs,hb,if_false]
     rcases hp:pcs r with _ | ⟨x,xs⟩
     ·exact absurd hp hne
     ·rfl
    rw[if_neg hn,hlen,← ih]
    show _↔lixN r 47 r.length = -1
    split<;>omega
theorem zaa:∀ s:Str,mj (pcs s) ((pcs s).length-1)=bq s
 | []=>by simp[pcs,mj,bq]
 | b::r=>by
   have ih:=zaa r
   have hne:=ym r
   have h0:0<(pcs r).length:=List.length_pos_iff.2 hne
   have hlp:=zgg r
   have hle:=vp r 47 r.length
   have hlc:lix (b::r) 47=if 0≤lix r 47 then lix r 47+1 else if (b.toNat:Int)=47 then 0 else -1:=rc b r 47 r.length
   unfold bq at ih ⊢
   rw[hlc]
   by_cases h1:0≤lix r 47
   ·have hn1:(pcs r).length≠1:=fun h=>by have:=hlp.2 h;omega
    obtain⟨m,hm⟩:∃ m,(pcs r).length=m+2:=⟨(pcs r).length-2,by omega⟩
    have ht:(lix r 47+1).toNat=(lix r 47).toNat+1:=by omega
    rw[if_pos h1,ht,List.take_succ_cons,← ih]
    by_cases hb:b=47
    ·simp only[pcs,hb,if_true,List.length_cons,hm]
     show mj ([]::pcs r) (m+2)=_
     rw[mi]
     simp
    ·simp only[pcs,hb,if_false]
     rcases hp:pcs r with _ | ⟨x,xs⟩
     ·exact absurd hp hne
     ·rw[hp] at hm
      simp only[List.length_cons] at hm ⊢
      rw[show xs.length+1-1=m+1 by omega,ze]
   ·have e1:lix r 47 = -1:=by have : -1≤lix r 47:=hle.1;omega
    have hn1:=hlp.1 e1
    rw[if_neg h1]
    by_cases hb:b=47
    ·simp only[pcs,hb,if_true,List.length_cons,hn1]
     simp[mj]
    ·have hlen:(pcs (b::r)).length=(pcs r).length:=by
      simp only[pcs,hb,if_false]
      rcases hp:pcs r with _ | ⟨x,xs⟩
      ·exact absurd hp hne
      ·rfl
     rw[hlen,hn1,if_neg (fun h=>hb ((b47 b).1 h))]
     simp[mj]
end Go.VM.Tryz
end
section
set_option maxHeartbeats 4000000
open Go Go.VM Go.Proofs Tether
namespace Go.VM.Tryz
theorem zbd:∀ s:Str,(pcs s).getD ((pcs s).length-1) []=mu s
 | []=>by simp[pcs,mu]
 | b::r=>by
   have ih:=zbd r
   have hne:=ym r
   have h0:0<(pcs r).length:=List.length_pos_iff.2 hne
   have hlp:=zgg r
   have hle:=vp r 47 r.length
   have hlc:lix (b::r) 47=if 0≤lix r 47 then lix r 47+1 else if (b.toNat:Int)=47 then 0 else -1:=rc b r 47 r.length
   unfold mu at ih ⊢
   rw[hlc]
   by_cases h1:0≤lix r 47
   ·have hn1:(pcs r).length≠1:=fun h=>by have:=hlp.2 h;omega
    obtain⟨m,hm⟩:∃ m,(pcs r).length=m+2:=⟨(pcs r).length-2,by omega⟩
    have ht:(lix r 47+1+1).toNat=(lix r 47+1).toNat+1:=by omega
    rw[if_pos h1,ht,List.drop_succ_cons,← ih]
    by_cases hb:b=47
    ·simp only[pcs,hb,if_true,List.length_cons,hm]
     simp[List.getD_eq_getElem?_getD]
    ·simp only[pcs,hb,if_false]
     rcases hp:pcs r with _ | ⟨x,xs⟩
     ·exact absurd hp hne
     ·rw[hp] at hm
      simp only[List.length_cons] at hm ⊢
      rw[show xs.length+1-1=m+1 by omega]
      simp[List.getD_eq_getElem?_getD]
   ·have e1:lix r 47 = -1:=by have : -1≤lix r 47:=hle.1;omega
    have hn1:=hlp.1 e1
    have hr:pcs r=[r]:=by
     rw[hn1,e1] at ih
     obtain⟨x,hx⟩:=List.length_eq_one_iff.1 hn1
     rw[hx] at ih ⊢
     simp at ih
     rw[ih]
    rw[if_neg h1]
    by_cases hb:b=47
    ·subst hb
     simp only[pcs,if_true,hr]
     have e:((47:UInt8).toNat:Int)=47:=rfl
     rw[if_pos e]
     rfl
    ·simp only[pcs,hb,if_false,hr]
     rw[if_neg (fun h=>hb ((b47 b).1 h))]
     rfl
end Go.VM.Tryz
end
section
set_option maxHeartbeats 4000000
open Go Go.VM Go.Proofs Tether
namespace Go.VM.Tryz
def jp:List Str→List Str→Bool
 | _,[]=>true
 | [],_::_=>false
 | x::a,y::b=>decide (x=y) && jp a b
theorem tf:∀ (a b:List Str),inP a b=jp a b
 | a,[]=>by simp[inP,jp]
 | [],y::b=>by simp[inP,jp]
 | x::a,y::b=>by
   have ih:=tf a b
   rw[jp,← ih]
   simp only[inP,List.length_cons,List.range_succ_eq_map,List.all_cons,List.all_map]
   have e:((fun i=>decide ((x::a).getD i []=(y::b).getD i [])) ∘ Nat.succ)=fun i=>decide (a.getD i []=b.getD i []):=by
    funext i;simp
   rw[e]
   have h:decide (b.length+1≤a.length+1)=decide (b.length≤a.length):=by simp
   rw[h]
   simp only[List.getD_cons_zero]
   cases decide (b.length≤a.length)<;>cases decide (x=y)<;>simp
end Go.VM.Tryz
end
section
set_option maxHeartbeats 4000000
open Go Go.VM Go.Proofs Tether
namespace Go.VM.Tryz
theorem jg (r:Str):pcs (47::r)=[]::pcs r:=by simp[pcs]
theorem ji {b:UInt8} (hb:b≠47) {r x:Str} {xs:List Str} (h:pcs r=x::xs):pcs (b::r)=(b::x)::xs:=by simp[pcs,hb,h]
theorem rf (r:Str):∃ x xs,pcs r=x::xs:=by
 rcases h:pcs r with _ | ⟨x,xs⟩
 ·exact absurd h (ym r)
 ·exact⟨x,xs,rfl⟩
theorem so:∀ (b a:Str),jp (pcs a) (pcs b)=true↔a=b∨∃ t,a=b++47::t
 | [],[]=>by simp[pcs,jp]
 | [],c::a=>by
   by_cases hc:c=47
   ·subst hc
    rw[jg]
    simp[pcs,jp]
   ·obtain⟨x,xs,hx⟩:=rf a
    rw[ji hc hx]
    simp[pcs,jp,hc]
 | d::b,[]=>by
   obtain⟨y,ys,hy⟩:=rf b
   by_cases hd:d=47
   ·subst hd
    rw[jg,hy]
    simp[pcs,jp]
   ·rw[ji hd hy]
    simp[pcs,jp]
 | d::b,c::a=>by
   have ih:=so b a
   obtain⟨y,ys,hy⟩:=rf b
   obtain⟨x,xs,hx⟩:=rf a
   by_cases hd:d=47
   ·subst hd
    by_cases hc:c=47
    ·subst hc
     rw[jg,jg,jp]
     simp[ih]
    ·rw[jg,ji hc hx,jp]
     simp[hc]
   ·by_cases hc:c=47
    ·subst hc
     rw[jg,ji hd hy,jp]
     have:¬ (47:UInt8)=d:=fun e=>hd e.symm
     simp[this]
    ·rw[ji hd hy,ji hc hx,jp]
     rw[hx,hy,jp] at ih
     by_cases hcd:c=d
     ·subst hcd
      simpa using ih
     ·simp[hcd]
theorem zui (a b:Str):isIn a b=inP (pcs a) (pcs b):=by
 rw[tf,Bool.eq_iff_iff,so]
 simp only[isIn,zh,Bool.or_eq_true,decide_eq_true_eq,Bool.and_eq_true]
 constructor
 ·rintro (h | ⟨h1,h2⟩)
  ·exact .inl h
  ·refine .inr ⟨a.drop (b++[47]).length, ?_⟩
   conv=>lhs;rw[← List.take_append_drop (b++[47]).length a,h2]
   simp
 ·rintro (h | ⟨t,rfl⟩)
  ·exact .inl h
  ·refine .inr ⟨by simp, ?_⟩
   rw[show b++47::t=(b++[47])++t by simp,List.take_left]
end Go.VM.Tryz
end
section
set_option maxHeartbeats 4000000
open Go Go.VM Go.Proofs Tether
namespace Go.VM.Tryz
theorem sf:∀ (a b:Str),pcs (a++47::b)=pcs a++pcs b
 | [],b=>by simp[pcs]
 | c::a,b=>by
   have ih:=sf a b
   obtain⟨x,xs,hx⟩:=rf a
   by_cases hc:c=47
   ·subst hc
    rw[List.cons_append,jg,jg,ih]
    rfl
   ·rw[hx] at ih
    rw[List.cons_append,ji hc hx,ji hc (x:=x) (xs:=xs++pcs b) (by rw[ih];rfl)]
    rfl
theorem ic (a b:Str):isIn a b=true↔a=b∨∃ t,a=b++47::t:=by
 rw[zui,tf,so]
theorem zol {p f:Str} (t:Str) (h:isIn p f=true):pcs t++(pcs p).drop (pcs f).length=pcs (t++p.drop f.length):=by
 rcases (ic p f).1 h with rfl | ⟨u,rfl⟩
 ·simp
 ·rw[sf,List.drop_left,List.drop_left,sf]
theorem zvs {p f:Str} (t:Str) (h:isIn p f=true):isIn (t++p.drop f.length) t=true:=by
 rw[ic]
 rcases (ic p f).1 h with rfl | ⟨u,rfl⟩
 ·left;simp
 ·right;exact⟨u,by rw[List.drop_left]⟩
theorem zdc (a b:List Str):∀ k,k≤a.length→mj (a++b) k=mj a k
 | 0,_=>rfl
 | k+1,h=>by
   simp only[mj]
   rw[zdc a b k (by omega)]
   simp[List.getD_eq_getElem?_getD,List.getElem?_append_left (show k<a.length by omega)]
theorem ft {h x:Str} (hx:47 ∉ x):bq (h++47::x)=h:=by
 rw[← zaa,sf,uy x hx]
 simp only[List.length_append,List.length_cons,List.length_nil,Nat.zero_add,Nat.add_sub_cancel]
 rw[zdc _ _ _ (Nat.le_refl _),zbu]
theorem zbo {x:Str} (hx:47 ∉ x):bq x=[]:=by
 rw[← zaa,uy x hx]
 rfl
theorem qt {h x:Str} (hx:47 ∉ x):mu (h++47::x)=x:=by
 rw[← zbd,sf,uy x hx]
 simp[List.getD_eq_getElem?_getD]
theorem zby {x:Str} (hx:47 ∉ x):mu x=x:=by
 rw[← zbd,uy x hx]
 rfl
theorem pu:∀ s:Str,47 ∉ s∨∃ h x,s=h++47::x∧47 ∉ x
 | []=>.inl (by simp)
 | c::s=>by
   rcases pu s with h | ⟨h,x,rfl,hx⟩
   ·by_cases hc:c=47
    ·subst hc
     exact .inr ⟨[],s,rfl,h⟩
    ·exact .inl (by simp[h];exact fun e=>hc e.symm)
   ·exact .inr ⟨c::h,x,rfl,hx⟩
theorem im (p:Str):bn [p]=0↔(∀ x∈pcs p,ba x=true)∧gw p=false:=by
 simp only[bn]
 constructor
 ·intro h
  split at h
  ·rename_i h1
   split at h
   ·cases h
   ·rename_i h2
    exact⟨List.all_eq_true.1 h1,by simpa using h2⟩
  ·cases h
 ·rintro⟨h1,h2⟩
  rw[if_pos (List.all_eq_true.2 h1),if_neg (by simp[h2])]
theorem z3i (p q:Str):bn [p,q]=0↔bn [p]=0∧bn [q]=0:=by
 rw[vo]
 by_cases h:bn [p]=0
 ·simp[h]
 ·simp[h]
theorem zzj (p q r:Str):bn [p,q,r]=0↔bn [p]=0∧bn [q]=0∧bn [r]=0:=by
 rw[vo,← z3i]
 by_cases h:bn [p]=0
 ·simp[h]
 ·simp[h]
theorem ua (s:Str):gw s=false↔s.count 47<6∧s.length≤80:=by
 simp only[gw,Bool.or_eq_false_iff,decide_eq_false_iff_not]
 omega
theorem zbr {x:Str} (h:ba x=true):x≠[]:=by
 rintro rfl
 simp[ba] at h
theorem parts {p:Str} (h:bn [p]=0):ba (mu p)=true∧(if bq p=[] then mu p else bq p++47::mu p)=p∧(bq p≠[]→bn [bq p]=0):=by
 obtain⟨h1,h2⟩:=(im p).1 h
 rcases pu p with hp | ⟨f,x,rfl,hx⟩
 ·rw[zbo hp,zby hp]
  refine⟨h1 p (by rw[uy p hp];simp),by simp,fun h=>absurd rfl h⟩
 ·rw[ft hx,qt hx]
  rw[sf,uy x hx] at h1
  have hf:f≠[]:=by
   rintro rfl
   exact zbr (h1 [] (by simp[pcs])) rfl
  refine⟨h1 x (by simp),by rw[if_neg hf],fun _=>(im f).2 ⟨fun y hy=>h1 y (by simp[hy]), ?_⟩⟩
  rw[ua] at h2 ⊢
  simp at h2
  omega
end Go.VM.Tryz
end
section
set_option maxHeartbeats 4000000
open Go Go.VM Go.Proofs Tether
namespace Go.VM.Tryz
end Go.VM.Tryz
end
section
set_option maxHeartbeats 4000000
open Go Go.VM Go.Proofs Tether
namespace Go.VM.Tryz
def noE:Entry:=⟨[],false,[],0⟩
def topE:Entry:=⟨[],true,[],0⟩
def parE (l:List Entry) (p:Str):Entry × Bool:=if bq p=[] then (topE,true) else if hasE l (bq p)=true then (l.getD (eIx l (bq p)) default,true) else (noE,false)
def ll (l:List Entry):Bool:=(List.range l.length).all fun i=>decide (i=0) || blt (l.getD (i-1) default).path (l.getD i default).path
def zle (l:List Entry):Bool:=l.all fun x=>(parE l x.path).2
def zrz (l:List Entry):Bool:=l.all fun x=>(parE l x.path).1.folder
def dd (l:List Entry):Int :=
 if 60<(l.length:Int) then 2 else if bh ge l≠0 then bh ge l else if ll l=false then 4 else if zle l=false then 5 else if zrz l=false then 4 else 0
def okE (l:List Entry):Prop:=l.length≤1048576∧∀ x∈l,x.path.length≤1048576∧x.text.length≤1048576
theorem okE.at {l:List Entry} (h:okE l) {i:Nat} (hi:i<l.length):(l.getD i default).path.length≤1048576∧(l.getD i default).text.length≤1048576:=h.2 _ (bj hi)
theorem zdm {l:List Entry} (h:∀ i,1≤i→i<l.length→blt (l.getD (i-1) default).path (l.getD i default).path=true):bo l:=by
 have hr:∀ i,i+1<l.length→(l.getD i default).path<(l.getD (i+1) default).path:=fun i hi=>blt_iff.1 (by simpa using h (i+1) (by omega) hi)
 unfold bo
 clear h
 induction l with
 | nil=>exact List.Pairwise.nil
 | cons x l ih =>
   have ih:=ih fun i hi=>by simpa using hr (i+1) (by simpa using hi)
   refine List.pairwise_cons.2 ⟨fun y hy=>?_,ih⟩
   cases l with
   | nil=>cases hy
   | cons z l =>
     have h0:x.path<z.path:=by simpa using hr 0 (by simp)
     rcases List.mem_cons.1 hy with rfl|hy
     ·exact h0
     ·exact qx h0 ((List.pairwise_cons.1 ih).1 y hy)
theorem zkp {l:List Entry} (h:∀ i,1≤i→i<l.length→blt (l.getD (i-1) default).path (l.getD i default).path=true):ll l=true:=by
 unfold ll
 refine dk fun i hi=>?_
 by_cases h0:i=0
 ·simp[h0]
 ·rw[h i (by omega) hi];simp
theorem sortedB_iff {l:List Entry}:ll l=true↔bo l:=by
 constructor
 ·intro h
  refine zdm fun i h1 h2=>?_
  have:=List.all_eq_true.1 h i (by simpa using h2)
  simpa [show i≠0 by omega] using this
 ·intro h
  refine zkp fun i h1 h2=>blt_iff.2 ?_
  have:=List.pairwise_iff_getElem.1 h (i-1) i (by omega) h2 (by omega)
  simpa [List.getD,h2,show i-1<l.length by omega] using this
theorem zid (l:List Entry) (p:Str) (hs:bo l) (hl:l.length<4611686018427387904) (hp:p.length<4611686018427387904):Meets Tryz.prog 141 [esV l,.str p] (.tup [.agg (parE l p).1.enc,.bool (parE l p).2]) []:=by
 refine an (fn:=Tryz.f141) Tryz.func141 rfl fb141 (by kernel_rfl) (Nat.le_of_ble_eq_true rfl) ?_
 refine aa ?_
 simp only[go_sem]
 repeat first|(with_reducible refine ad ?_ ?_;exact byD)|(with_reducible refine ae ?_ ?_;exact byQ)
 refine aa ?_
 simp only[go_sem]
 refine cw_m (z1a p hp) byW byT ?_
 simp only[go_sem]
 refine ab ?_
 refine aa ?_
 simp only[go_sem]
 intro t16 e16
 subst e16
 refine ah _ rfl (fun h16=>?_) (fun h16=>?_)
 ·
  (try simp only[go_sem] at h16)
  refine aa ?_
  simp only[go_sem]
  refine af ?_
  simp only[go_sem]
  have h:bq p=[]:=by simpa using h16
  rw[parE,if_pos h]
  exact cy rfl (bf _)
 ·
  (try simp only[go_sem] at h16)
  refine ag ?_
  (try simp only[go_sem])
  refine aa ?_
  simp only[go_sem]
  refine cw_m (At_c l (bq p) hs hl) byW byT ?_
  simp only[go_sem]
  refine ab ?_
  refine aa ?_
  simp only[go_sem]
  intro t25 e25
  subst e25
  refine ah _ rfl (fun h25=>?_) (fun h25=>?_)
  ·
   (try simp only[go_sem] at h25)
   refine aa ?_
   simp only[go_sem]
   refine af ?_
   simp only[go_sem]
   have h:¬ bq p=[]:=by simpa using h16
   have hh:¬ hasE l (bq p)=true:=by simpa using h25
   rw[parE,if_neg h,if_neg hh]
   exact cy rfl (bf _)
  ·
   (try simp only[go_sem] at h25)
   have hh:hasE l (bq p)=true:=by simpa using h25
   have hix:eIx l (bq p)<l.length:=by simp[hasE] at hh;exact hh.1
   refine ag ?_
   (try simp only[go_sem])
   refine aa ?_
   simp only[go_sem]
   repeat first|(with_reducible refine ad ?_ ?_;exact byD)|(with_reducible refine ae ?_ ?_;exact byQ)
   refine af ?_
   simp only[go_sem]
   have h:¬ bq p=[]:=by simpa using h16
   rw[parE,if_neg h,if_pos hh]
   exact cy rfl (bf _)
def outP (l:List Entry) (i:Nat):Int:=if ((l.take i).all fun x=>(parE l x.path).1.folder)=true then 0 else 4
theorem zbp {l:List Entry} {i:Nat} (h:i<l.length):((l.take (i+1)).all fun x=>(parE l x.path).1.folder)=(((l.take i).all fun x=>(parE l x.path).1.folder) && (parE l (l.getD i default).path).1.folder):=by
 have hd:l.getD i default=l[i]:=by simp[List.getD,h]
 rw[hd,List.take_add_one,List.getElem?_eq_getElem h,List.all_append]
 simp
theorem zfy (l:List Entry) (ok:okE l):Meets Tryz.prog 111 [esV l] (.int .i64 (dd l)) []:=by
 refine an (fn:=Tryz.f111) Tryz.func111 rfl fb111 (by kernel_rfl) (Nat.le_of_ble_eq_true rfl) ?_
 have hl:=ok.1
 refine aa ?_
 simp only[go_sem]
 repeat first|(with_reducible refine ad ?_ ?_;exact byD)|(with_reducible refine ae ?_ ?_;exact byQ)
 refine ab ?_
 refine aa ?_
 simp only[go_sem]
 intro t14 e14
 subst e14
 refine ah _ rfl (fun h14=>?_) (fun h14=>?_)
 ·
  (try simp only[go_sem] at h14)
  refine aa ?_
  simp only[go_sem]
  refine af ?_
  simp only[go_sem]
  refine am ?_
  rw[dd,if_pos (by omega)]
 ·
  (try simp only[go_sem] at h14)
  have h60:¬ 60<(l.length:Int):=by omega
  refine ag ?_
  (try simp only[go_sem])
  refine ab ?_
  refine aa ?_
  simp only[go_sem]
  refine ai ?_
  refine bm (σ:=Nat) (fun i=>i≤l.length∧∀ j,j<i→ge (l.getD j default)=0) (fun i=>[⟨17,0,[],.int .i64 (i:Nat)⟩]) [0,15,16] (fun i=>l.length-i) 0 ⟨Nat.zero_le _,fun j hj=>absurd hj (Nat.not_lt_zero j)⟩ (Nat.zero_le _) byC (fun i hI1=>?_)
  simp only[go_sem]
  refine aa ?_
  simp only[go_sem]
  repeat first|(with_reducible refine ad ?_ ?_;exact byD)|(with_reducible refine ae ?_ ?_;exact byQ)
  intro t18 e18
  subst e18
  refine ab ?_
  refine ah _ rfl (fun h18=>?_) (fun h18=>?_)
  ·
   (try simp only[go_sem] at h18)
   refine ag ?_
   (try simp only[go_sem])
   refine ab (ai ?_)
   refine aa ?_
   simp only[go_sem]
   repeat first|(with_reducible refine ad ?_ ?_;exact byD)|(with_reducible refine ae ?_ ?_;exact byQ)
   refine aa ?_
   simp only[go_sem]
   refine cw_m (zcs (l.getD i default) (by have:=ok.at (i:=i) (by omega);omega)) byW byT ?_
   simp only[go_sem]
   refine aa ?_
   simp only[go_sem]
   intro t24 e24
   subst e24
   refine ah _ rfl (fun h24=>?_) (fun h24=>?_)
   ·
    (try simp only[go_sem] at h24)
    refine aa ?_
    simp only[go_sem]
    refine af ?_
    simp only[go_sem]
    refine am ?_
    have h1:bh ge l=ge (l.getD i default):=dq (by omega) hI1.2 h24
    rw[dd,if_neg h60,if_pos (by rw[h1];exact h24),h1]
   ·
    (try simp only[go_sem] at h24)
    refine ag ?_
    (try simp only[go_sem])
    refine aj ?_
    simp only[go_sem]
    intro t26 e26
    (try replace e26:=w64 e26 (by omega) (by omega))
    refine ay (i+1) ⟨by omega,bw hI1.2 (by simpa using h24)⟩ (by first|omega|(dsimp only;omega)) byC
  ·
   (try simp only[go_sem] at h18)
   have hE:bh ge l=0:=fw (d:=default) fun j hj=>hI1.2 j (by omega)
   refine bk ?_
   simp only[go_sem]
   refine ab ?_
   refine aa ?_
   simp only[go_sem]
   refine ai ?_
   refine bm (σ:=Nat) (fun i=>1≤i∧(i≤l.length∨i=1)∧∀ j,j<i→1≤j→blt (l.getD (j-1) default).path (l.getD j default).path=true) (fun i=>[⟨6,0,[],.int .i64 (i:Nat)⟩]) [0] (fun i=>l.length-i) 1 ⟨Nat.le_refl _,.inr rfl,fun j h1 h2=>by omega⟩ (Nat.zero_le _) byC (fun i hI2=>?_)
   simp only[go_sem]
   refine ab ?_
   refine aa ?_
   simp only[go_sem]
   repeat first|(with_reducible refine ad ?_ ?_;exact byD)|(with_reducible refine ae ?_ ?_;exact byQ)
   intro t30 e30
   subst e30
   refine ah _ rfl (fun h30=>?_) (fun h30=>?_)
   ·
    (try simp only[go_sem] at h30)
    refine ag ?_
    (try simp only[go_sem])
    refine ab (ai ?_)
    refine ab (bc cj [] (.first 0 (.first 1 (.first 2 (.first 3 (.first 4 (.first 5 (.first 6 (.first 7 (.first 8 (.first 9 (.first 10 (.first 11 (.done))))))))))))) (by kernel_rfl) ?_)
    simp only[go_sem]
    repeat first|(with_reducible refine ad ?_ ?_;exact byD)|(with_reducible refine ae ?_ ?_;exact byQ)
    intro t40 e40
    (try replace e40:=w64 e40 (by omega) (by omega))
    repeat first|(with_reducible refine ad ?_ ?_;exact byD)|(with_reducible refine ae ?_ ?_;exact byQ)
    intro t44 e44
    subst e44
    have e40':t40.toNat=i-1:=by omega
    refine ah _ rfl (fun h44=>?_) (fun h44=>?_)
    ·
     (try simp only[go_sem] at h44)
     refine aa ?_
     simp only[go_sem]
     refine af ?_
     simp only[go_sem]
     refine am ?_
     have hr:ll l=false:=by
      have hb:blt (l.getD (i-1) default).path (l.getD i default).path=false:=by
       rw[e40'] at h44
       rcases h44 with h|h
       ·rw[blt_iff] at h
        cases hb:blt (l.getD (i-1) default).path (l.getD i default).path with
        | false=>rfl
        | true=>exact absurd (blt_iff.1 hb) (xj h)
       ·cases hb:blt (l.getD (i-1) default).path (l.getD i default).path with
        | false=>rfl
        | true =>
          have:=blt_iff.1 hb
          rw[h] at this
          exact absurd this (eq _)
      refine dl (i:=i) (by omega) ?_
      rw[hb,decide_eq_false (by omega)]
      rfl
     rw[dd,if_neg h60,if_neg (by simp[hE]),if_pos hr]
    ·
     (try simp only[go_sem] at h44)
     refine ag ?_
     (try simp only[go_sem])
     refine aj ?_
     simp only[go_sem]
     intro t32 e32
     (try replace e32:=w64 e32 (by omega) (by omega))
     have hb:blt (l.getD (i-1) default).path (l.getD i default).path=true:=by
      rw[e40'] at h44
      rcases qk (l.getD (i-1) default).path (l.getD i default).path with h|h|h
      ·exact blt_iff.2 h
      ·exact absurd h.symm h44.2
      ·rw[← blt_iff,h44.1] at h
       cases h
     refine ay (i+1) ⟨by omega,by omega,fun j h1 h2=>?_⟩ (by first|omega|(dsimp only;omega)) byC
     rcases Nat.lt_or_ge j i with h3|h3
     ·exact hI2.2.2 j h3 h2
     ·obtain rfl:j=i:=by omega
      exact hb
   ·
    (try simp only[go_sem] at h30)
    have hs:bo l:=zdm fun i' h1 h2=>hI2.2.2 i' (by omega) h1
    refine bk ?_
    simp only[go_sem]
    refine aa ?_
    simp only[go_sem]
    refine ab ?_
    refine aa ?_
    simp only[go_sem]
    refine ai ?_
    refine bm (σ:=Nat) (fun i=>i≤l.length∧∀ j,j<i→(parE l (l.getD j default).path).2=true) (fun i=>[⟨47,0,[],.int .i64 (i:Nat)⟩,⟨7,0,[],.int .i64 (outP l i)⟩]) [0,45,46] (fun i=>l.length-i) 0 ⟨Nat.zero_le _,fun j hj=>absurd hj (Nat.not_lt_zero j)⟩ (Nat.zero_le _) byC (fun i hI3=>?_)
    simp only[go_sem]
    refine aa ?_
    simp only[go_sem]
    repeat first|(with_reducible refine ad ?_ ?_;exact byD)|(with_reducible refine ae ?_ ?_;exact byQ)
    intro t48 e48
    subst e48
    refine ab ?_
    refine ah _ rfl (fun h48=>?_) (fun h48=>?_)
    ·
     (try simp only[go_sem] at h48)
     refine ag ?_
     (try simp only[go_sem])
     refine ab (ai ?_)
     refine aa ?_
     simp only[go_sem]
     repeat first|(with_reducible refine ad ?_ ?_;exact byD)|(with_reducible refine ae ?_ ?_;exact byQ)
     refine aa ?_
     simp only[go_sem]
     refine cw_m (zid l (l.getD i default).path hs (by omega) (by have:=ok.at (i:=i) (by omega);omega)) byW byT ?_
     simp only[go_sem]
     refine ai ?_
     refine aa ?_
     simp only[go_sem]
     intro t60 e60
     subst e60
     refine ah _ rfl (fun h58=>?_) (fun h58=>?_)
     ·
      (try simp only[go_sem] at h58)
      refine aa ?_
      simp only[go_sem]
      refine af ?_
      simp only[go_sem]
      refine am ?_
      have hr:zle l=false:=zoq (d:=default) (i:=i) (by omega) (by simpa using h58)
      rw[dd,if_neg h60,if_neg (by simp[hE]),if_neg (by simp[sortedB_iff.2 hs]),if_pos hr]
     ·
      (try simp only[go_sem] at h58)
      refine aa ?_
      simp only[go_sem]
      intro t64 e64
      subst e64
      refine ah _ rfl (fun h61=>?_) (fun h61=>?_)
      ·
       (try simp only[go_sem] at h61)
       refine aj ?_
       simp only[go_sem]
       refine aj ?_
       simp only[go_sem]
       intro t65 e65
       (try replace e65:=w64 e65 (by omega) (by omega))
       have hf:(parE l (l.getD i default).path).1.folder=false:=by simpa using h61
       have ho:outP l (i+1)=4:=by
        rw[outP,if_neg]
        rw[zbp (by omega),hf]
        simp
       refine ay (i+1) ⟨by omega,bw hI3.2 (by simpa using h58)⟩ (by first|omega|(dsimp only;omega)) ?_
       rw[ho]
       exact byC
      ·
       (try simp only[go_sem] at h61)
       refine ag ?_
       (try simp only[go_sem])
       refine aj ?_
       simp only[go_sem]
       intro t65 e65
       (try replace e65:=w64 e65 (by omega) (by omega))
       have hf:(parE l (l.getD i default).path).1.folder=true:=by simpa using h61
       have ho:outP l (i+1)=outP l i:=by
        rw[outP,outP,zbp (by omega),hf,Bool.and_true]
       refine ay (i+1) ⟨by omega,bw hI3.2 (by simpa using h58)⟩ (by first|omega|(dsimp only;omega)) ?_
       rw[ho]
       exact byC
    ·
     (try simp only[go_sem] at h48)
     have hP:zle l=true:=zoa (d:=default) fun j hj=>hI3.2 j (by omega)
     refine bk ?_
     simp only[go_sem]
     refine aa ?_
     simp only[go_sem]
     refine af ?_
     simp only[go_sem]
     refine am ?_
     have hi:i=l.length:=by omega
     rw[dd,if_neg h60,if_neg (by simp[hE]),if_neg (by simp[sortedB_iff.2 hs]),if_neg (by simp[hP]),hi,outP,List.take_length,zrz]
     by_cases h:(l.all fun x=>(parE l x.path).1.folder)=true
     ·rw[if_pos h,if_neg (by simp[h])]
     ·rw[if_neg h,if_pos (by simpa using h)]
end Go.VM.Tryz
end
section
set_option maxHeartbeats 4000000
open Go Go.VM Go.Proofs Tether
namespace Go.VM.Tryz
def z3c (t:List Entry):List V:=[esV t]
theorem ztf (t:List Entry):z3c t=[esV t]:=rfl
attribute [go_sem] ztf
theorem zwn (ls:List (List Entry)) (hl:ls.length<4611686018427387904) (ok:∀ t∈ls,okE t):Meets Tryz.prog 65 [lstV 1 z3c [] ls] (.int .i64 (bh dd ls)) []:=by
 refine an (fn:=Tryz.f65) Tryz.func65 rfl fb65 (by kernel_rfl) (Nat.le_of_ble_eq_true rfl) ?_
 refine aa ?_
 simp only[go_sem]
 repeat first|(with_reducible refine ad ?_ ?_;exact byD)|(with_reducible refine ae ?_ ?_;exact byQ)
 refine ab ?_
 refine aa ?_
 simp only[go_sem]
 refine ai ?_
 refine bm (σ:=Nat) (fun i=>i≤ls.length∧∀ j,j<i→dd (ls.getD j [])=0) (fun i=>[⟨8,0,[],.int .i64 (i:Nat)⟩]) [6,7] (fun i=>ls.length-i) 0 ⟨Nat.zero_le _,fun j hj=>absurd hj (Nat.not_lt_zero j)⟩ (Nat.zero_le _) byC (fun i hI1=>?_)
 simp only[go_sem]
 refine aa ?_
 simp only[go_sem]
 repeat first|(with_reducible refine ad ?_ ?_;exact byD)|(with_reducible refine ae ?_ ?_;exact byQ)
 intro t9 e9
 subst e9
 refine ab ?_
 refine ah _ rfl (fun h9=>?_) (fun h9=>?_)
 ·
  (try simp only[go_sem] at h9)
  refine ag ?_
  (try simp only[go_sem])
  refine ab (ai ?_)
  refine aa ?_
  simp only[go_sem]
  repeat first|(with_reducible refine ad ?_ ?_;exact byD)|(with_reducible refine ae ?_ ?_;exact byQ)
  refine aa ?_
  simp only[go_sem]
  refine cw_m (zfy (ls.getD i []) (ok _ (bj (by omega)))) byW byT ?_
  simp only[go_sem]
  refine aa ?_
  simp only[go_sem]
  intro t15 e15
  subst e15
  refine ah _ rfl (fun h15=>?_) (fun h15=>?_)
  ·
   (try simp only[go_sem] at h15)
   refine aa ?_
   simp only[go_sem]
   refine af ?_
   simp only[go_sem]
   refine am ?_
   exact (dq (by omega) hI1.2 h15).symm
  ·
   (try simp only[go_sem] at h15)
   refine ag ?_
   (try simp only[go_sem])
   refine aj ?_
   simp only[go_sem]
   intro t17 e17
   (try replace e17:=w64 e17 (by omega) (by omega))
   refine ay (i+1) ⟨by omega,bw hI1.2 (by simpa using h15)⟩ (by first|omega|(dsimp only;omega)) byC
 ·
  (try simp only[go_sem] at h9)
  refine bk ?_
  simp only[go_sem]
  refine aa ?_
  simp only[go_sem]
  refine af ?_
  simp only[go_sem]
  refine am ?_
  exact (fw (d:=[]) fun j hj=>hI1.2 j (by omega)).symm
theorem zdg (l:List Entry) (ok:okE l):Meets Tryz.prog 65 [lstV 1 z3c [] [l]] (.int .i64 (dd l)) []:=by
 have h:=zwn [l] (by simp) (by simpa using ok)
 have e:bh dd [l]=dd l:=by
  simp only[bh]
  by_cases h:dd l=0<;>simp[h]
 rwa [e] at h
theorem zsh (l:List Entry) (ok:okE l):Meets Tryz.prog 117 [esV l] (.int .i64 (dd l)) []:=by
 refine an (fn:=Tryz.f117) Tryz.func117 rfl fb117 (by kernel_rfl) (Nat.le_of_ble_eq_true rfl) ?_
 refine aa ?_
 simp only[go_sem]
 repeat first|(with_reducible refine ad ?_ ?_;exact byD)|(with_reducible refine ae ?_ ?_;exact byQ)
 refine aa ?_
 simp only[go_sem]
 refine cw_v 2 (zdg l ok) byV byC rfl ?_
 simp only[go_sem]
 refine af ?_
 simp only[go_sem]
 exact am rfl
end Go.VM.Tryz
end
