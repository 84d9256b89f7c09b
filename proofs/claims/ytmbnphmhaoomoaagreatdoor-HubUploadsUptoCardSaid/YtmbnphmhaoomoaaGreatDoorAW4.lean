import Derived.Test.YtmbnphmhaoomoaaGreatDoorAW3
import Derived.Test.YtmbnphmhaoomoaaGreatDoorAV6
import Derived.Test.YtmbnphmhaoomoaaGreatDoorAW2
set_option maxHeartbeats 4000000
set_option linter.unusedVariables false
set_option linter.unusedSimpArgs false
set_option maxRecDepth 100000
section
open Go Go.VM Go.Proofs Tether
namespace Go.VM.Tryz
def jj (c:Change):Int :=
 if c.kind<1∨4<c.kind then 7 else if bn [c.path]≠0 then bn [c.path] else if c.kind=3∧bn [c.to]≠0 then bn [c.to]
 else if (c.kind≠3∧c.to≠[])∨(c.kind≠2∧c.text≠[]) then 1 else if 300<(c.text.length:Int) then 2 else if c.base < -1∨1000000<c.base then 3 else 0
def okC (c:Change):Prop:=c.path.length≤1048576∧c.to.length≤1048576∧c.text.length≤1048576
theorem form_c (c:Change) (ok:okC c):Meets Tryz.prog 173 [.agg c.enc] (.int .i64 (jj c)) []:=by
 refine an (fn:=Tryz.f173) Tryz.func173 rfl fb173 (by kernel_rfl) (Nat.le_of_ble_eq_true rfl) ?_
 obtain⟨ok1,ok2,ok3⟩:=ok
 refine aa ?_
 simp only[go_sem]
 repeat first|(with_reducible refine ad ?_ ?_;exact byD)|(with_reducible refine ae ?_ ?_;exact byQ)
 refine ab ?_
 refine aa ?_
 simp only[go_sem]
 intro t7 e7
 intro t11 e11
 intro t12 e12
 rw[az] at e12
 subst e7 e11 e12
 refine ah _ rfl (fun h12=>?_) (fun h12=>?_)
 ·
  (try simp only[go_sem] at h12)
  refine aa ?_
  simp only[go_sem]
  refine af ?_
  simp only[go_sem]
  refine am ?_
  unfold jj
  grind
 ·
  (try simp only[go_sem] at h12)
  refine ag ?_
  (try simp only[go_sem])
  refine ab ?_
  refine aa ?_
  simp only[go_sem]
  refine cw_m (Check_c c.path (by omega)) byW byT ?_
  simp only[go_sem]
  refine aa ?_
  simp only[go_sem]
  intro t17 e17
  subst e17
  refine ah _ rfl (fun h17=>?_) (fun h17=>?_)
  ·
   (try simp only[go_sem] at h17)
   refine aa ?_
   simp only[go_sem]
   refine af ?_
   simp only[go_sem]
   refine am ?_
   unfold jj
   grind
  ·
   (try simp only[go_sem] at h17)
   refine ag ?_
   (try simp only[go_sem])
   refine ab ?_
   refine aa ?_
   simp only[go_sem]
   intro t21 e21
   subst e21
   refine ah _ rfl (fun h21=>?_) (fun h21=>?_)
   ·
    (try simp only[go_sem] at h21)
    refine aa ?_
    simp only[go_sem]
    refine cw_m (Check_c c.to (by omega)) byW byT ?_
    simp only[go_sem]
    refine aa ?_
    simp only[go_sem]
    intro t26 e26
    subst e26
    refine ah _ rfl (fun h26=>?_) (fun h26=>?_)
    ·
     (try simp only[go_sem] at h26)
     refine aa ?_
     simp only[go_sem]
     refine af ?_
     simp only[go_sem]
     refine am ?_
     unfold jj
     grind
    ·
     (try simp only[go_sem] at h26)
     refine ag ?_
     (try simp only[go_sem])
     refine ab (ai ?_)
     refine aa ?_
     simp only[go_sem]
     intro t31 e31
     intro t35 e35
     intro t36 e36
     rw[ar] at e36
     intro t40 e40
     intro t44 e44
     intro t45 e45
     rw[ar] at e45
     intro t46 e46
     rw[az] at e46
     subst e31 e35 e36 e40 e44 e45 e46
     refine ah _ rfl (fun h28=>?_) (fun h28=>?_)
     ·
      (try simp only[go_sem] at h28)
      refine aa ?_
      simp only[go_sem]
      refine af ?_
      simp only[go_sem]
      refine am ?_
      unfold jj
      grind
     ·
      (try simp only[go_sem] at h28)
      refine aa ?_
      simp only[go_sem]
      intro t51 e51
      subst e51
      refine ah _ rfl (fun h47=>?_) (fun h47=>?_)
      ·
       (try simp only[go_sem] at h47)
       refine aa ?_
       simp only[go_sem]
       refine af ?_
       simp only[go_sem]
       refine am ?_
       unfold jj
       grind
      ·
       (try simp only[go_sem] at h47)
       refine aa ?_
       simp only[go_sem]
       intro t55 e55
       intro t59 e59
       intro t60 e60
       rw[az] at e60
       subst e55 e59 e60
       refine ah _ rfl (fun h52=>?_) (fun h52=>?_)
       ·
        (try simp only[go_sem] at h52)
        refine aa ?_
        simp only[go_sem]
        refine af ?_
        simp only[go_sem]
        refine am ?_
        unfold jj
        grind
       ·
        (try simp only[go_sem] at h52)
        refine ag ?_
        (try simp only[go_sem])
        refine aa ?_
        simp only[go_sem]
        refine af ?_
        simp only[go_sem]
        refine am ?_
        unfold jj
        grind
   ·
    (try simp only[go_sem] at h21)
    refine ag ?_
    (try simp only[go_sem])
    refine ab (ai ?_)
    refine aa ?_
    simp only[go_sem]
    intro t31 e31
    intro t35 e35
    intro t36 e36
    rw[ar] at e36
    intro t40 e40
    intro t44 e44
    intro t45 e45
    rw[ar] at e45
    intro t46 e46
    rw[az] at e46
    subst e31 e35 e36 e40 e44 e45 e46
    refine ah _ rfl (fun h28=>?_) (fun h28=>?_)
    ·
     (try simp only[go_sem] at h28)
     refine aa ?_
     simp only[go_sem]
     refine af ?_
     simp only[go_sem]
     refine am ?_
     unfold jj
     grind
    ·
     (try simp only[go_sem] at h28)
     refine aa ?_
     simp only[go_sem]
     intro t51 e51
     subst e51
     refine ah _ rfl (fun h47=>?_) (fun h47=>?_)
     ·
      (try simp only[go_sem] at h47)
      refine aa ?_
      simp only[go_sem]
      refine af ?_
      simp only[go_sem]
      refine am ?_
      unfold jj
      grind
     ·
      (try simp only[go_sem] at h47)
      refine aa ?_
      simp only[go_sem]
      intro t55 e55
      intro t59 e59
      intro t60 e60
      rw[az] at e60
      subst e55 e59 e60
      refine ah _ rfl (fun h52=>?_) (fun h52=>?_)
      ·
       (try simp only[go_sem] at h52)
       refine aa ?_
       simp only[go_sem]
       refine af ?_
       simp only[go_sem]
       refine am ?_
       unfold jj
       grind
      ·
       (try simp only[go_sem] at h52)
       refine ag ?_
       (try simp only[go_sem])
       refine aa ?_
       simp only[go_sem]
       refine af ?_
       simp only[go_sem]
       refine am ?_
       unfold jj
       grind
def zcj (c:Change) (x:Entry):Bool:=decide (c.base<x.version) && isIn x.path c.path
theorem znm (c:Change) (x:Entry) (ok:okC c) (hx:x.path.length≤1048576):Meets Tryz.prog 187 [.agg x.enc,.iptr c.enc 0] (.bool (zcj c x)) []:=by
 refine an (fn:=Tryz.f187) Tryz.func187 rfl fb187 (by kernel_rfl) (Nat.le_of_ble_eq_true rfl) ?_
 refine aa ?_
 simp only[go_sem]
 repeat first|(with_reducible refine ad ?_ ?_;exact byD)|(with_reducible refine ae ?_ ?_;exact byQ)
 refine aa ?_
 simp only[go_sem]
 intro t8 e8
 refine⟨_,fun hp=>cw_m (In_c x.path c.path (by omega) (by have:=ok.1;omega)) byW byT ⟨rfl,rfl⟩, ?_⟩
 simp only[go_sem]
 intro t15 e15
 rw[ar] at e15
 subst e8 e15
 refine af ?_
 simp only[go_sem]
 exact aq (by simp[zcj])
def od (c:Change):Str:=if c.kind=3 then c.to else c.path
def mayP (l:List Entry) (c:Change):Int :=
 if (parE l (od c)).2=false then 5
 else if (parE l (od c)).1.folder=false then 4
 else if c.kind=1∧hasE l c.path=true then 6
 else if c.kind=2∧hasE l c.path=true∧(l.getD (eIx l c.path) default).folder=true then 4
 else if c.kind≠1∧c.kind≠2∧hasE l c.path=false then 5
 else if c.kind=3∧isIn c.to c.path=true then 3
 else if c.kind=3∧hasE l c.to=true then 6
 else if c.base≠-1∧l.any (zcj c)=true then 8 else 0
theorem may_c (l:List Entry) (c:Change) (hs:bo l) (okl:okE l) (ok:okC c):Meets Tryz.prog 174 [esV l,.agg c.enc] (.int .i64 (mayP l c)) []:=by
 refine an (fn:=Tryz.f174) Tryz.func174 rfl fb174 (by kernel_rfl) (Nat.le_of_ble_eq_true rfl) ?_
 have hl:=okl.1
 obtain⟨ok1,ok2,ok3⟩:=id ok
 have hgl:(od c).length≤1048576:=by unfold od;split<;>omega
 have hix:∀ p,hasE l p=true→eIx l p<l.length:=fun p h=>by simp[hasE] at h;exact h.1
 refine aa ?_
 simp only[go_sem]
 repeat first|(with_reducible refine ad ?_ ?_;exact byD)|(with_reducible refine ae ?_ ?_;exact byQ)
 refine aa ?_
 simp only[go_sem]
 refine ab ?_
 refine aa ?_
 simp only[go_sem]
 intro t17 e17
 subst e17
 refine zp (σ:=Unit) (fun u=>True) (fun u=>[⟨5,0,[],.str (od c)⟩]) [0,3,4] (Nat.zero_le _) ?_ (fun u hIM1=>?_)
 ·
  refine ah _ rfl (fun h17=>?_) (fun h17=>?_)
  ·
   (try simp only[go_sem] at h17)
   refine aj ?_
   simp only[go_sem]
   have hk:c.kind=3:=by simpa using h17
   refine gi () trivial ?_
   rw[od,if_pos hk]
   exact byC
  ·
   (try simp only[go_sem] at h17)
   refine ag ?_
   (try simp only[go_sem])
   have hk:¬ c.kind=3:=by simpa using h17
   refine gi () trivial ?_
   rw[od,if_neg hk]
   exact byC
 simp only[go_sem]
 refine ab ?_
 refine aa ?_
 simp only[go_sem]
 repeat first|(with_reducible refine ad ?_ ?_;exact byD)|(with_reducible refine ae ?_ ?_;exact byQ)
 refine cw_m (zid l (od c) hs (by omega) (by omega)) byW byT ?_
 simp only[go_sem]
 refine ai ?_
 refine aa ?_
 simp only[go_sem]
 intro t28 e28
 subst e28
 refine ah _ rfl (fun h26=>?_) (fun h26=>?_)
 ·
  (try simp only[go_sem] at h26)
  refine aa ?_
  simp only[go_sem]
  refine af ?_
  simp only[go_sem]
  refine am ?_
  unfold mayP
  grind
 ·
  (try simp only[go_sem] at h26)
  refine aa ?_
  simp only[go_sem]
  intro t32 e32
  subst e32
  refine ah _ rfl (fun h29=>?_) (fun h29=>?_)
  ·
   (try simp only[go_sem] at h29)
   refine aa ?_
   simp only[go_sem]
   refine af ?_
   simp only[go_sem]
   refine am ?_
   unfold mayP
   grind
  ·
   (try simp only[go_sem] at h29)
   refine ag ?_
   (try simp only[go_sem])
   refine aa ?_
   simp only[go_sem]
   refine cw_m (At_c l c.path hs (by omega)) byW byT ?_
   simp only[go_sem]
   refine ab ?_
   refine aa ?_
   simp only[go_sem]
   refine zp (σ:=Unit) (fun u=>(c.kind=1→hasE l c.path=false)∧(c.kind=2→hasE l c.path=true→(l.getD (eIx l c.path) default).folder=false)∧(c.kind≠1→c.kind≠2→hasE l c.path=true)) (fun u=>[]) [0,3] (Nat.zero_le _) ?_ (fun u hIM2=>?_)
   ·
    refine ai ?_
    refine aa ?_
    simp only[go_sem]
    intro t45 e45
    subst e45
    refine ah _ rfl (fun h44=>?_) (fun h44=>?_)
    ·
     (try simp only[go_sem] at h44)
     refine aa ?_
     simp only[go_sem]
     refine ah _ rfl (fun h46=>?_) (fun h46=>?_)
     ·
      (try simp only[go_sem] at h46)
      refine aa ?_
      simp only[go_sem]
      refine af ?_
      simp only[go_sem]
      refine am ?_
      unfold mayP
      grind
     ·
      (try simp only[go_sem] at h46)
      refine ag ?_
      (try simp only[go_sem])
      refine gi () (by grind) byC
    ·
     (try simp only[go_sem] at h44)
     refine aa ?_
     simp only[go_sem]
     intro t48 e48
     subst e48
     refine ah _ rfl (fun h47=>?_) (fun h47=>?_)
     ·
      (try simp only[go_sem] at h47)
      refine aa ?_
      simp only[go_sem]
      repeat ((with_reducible first|refine ad ?_ ?_|refine ae ?_ ?_);focus (first|exact byD|exact byQ|((refine Sd.of fun hp=>?_;simp only[pc,and_true] at hp;(have hq:=hix c.path hp);omega))))
      repeat first|(with_reducible refine ad ?_ ?_;exact byD)|(with_reducible refine ae ?_ ?_;exact byQ)
      intro t56 e56
      rw[ar] at e56
      subst e56
      refine ah _ rfl (fun h56=>?_) (fun h56=>?_)
      ·
       (try simp only[go_sem] at h56)
       refine aa ?_
       simp only[go_sem]
       refine af ?_
       simp only[go_sem]
       refine am ?_
       unfold mayP
       grind
      ·
       (try simp only[go_sem] at h56)
       refine ag ?_
       (try simp only[go_sem])
       refine gi () (by grind) byC
     ·
      (try simp only[go_sem] at h47)
      refine aa ?_
      simp only[go_sem]
      intro t43 e43
      subst e43
      refine ah _ rfl (fun h43=>?_) (fun h43=>?_)
      ·
       (try simp only[go_sem] at h43)
       refine aa ?_
       simp only[go_sem]
       refine af ?_
       simp only[go_sem]
       refine am ?_
       unfold mayP
       grind
      ·
       (try simp only[go_sem] at h43)
       refine ag ?_
       (try simp only[go_sem])
       refine gi () (by grind) byC
   simp only[go_sem]
   refine ab ?_
   refine aa ?_
   simp only[go_sem]
   repeat first|(with_reducible refine ad ?_ ?_;exact byD)|(with_reducible refine ae ?_ ?_;exact byQ)
   intro t59 e59
   subst e59
   refine ah _ rfl (fun h59=>?_) (fun h59=>?_)
   ·
    (try simp only[go_sem] at h59)
    refine ab ?_
    refine aa ?_
    simp only[go_sem]
    refine cw_m (In_c c.to c.path (by omega) (by omega)) byW byT ?_
    simp only[go_sem]
    refine ah _ rfl (fun h64=>?_) (fun h64=>?_)
    ·
     (try simp only[go_sem] at h64)
     refine aa ?_
     simp only[go_sem]
     refine af ?_
     simp only[go_sem]
     refine am ?_
     unfold mayP
     grind
    ·
     (try simp only[go_sem] at h64)
     refine ag ?_
     (try simp only[go_sem])
     refine aa ?_
     simp only[go_sem]
     refine cw_m (At_c l c.to hs (by omega)) byW byT ?_
     simp only[go_sem]
     refine aa ?_
     simp only[go_sem]
     refine ah _ rfl (fun h72=>?_) (fun h72=>?_)
     ·
      (try simp only[go_sem] at h72)
      refine aa ?_
      simp only[go_sem]
      refine af ?_
      simp only[go_sem]
      refine am ?_
      unfold mayP
      grind
     ·
      (try simp only[go_sem] at h72)
      refine ag ?_
      (try simp only[go_sem])
      refine aa ?_
      simp only[go_sem]
      refine ab ?_
      refine aa ?_
      simp only[go_sem]
      intro t76 e76
      refine⟨_,fun hp=>cw_v 2 (lj 187 [.iptr c.enc 0] rfl (zcj c) l (fun x hx=>znm c x ok (okl.2 x hx).1) (by omega)) byV byC rfl ⟨rfl,rfl⟩, ?_⟩
      simp only[go_sem]
      intro t81 e81
      rw[ar] at e81
      subst e76 e81
      refine ah _ rfl (fun h81=>?_) (fun h81=>?_)
      ·
       (try simp only[go_sem] at h81)
       refine aa ?_
       simp only[go_sem]
       refine af ?_
       simp only[go_sem]
       refine am ?_
       unfold mayP
       grind
      ·
       (try simp only[go_sem] at h81)
       refine ag ?_
       (try simp only[go_sem])
       refine aa ?_
       simp only[go_sem]
       refine af ?_
       simp only[go_sem]
       refine am ?_
       unfold mayP
       grind
   ·
    (try simp only[go_sem] at h59)
    refine ag ?_
    (try simp only[go_sem])
    refine aa ?_
    simp only[go_sem]
    refine ab ?_
    refine aa ?_
    simp only[go_sem]
    intro t76 e76
    refine⟨_,fun hp=>cw_v 2 (lj 187 [.iptr c.enc 0] rfl (zcj c) l (fun x hx=>znm c x ok (okl.2 x hx).1) (by omega)) byV byC rfl ⟨rfl,rfl⟩, ?_⟩
    simp only[go_sem]
    intro t81 e81
    rw[ar] at e81
    subst e76 e81
    refine ah _ rfl (fun h81=>?_) (fun h81=>?_)
    ·
     (try simp only[go_sem] at h81)
     refine aa ?_
     simp only[go_sem]
     refine af ?_
     simp only[go_sem]
     refine am ?_
     unfold mayP
     grind
    ·
     (try simp only[go_sem] at h81)
     refine ag ?_
     (try simp only[go_sem])
     refine aa ?_
     simp only[go_sem]
     refine af ?_
     simp only[go_sem]
     refine am ?_
     unfold mayP
     grind
end Go.VM.Tryz
end
section
open Go Go.VM Go.Proofs Tether
namespace Go.VM.Tryz
theorem zgh (p:Str) (hp:p.length<4611686018427387904) (x:Entry) (hx:x.path.length<4611686018427387904):Meets Tryz.prog 201 [.agg x.enc,.iptr [.str p] 0] (.bool (isIn x.path p)) []:=by
 refine an (fn:=Tryz.f201) Tryz.func201 rfl fb201 (by kernel_rfl) (Nat.le_of_ble_eq_true rfl) ?_
 refine aa ?_
 simp only[go_sem]
 repeat first|(with_reducible refine ad ?_ ?_;exact byD)|(with_reducible refine ae ?_ ?_;exact byQ)
 refine aa ?_
 simp only[go_sem]
 refine cw_m (In_c x.path p hx hp) byW byT ?_
 simp only[go_sem]
 refine af ?_
 simp only[go_sem]
 exact aq rfl
def outB (p:Str) (x:Entry):Bool:=!isIn x.path p
theorem stF_En {x:Entry} {l:List Entry} {k i:Nat} {vs:List V} (hk:k<l.length) (hx:spl (Entry.enc (l.getD k default)) 0 vs=Entry.enc x):stF (En Entry.enc default l) k 0 vs i=En Entry.enc default (l.set k x) i:=by
 unfold stF
 cases hb:Nat.beq i k with
 | true =>
   have e:i=k:=Nat.eq_of_beq_eq_true hb
   subst e
   simp only[cond,En]
   rw[hx]
   simp[List.getD,hk]
 | false =>
   have hne:i≠k:=Nat.ne_of_beq_eq_false hb
   simp only[cond,En]
   simp[List.getD,List.getElem?_set,Ne.symm hne]
theorem z3h (l:List Entry) (x:Entry) (hs:bo l) (hl:(l.length+1)*48≤140737488355328) :
  Does Tryz.prog 189 [.own none 0 4 0 l.length .loose,.agg x.enc] [.arr 4 l.length (En Entry.enc default l)]
   (.own none 1 4 0 (putE l x).length .loose) [.dead,.arr 4 (putE l x).length (En Entry.enc default (putE l x))]:=by
 refine eb (fn:=Tryz.f189) Tryz.func189 rfl fb189 (by kernel_rfl) (Nat.le_of_ble_eq_true rfl) ?_
 have hle:=zdp l x.path
 refine aa ?_
 simp only[go_sem]
 repeat first|(with_reducible refine ad ?_ ?_;exact byD)|(with_reducible refine ae ?_ ?_;exact byQ)
 refine aa ?_
 simp only[go_sem]
 refine cw_v 2 (At_c l x.path hs (by omega)) byV byC rfl ?_
 simp only[go_sem]
 refine ab ?_
 refine aa ?_
 simp only[go_sem]
 refine ah _ rfl (fun h14=>?_) (fun h14=>?_)
 ·
  (try simp only[go_sem] at h14)
  have hh:hasE l x.path=true:=by simpa using h14
  have hix:eIx l x.path<l.length:=by simp[hasE] at hh;exact hh.1
  have hpu:putE l x=l.set (eIx l x.path) x:=by rw[putE,if_pos hh]
  refine aa ?_
  simp only[go_sem]
  repeat first|(with_reducible refine ad ?_ ?_;exact byD)|(with_reducible refine ae ?_ ?_;exact byQ)
  refine ix 0 rfl ?_
  simp only[go_sem]
  refine aa ?_
  simp only[go_sem]
  refine af ?_
  simp only[go_sem]
  rw[hpu,List.length_set]
  refine⟨[0,2],rfl,rfl, ?_, ?_⟩
  ·exact byC
  ·simp only[go_sem,wk,wks,wkB,wkH]
   exact fun i hi=>dh (fun _=>rfl) (stF_En hix rfl)
 ·
  (try simp only[go_sem] at h14)
  have hh:¬ hasE l x.path=true:=by simpa using h14
  have hpu:putE l x=l.take (eIx l x.path)++x::l.drop (eIx l x.path):=by rw[putE,if_neg hh]
  have hpl:(putE l x).length=l.length+1:=by rw[vv,if_neg hh]
  refine ag ?_
  (try simp only[go_sem])
  refine aa ?_
  simp only[go_sem]
  refine ce (zed l (eIx l x.path) x hle hl) [0,2] rfl byC byC ?_
  simp only[go_sem]
  refine af ?_
  simp only[go_sem]
  rw[hpl,hpu]
  exact⟨[0,3],rfl,rfl,byC,byC⟩
theorem zcg (l:List Entry) (p:Str) (hp:p.length<4611686018427387904) (hl:l.length<4611686018427387904) (hx:∀ x∈l,x.path.length<4611686018427387904) :
  Does Tryz.prog 190 [.own none 0 4 0 l.length .loose,.str p] [.arr 4 l.length (En Entry.enc default l)]
   (.own none 0 4 0 (l.filter (outB p)).length .loose) [.arr 4 (l.filter (outB p)).length (En Entry.enc default (l.filter (outB p)))]:=by
 refine eb (fn:=Tryz.f190) Tryz.func190 rfl fb190 (by kernel_rfl) (Nat.le_of_ble_eq_true rfl) ?_
 refine aa ?_
 simp only[go_sem]
 repeat first|(with_reducible refine ad ?_ ?_;exact byD)|(with_reducible refine ae ?_ ?_;exact byQ)
 refine aa ?_
 simp only[go_sem]
 refine ce (ue 201 [.str p] rfl (fun x=>isIn x.path p) l (fun x h=>zgh p hp x (hx x h)) hl) [0,1] rfl byC byC ?_
 simp only[go_sem]
 refine af ?_
 simp only[go_sem]
 exact⟨[0],rfl,rfl,byC,byC⟩
end Go.VM.Tryz
end
section
open Go Go.VM Go.Proofs Tether
namespace Go.VM.Tryz
def inB (p:Str) (x:Entry):Bool:=isIn x.path p
def mvE (c:Change) (v:Int) (x:Entry):Entry:=⟨c.to++x.path.drop c.path.length,x.folder,x.text,if x.path=c.path then v else x.version⟩
def ei (l:List Entry) (c:Change) (v:Int):List Entry:=(l.filter (inB c.path)).map (mvE c v)
def vm (l:List Entry) (c:Change) (v:Int):List Entry:=(ei l c v).foldl putE (l.filter (outB c.path))
def lk (l:List Entry) (c:Change) (v:Int):Bool:=(ei l c v).any fun x=>gw x.path
def ff (l:List Entry) (c:Change) (v:Int):List Entry :=
 if c.kind=1 then putE l ⟨c.path,true,[],v⟩ else if c.kind=2 then putE l ⟨c.path,false,c.text,v⟩ else if c.kind=4 then l.filter (outB c.path) else if c.kind=3 then vm l c v else l
def ir (l:List Entry) (c:Change) (v:Int):Int:=if c.kind=3∧lk l c v=true then 2 else if 60<((ff l c v).length:Int) then 2 else 0
def vf (l:List Entry) (c:Change) (v:Int):List Entry:=if ir l c v=0 then ff l c v else []
def okP (l:List Entry):Prop:=l.length≤120∧∀ x∈l,bn [x.path]=0
theorem il {p:Str} (h:bn [p]=0):p.length≤80:=by
 have:=((im p).1 h).2
 rw[ua] at this
 exact this.2
theorem zcp {l:List Entry} {c:Change} {v:Int} {i:Nat} (h:i<l.length):ei (l.take (i+1)) c v=if inB c.path (l.getD i default)=true then ei (l.take i) c v++[mvE c v (l.getD i default)] else ei (l.take i) c v:=by
 have hd:l.getD i default=l[i]:=by simp[List.getD,h]
 rw[hd,List.take_add_one,List.getElem?_eq_getElem h]
 unfold ei
 rw[List.filter_append]
 by_cases hb:inB c.path l[i]=true
 ·rw[if_pos hb];simp[hb]
 ·rw[if_neg hb];simp[hb]
theorem zhs (l:List Entry) (c:Change) (v:Int):(ei l c v).length≤l.length:=by
 unfold ei
 rw[List.length_map]
 exact List.length_filter_le _ _
theorem qy:∀ (g l:List Entry),(g.foldl putE l).length≤l.length+g.length
 | [],l=>by simp
 | x::g,l=>by
   have:=qy g (putE l x)
   have h2:=vv l x
   simp only[List.foldl_cons,List.length_cons]
   split at h2<;>omega
theorem gh:∀ (g:List Entry) {l:List Entry},bo l→bo (g.foldl putE l)
 | [],_,h=>h
 | x::g,_,h=>gh g (fq h x)
theorem zwg {p f t:Str} (hp:bn [p]=0) (hf:bn [f]=0) (ht:bn [t]=0) (h:isIn p f=true):qa p f t=if gw (t++p.drop f.length)=true then ([],2) else (t++p.drop f.length,0):=by
 have hc:bn [p,f,t]=0:=(zzj p f t).2 ⟨hp,hf,ht⟩
 rw[qa,if_neg (by simp[hc]),if_neg (by simp[h])]
theorem zta {l:List Entry} {c:Change} {v:Int} {i:Nat} (hi:i<l.length) (h:inB c.path (l.getD i default)=true) (hg:gw (c.to++(l.getD i default).path.drop c.path.length)=true):lk l c v=true:=by
 rw[lk,List.any_eq_true]
 exact⟨mvE c v (l.getD i default),List.mem_map_of_mem (List.mem_filter.2 ⟨bj hi,h⟩),hg⟩
theorem zxw (l:List Entry) (c:Change) (v:Int) (hs:bo l) (okl:okP l) (hp:bn [c.path]=0) (ht:c.kind=3→bn [c.to]=0) :
  Does Tryz.prog 175 [.own none 0 4 0 l.length .loose,.agg c.enc,.int .i64 v] [.arr 4 l.length (En Entry.enc default l)]
   (.tup [.own none 1 4 0 (vf l c v).length .loose,.int .i64 (ir l c v)]) [.dead,.arr 4 (vf l c v).length (En Entry.enc default (vf l c v))]:=by
 refine eb (fn:=Tryz.f175) Tryz.func175 rfl fb175 (by kernel_rfl) (Nat.le_of_ble_eq_true rfl) ?_
 have hl:=okl.1
 have hcp:=il hp
 refine aa ?_
 simp only[go_sem]
 repeat first|(with_reducible refine ad ?_ ?_;exact byD)|(with_reducible refine ae ?_ ?_;exact byQ)
 refine ab ?_
 refine aa ?_
 simp only[go_sem]
 refine zba (σ:=Unit) (fun u=>c.kind=3→lk l c v=false) (fun u=>[⟨0,0,[],.own none 2 4 0 (ff l c v).length .loose⟩]) [] (fun u=>[.dead,.box c.enc,.arr 4 (ff l c v).length (En Entry.enc default (ff l c v))]) (fun _=>(Nat.le_of_ble_eq_true rfl)) ?_ (fun u hIM1=>?_)
 ·
  refine ai ?_
  refine aa ?_
  simp only[go_sem]
  intro t18 e18
  subst e18
  refine ah _ rfl (fun h17=>?_) (fun h17=>?_)
  ·
   (try simp only[go_sem] at h17)
   refine aj ?_
   simp only[go_sem]
   refine ce (z3h l ⟨c.path,true,[],v⟩ hs (by omega)) [0] rfl byC byC ?_
   simp only[go_sem]
   have hk:c.kind=1:=by simpa using h17
   have hm:ff l c v=putE l ⟨c.path,true,[],v⟩:=by rw[ff,if_pos hk]
   refine gi () (by omega) ?_
   rw[hm]
   exact byC
  ·
   (try simp only[go_sem] at h17)
   refine aa ?_
   simp only[go_sem]
   intro t26 e26
   subst e26
   refine ah _ rfl (fun h25=>?_) (fun h25=>?_)
   ·
    (try simp only[go_sem] at h25)
    refine aj ?_
    simp only[go_sem]
    refine ce (z3h l ⟨c.path,false,c.text,v⟩ hs (by omega)) [0] rfl byC byC ?_
    simp only[go_sem]
    have hk:c.kind=2:=by simpa using h25
    have hm:ff l c v=putE l ⟨c.path,false,c.text,v⟩:=by rw[ff,if_neg (by omega),if_pos hk]
    refine gi () (by omega) ?_
    rw[hm]
    exact byC
   ·
    (try simp only[go_sem] at h25)
    refine aa ?_
    simp only[go_sem]
    intro t36 e36
    subst e36
    refine ah _ rfl (fun h35=>?_) (fun h35=>?_)
    ·
     (try simp only[go_sem] at h35)
     refine ix 0 rfl ?_
     simp only[go_sem]
     refine aj ?_
     simp only[go_sem]
     refine ce (zcg l c.path (by omega) (by omega) (fun x hx=>by have:=il (okl.2 x hx);omega)) [2] rfl byC byC ?_
     simp only[go_sem]
     have hk:c.kind=4:=by simpa using h35
     have hm:ff l c v=l.filter (outB c.path):=by rw[ff,if_neg (by omega),if_neg (by omega),if_pos hk]
     refine gi () (by omega) ?_
     rw[hm]
     exact byC
    ·
     (try simp only[go_sem] at h35)
     refine aa ?_
     simp only[go_sem]
     intro t42 e42
     subst e42
     refine ah _ rfl (fun h41=>?_) (fun h41=>?_)
     ·
      (try simp only[go_sem] at h41)
      refine aa ?_
      simp only[go_sem]
      refine fp 8 4 (En Entry.enc default []) rfl ?_
      refine ab ?_
      refine aa ?_
      simp only[go_sem]
      refine ai ?_
      refine gz (σ:=Nat) (fun i=>i≤l.length∧lk (l.take i) c v=false) (fun i=>[⟨45,0,[],.int .i64 (i:Nat)⟩,⟨8,0,[],.own none 2 4 0 (ei (l.take i) c v).length .loose⟩]) [0,2,4,43,44] (fun i=>[.arr 4 l.length (En Entry.enc default l),.box c.enc,.arr 4 (ei (l.take i) c v).length (En Entry.enc default (ei (l.take i) c v))]) (fun i=>l.length-i) 0 ⟨Nat.zero_le _,by simp[lk,ei]⟩ (fun _=>(Nat.le_of_ble_eq_true rfl)) byC (fun i hI1=>?_)
      simp only[go_sem]
      have hgl:=zhs (l.take i) c v
      have hgl2:(l.take i).length=i:=by simp;omega
      refine aa ?_
      simp only[go_sem]
      repeat first|(with_reducible refine ad ?_ ?_;exact byD)|(with_reducible refine ae ?_ ?_;exact byQ)
      intro t46 e46
      subst e46
      refine ab ?_
      refine ah _ rfl (fun h46=>?_) (fun h46=>?_)
      ·
       (try simp only[go_sem] at h46)
       have hxp:=okl.2 (l.getD i default) (bj (by omega))
       have hxl:=il hxp
       have htl:=il (ht h41)
       refine ag ?_
       (try simp only[go_sem])
       refine ab (ai ?_)
       refine aa ?_
       simp only[go_sem]
       repeat first|(with_reducible refine ad ?_ ?_;exact byD)|(with_reducible refine ae ?_ ?_;exact byQ)
       refine ab ?_
       refine aa ?_
       simp only[go_sem]
       refine cw_m (In_c (l.getD i default).path c.path (by omega) (by omega)) byW byT ?_
       simp only[go_sem]
       intro t54 e54
       subst e54
       refine ah _ rfl (fun h54=>?_) (fun h54=>?_)
       ·
        (try simp only[go_sem] at h54)
        refine bk ?_
        simp only[go_sem]
        refine aj ?_
        simp only[go_sem]
        intro t81 e81
        (try replace e81:=w64 e81 (by omega) (by omega))
        have hn:¬ inB c.path (l.getD i default)=true:=by simpa [inB] using h54
        have hg:ei (l.take (i+1)) c v=ei (l.take i) c v:=by rw[zcp (by omega),if_neg hn]
        refine ay (i+1) ⟨by omega,by rw[lk,hg];exact hI1.2⟩ (by first|omega|(dsimp only;omega)) ?_
        rw[hg]
        exact byC
       ·
        (try simp only[go_sem] at h54)
        have hin:isIn (l.getD i default).path c.path=true:=by simpa using h54
        have hb:inB c.path (l.getD i default)=true:=hin
        have hmv:=zwg hxp hp (ht h41) hin
        refine ag ?_
        (try simp only[go_sem])
        refine ab ?_
        refine aa ?_
        simp only[go_sem]
        intro t59 e59
        subst e59
        refine zba (σ:=Unit) (fun u2=>True) (fun u2=>[]) [0,2,4,8,10,43,44,45] (fun u2=>[.arr 4 l.length (En Entry.enc default l),.box c.enc,.arr 4 (ei (l.take i) c v).length (En Entry.enc default (ei (l.take i) c v)),.box [.str (l.getD i default).path,.bool (l.getD i default).folder,.str (l.getD i default).text,.int .i64 (if (l.getD i default).path=c.path then v else (l.getD i default).version)]]) (fun _=>(Nat.le_of_ble_eq_true rfl)) ?_ (fun u2 hIM2=>?_)
        ·
         refine ah _ rfl (fun h59=>?_) (fun h59=>?_)
         ·
          (try simp only[go_sem] at h59)
          refine aj ?_
          simp only[go_sem]
          have hk:(l.getD i default).path=c.path:=by simpa using h59
          refine gi () trivial ?_
          rw[if_pos hk]
          exact byC
         ·
          (try simp only[go_sem] at h59)
          refine ag ?_
          (try simp only[go_sem])
          have hk:¬ (l.getD i default).path=c.path:=by simpa using h59
          refine gi () trivial ?_
          rw[if_neg hk]
          exact byC
        simp only[go_sem]
        refine aa ?_
        simp only[go_sem]
        repeat first|(with_reducible refine ad ?_ ?_;exact byD)|(with_reducible refine ae ?_ ?_;exact byQ)
        refine cw_m (z2s (l.getD i default).path c.path c.to (by omega) (by omega)) byW byT ?_
        simp only[go_sem]
        refine ab ?_
        refine aa ?_
        simp only[go_sem]
        intro t73 e73
        subst e73
        refine ah _ rfl (fun h73=>?_) (fun h73=>?_)
        ·
         (try simp only[go_sem] at h73)
         have hgr:gw (c.to++(l.getD i default).path.drop c.path.length)=true:=by
          rw[hmv] at h73
          by_cases hq:gw (c.to++(l.getD i default).path.drop c.path.length)=true
          ·exact hq
          ·rw[if_neg hq] at h73
           simp at h73
         have he:(qa (l.getD i default).path c.path c.to).2=2:=by rw[hmv,if_pos hgr]
         have hd:ir l c v=2:=by rw[ir,if_pos ⟨h41,zta (by omega) hb hgr⟩]
         have hd0:vf l c v=[]:=by rw[vf,hd];rfl
         refine aa ?_
         simp only[go_sem]
         refine fp 6 4 (En Entry.enc default []) rfl ?_
         simp only[go_sem]
         refine af ?_
         simp only[go_sem]
         rw[hd,hd0,he]
         exact⟨[0,4],rfl,rfl,byC,byC⟩
        ·
         (try simp only[go_sem] at h73)
         have hgr:¬ gw (c.to++(l.getD i default).path.drop c.path.length)=true:=by
          intro hq
          rw[hmv,if_pos hq] at h73
          simp at h73
         have hq1:(qa (l.getD i default).path c.path c.to).1=c.to++(l.getD i default).path.drop c.path.length:=by rw[hmv,if_neg hgr]
         have hg:ei (l.take (i+1)) c v=ei (l.take i) c v++[mvE c v (l.getD i default)]:=by rw[zcp (by omega),if_pos hb]
         have hgg:lk (l.take (i+1)) c v=false:=by
          rw[lk,hg,List.any_append]
          have:=hI1.2
          rw[lk] at this
          rw[this]
          simpa [mvE] using hgr
         rw[hq1]
         refine ag ?_
         (try simp only[go_sem])
         refine aa ?_
         simp only[go_sem]
         refine aj ?_
         simp only[go_sem]
         repeat first|(with_reducible refine ad ?_ ?_;exact byD)|(with_reducible refine ae ?_ ?_;exact byQ)
         refine aj ?_
         simp only[go_sem]
         intro t81 e81
         (try replace e81:=w64 e81 (by omega) (by omega))
         refine ke (i+1) [0,1,5] ⟨by omega,hgg⟩ (by first|omega|(dsimp only;omega)) ⟨rfl,rfl, ?_, ?_⟩
         ·(try rw[hg]);exact byC
         ·rw[hg];skip
          simp only[go_sem,wk,wks,wkB,wkH,List.length_append,List.length_cons,List.length_nil]
          first|exact fun q hq=>dx (fun x=>ej _ rfl) (by rfl) hq|(and_intros<;>first|trivial|rfl|omega|(exact fun q hq=>dx (fun x=>ej _ rfl) (by rfl) hq)|exact ak _|exact byC)
      ·
       (try simp only[go_sem] at h46)
       have hi:l.take i=l:=by rw[List.take_of_length_le (by omega)]
       rw[hi]
       refine bk ?_
       simp only[go_sem]
       refine aa ?_
       simp only[go_sem]
       refine ce (zcg l c.path (by omega) (by omega) (fun x hx=>by have:=il (okl.2 x hx);omega)) [0] rfl byC byC ?_
       simp only[go_sem]
       refine ix 0 rfl ?_
       refine aa ?_
       simp only[go_sem]
       refine ai ?_
       refine gz (σ:=Nat) (fun j=>j≤(ei l c v).length) (fun j=>[⟨88,0,[],.int .i64 (j:Nat)⟩,⟨0,0,[],.own none 3 4 0 (((ei l c v).take j).foldl putE (l.filter (outB c.path))).length .loose⟩]) [86,87] (fun j=>[.dead,.box c.enc,.arr 4 (ei l c v).length (En Entry.enc default (ei l c v)),.arr 4 (((ei l c v).take j).foldl putE (l.filter (outB c.path))).length (En Entry.enc default (((ei l c v).take j).foldl putE (l.filter (outB c.path))))]) (fun j=>(ei l c v).length-j) 0 (Nat.zero_le _) (fun _=>(Nat.le_of_ble_eq_true rfl)) byC (fun j hI2=>?_)
       simp only[go_sem]
       have hfs:=gh ((ei l c v).take j) (ef hs (outB c.path))
       have hfl:=qy ((ei l c v).take j) (l.filter (outB c.path))
       have hfl2:=List.length_filter_le (outB c.path) l
       have hgl3:=zhs l c v
       have hgl4:((ei l c v).take j).length≤j:=by simp;omega
       refine aa ?_
       simp only[go_sem]
       repeat first|(with_reducible refine ad ?_ ?_;exact byD)|(with_reducible refine ae ?_ ?_;exact byQ)
       intro t89 e89
       subst e89
       refine ab ?_
       refine ah _ rfl (fun h89=>?_) (fun h89=>?_)
       ·
        (try simp only[go_sem] at h89)
        refine ag ?_
        (try simp only[go_sem])
        refine ab (ai ?_)
        refine aa ?_
        simp only[go_sem]
        repeat first|(with_reducible refine ad ?_ ?_;exact byD)|(with_reducible refine ae ?_ ?_;exact byQ)
        refine aj ?_
        simp only[go_sem]
        refine ce (z3h (((ei l c v).take j).foldl putE (l.filter (outB c.path))) ((ei l c v).getD j default) hfs (by omega)) [3] rfl byC byC ?_
        simp only[go_sem]
        refine aj ?_
        simp only[go_sem]
        intro t95 e95
        (try replace e95:=w64 e95 (by omega) (by omega))
        have hsn:((ei l c v).take (j+1)).foldl putE (l.filter (outB c.path))=putE (((ei l c v).take j).foldl putE (l.filter (outB c.path))) ((ei l c v).getD j default):=mc putE _ _ _ (by omega)
        refine ke (j+1) [0,1,2,5] (by omega) (by first|omega|(dsimp only;omega)) ⟨rfl,rfl, ?_, ?_⟩
        ·rw[hsn];exact byC
        ·rw[hsn];exact byC
       ·
        (try simp only[go_sem] at h89)
        refine bk ?_
        simp only[go_sem]
        have hm:ff l c v=((ei l c v).take j).foldl putE (l.filter (outB c.path)):=by
         rw[ff,if_neg (by omega),if_neg (by omega),if_neg (by omega),if_pos h41,vm,List.take_of_length_le (by omega)]
        refine ztr () [0,1,3] (fun _=>by have:=hI1.2;rwa [hi] at this) ⟨rfl,rfl, ?_, ?_⟩
        ·rw[hm];exact byC
        ·rw[hm];exact byC
     ·
      (try simp only[go_sem] at h41)
      refine ix 0 rfl ?_
      simp only[go_sem]
      refine ag ?_
      (try simp only[go_sem])
      have hm:ff l c v=l:=by rw[ff,if_neg (by omega),if_neg (by omega),if_neg (by omega),if_neg (by omega)]
      refine gi () (by omega) ?_
      rw[hm]
      exact byC
 simp only[go_sem]
 refine ab ?_
 refine aa ?_
 simp only[go_sem]
 repeat first|(with_reducible refine ad ?_ ?_;exact byD)|(with_reducible refine ae ?_ ?_;exact byQ)
 intro t98 e98
 subst e98
 refine ah _ rfl (fun h98=>?_) (fun h98=>?_)
 ·
  (try simp only[go_sem] at h98)
  refine aa ?_
  simp only[go_sem]
  refine fp 6 4 (En Entry.enc default []) rfl ?_
  simp only[go_sem]
  refine af ?_
  simp only[go_sem]
  have hd:ir l c v=2:=by rw[ir];split<;>first|rfl|(rw[if_pos (by omega)])
  have hd0:vf l c v=[]:=by rw[vf,hd];rfl
  rw[hd,hd0]
  exact⟨[0,3],rfl,rfl,byC,byC⟩
 ·
  (try simp only[go_sem] at h98)
  refine ag ?_
  (try simp only[go_sem])
  refine aa ?_
  simp only[go_sem]
  refine af ?_
  simp only[go_sem]
  have hd:ir l c v=0:=by rw[ir,if_neg (by rintro⟨h1,h2⟩;rw[hIM1 h1] at h2;cases h2),if_neg (by omega)]
  have hd0:vf l c v=ff l c v:=by rw[vf,if_pos hd]
  rw[hd,hd0]
  exact⟨[0,2],rfl,rfl,byC,byC⟩
end Go.VM.Tryz
end
section
open Go Go.VM Go.Proofs Tether
namespace Go.VM.Tryz
def ik (l:List Entry) (c:Change) (v:Int):Int:=if jj c≠0 then jj c else if mayP l c≠0 then mayP l c else ir l c v
def rawP (l:List Entry) (c:Change) (v:Int):List Entry:=if ik l c v=0 then ff l c v else []
theorem sk {c:Change} (h:jj c=0):bn [c.path]=0∧(c.kind=3→bn [c.to]=0):=by
 unfold jj at h
 grind
structure GoodT (l:List Entry):Prop where
 sorted:bo l
 ok:okE l
 paths:okP l
theorem Raw_c (l:List Entry) (c:Change) (v:Int) (g:GoodT l) (ok:okC c):Meets Tryz.prog 149 [esV l,.agg c.enc,.int .i64 v]
  (.tup [.own none 0 4 0 (rawP l c v).length .loose,.int .i64 (ik l c v)]) [.arr 4 (rawP l c v).length (En Entry.enc default (rawP l c v))]:=by
 refine an (fn:=Tryz.f149) Tryz.func149 rfl fb149 (by kernel_rfl) (Nat.le_of_ble_eq_true rfl) ?_
 have hl:=g.ok.1
 refine aa ?_
 simp only[go_sem]
 repeat first|(with_reducible refine ad ?_ ?_;exact byD)|(with_reducible refine ae ?_ ?_;exact byQ)
 refine aa ?_
 simp only[go_sem]
 refine cw_m (form_c c ok) byW byT ?_
 simp only[go_sem]
 refine ab ?_
 refine aa ?_
 simp only[go_sem]
 intro t12 e12
 subst e12
 refine ah _ rfl (fun h12=>?_) (fun h12=>?_)
 ·
  (try simp only[go_sem] at h12)
  refine aj ?_
  simp only[go_sem]
  refine cw_m (may_c l c g.sorted g.ok ok) byW byT ?_
  simp only[go_sem]
  refine ab ?_
  refine aa ?_
  simp only[go_sem]
  intro t17 e17
  subst e17
  refine ah _ rfl (fun h17=>?_) (fun h17=>?_)
  ·
   (try simp only[go_sem] at h17)
   refine aa ?_
   simp only[go_sem]
   refine fp 6 4 (En Entry.enc default []) rfl ?_
   simp only[go_sem]
   refine af ?_
   simp only[go_sem]
   have h1:jj c=0:=by simpa using h12
   have h2:¬ mayP l c=0:=by simpa using h17
   have he:ik l c v=mayP l c:=by rw[ik,if_neg (by simpa using h1),if_pos h2]
   have hp:rawP l c v=[]:=by rw[rawP,he,if_neg h2]
   rw[he,hp]
   exact ap 1 [1] rfl byC byC byC byC
  ·
   (try simp only[go_sem] at h17)
   have hF:jj c=0:=by first|(simpa using h12)|(simpa using h17)
   refine ag ?_
   (try simp only[go_sem])
   refine ab (bc cj [4] (.first 0 (.first 2 (.first 3 (.one 1 (.one 4 (.first 5 (.first 6 (.first 7 (.first 8 (.done)))))))))) (by kernel_rfl) ?_)
   simp only[go_sem]
   refine ek (kr l (by omega)) byW byT ?_
   simp only[go_sem]
   refine ce (zxw l c v g.sorted g.paths (sk hF).1 (sk hF).2) [1] rfl byC byC ?_
   simp only[go_sem]
   refine af ?_
   simp only[go_sem]
   have h2:mayP l c=0:=by simpa using h17
   have he:ik l c v=ir l c v:=by rw[ik,if_neg (by simpa using hF),if_neg (by simpa using h2)]
   have hp:rawP l c v=vf l c v:=by rw[rawP,he,vf]
   rw[he,hp]
   exact ap 1 [2] rfl byC byC byC byC
 ·
  (try simp only[go_sem] at h12)
  refine ag ?_
  (try simp only[go_sem])
  refine ab ?_
  refine aa ?_
  simp only[go_sem]
  intro t17 e17
  subst e17
  refine ah _ rfl (fun h17=>?_) (fun h17=>?_)
  ·
   (try simp only[go_sem] at h17)
   refine aa ?_
   simp only[go_sem]
   refine fp 6 4 (En Entry.enc default []) rfl ?_
   simp only[go_sem]
   refine af ?_
   simp only[go_sem]
   have h1:¬ jj c=0:=by simpa using h12
   have he:ik l c v=jj c:=by rw[ik,if_pos h1]
   have hp:rawP l c v=[]:=by rw[rawP,he,if_neg h1]
   rw[he,hp]
   exact ap 1 [1] rfl byC byC byC byC
  ·
   (try simp only[go_sem] at h17)
   have hF:jj c=0:=by first|(simpa using h12)|(simpa using h17)
   refine ag ?_
   (try simp only[go_sem])
   refine ab (bc cj [4] (.first 0 (.first 2 (.first 3 (.one 1 (.one 4 (.first 5 (.first 6 (.first 7 (.first 8 (.done)))))))))) (by kernel_rfl) ?_)
   simp only[go_sem]
   refine ek (kr l (by omega)) byW byT ?_
   simp only[go_sem]
   refine ce (zxw l c v g.sorted g.paths (sk hF).1 (sk hF).2) [1] rfl byC byC ?_
   simp only[go_sem]
   refine af ?_
   simp only[go_sem]
   exact absurd hF (by simpa using h12)
theorem firstErr_0 {α:Type} {f:α→Int} {l:List α}:bh f l=0↔∀ x∈l,f x=0:=by
 induction l with
 | nil=>simp[bh]
 | cons x l ih =>
   unfold bh
   by_cases h:f x=0
   ·simp[h,ih]
   ·simp[h]
theorem xt {x:Entry} (h:ge x=0):bn [x.path]=0:=by
 unfold ge at h
 grind
theorem qf {l:List Entry} (ok:okE l) (h:dd l=0):GoodT l where
 sorted:=by
  unfold dd at h
  have:ll l=true:=by grind
  exact sortedB_iff.1 this
 ok:=ok
 paths:=by
  unfold dd at h
  have h1:(l.length:Int)≤60:=by grind
  have h2:bh ge l=0:=by grind
  exact⟨by omega,fun x hx=>xt (firstErr_0.1 h2 x hx)⟩
theorem zii {l:List Entry} {c:Change} {v:Int} (hs:bo l) {x:Entry} (hx:x∈ff l c v) :
  x∈l∨x=⟨c.path,true,[],v⟩∨x=⟨c.path,false,c.text,v⟩∨(c.kind=3∧x∈ei l c v):=by
 unfold ff at hx
 split at hx
 ·rcases (je hs).1 hx with h | ⟨h,_⟩
  ·exact .inr (.inl h)
  ·exact .inl h
 ·split at hx
  ·rcases (je hs).1 hx with h | ⟨h,_⟩
   ·exact .inr (.inr (.inl h))
   ·exact .inl h
  ·split at hx
   ·exact .inl (List.mem_filter.1 hx).1
   ·split at hx
    ·rename_i hk
     have key:∀ (g:List Entry) (t:List Entry),bo t→x∈g.foldl putE t→x∈t∨x∈g:=by
      intro g
      induction g with
      | nil=>intro t _ h;exact .inl h
      | cons y g ih =>
        intro t ht h
        rcases ih (putE t y) (fq ht y) h with h|h
        ·rcases (je ht).1 h with h | ⟨h,_⟩
         ·exact .inr (by simp[h])
         ·exact .inl h
        ·exact .inr (by simp[h])
     rcases key _ _ (ef hs _) hx with h|h
     ·exact .inl (List.mem_filter.1 h).1
     ·exact .inr (.inr (.inr ⟨hk,h⟩))
    ·exact .inl hx
theorem zeq {l:List Entry} {c:Change} {v:Int} (hs:bo l):bo (ff l c v):=by
 unfold ff vm
 split
 ·exact fq hs _
 ·split
  ·exact fq hs _
  ·split
   ·exact ef hs _
   ·split
    ·exact gh _ (ef hs _)
    ·exact hs
theorem zjz {p f t:Str} (hp:bn [p]=0) (ht:bn [t]=0) (h:isIn p f=true) (hg:gw (t++p.drop f.length)=false):bn [t++p.drop f.length]=0:=by
 refine (im _).2 ⟨fun x hx=>?_,hg⟩
 rw[← zol t h] at hx
 rcases List.mem_append.1 hx with hx|hx
 ·exact ((im t).1 ht).1 x hx
 ·exact ((im p).1 hp).1 x (List.mem_of_mem_drop hx)
theorem z1r {l:List Entry} {c:Change} {v:Int} (h:ik l c v=0):jj c=0∧mayP l c=0∧ir l c v=0:=by
 unfold ik at h
 grind
theorem zph {l:List Entry} {c:Change} {v:Int} (h:ir l c v=0):(c.kind=3→lk l c v=false)∧(ff l c v).length≤60:=by
 unfold ir at h
 constructor
 ·intro hk
  cases hg:lk l c v with
  | false=>rfl
  | true=>rw[if_pos ⟨hk,hg⟩] at h;cases h
 ·split at h
  ·cases h
  ·split at h
   ·cases h
   ·omega
theorem zdt {l:List Entry} {c:Change} {v:Int} (hl:∀ x∈l,bn [x.path]=0) (ht:bn [c.to]=0) (hg:lk l c v=false) {x:Entry} (hx:x∈ei l c v):bn [x.path]=0:=by
 have hgx:gw x.path=false:=by
  rw[lk,List.any_eq_false] at hg
  simpa using hg x hx
 obtain⟨y,hy,rfl⟩:=List.mem_map.1 hx
 obtain⟨h1,h2⟩:=List.mem_filter.1 hy
 exact zjz (hl y h1) ht h2 hgx
theorem zdn {l:List Entry} {c:Change} {v:Int} (g:GoodT l) (ok:okC c) (h:ik l c v=0):GoodT (ff l c v):=by
 obtain⟨h1,h2,h3⟩:=z1r h
 obtain⟨h4,h5⟩:=zph h3
 obtain⟨h6,h7⟩:=sk h1
 have hpath:∀ x∈ff l c v,bn [x.path]=0:=by
  intro x hx
  rcases zii g.sorted hx with h|rfl|rfl | ⟨hk,h⟩
  ·exact g.paths.2 x h
  ·exact h6
  ·exact h6
  ·exact zdt g.paths.2 (h7 hk) (h4 hk) h
 refine⟨zeq g.sorted,⟨by omega,fun x hx=>⟨by have:=il (hpath x hx);omega, ?_⟩⟩,by omega,hpath⟩
 rcases zii g.sorted hx with h|rfl|rfl | ⟨_,h⟩
 ·exact (g.ok.2 x h).2
 ·simp
 ·exact ok.2.2
 ·obtain⟨y,hy,rfl⟩:=List.mem_map.1 h
  exact (g.ok.2 y (List.mem_filter.1 hy).1).2
def verB (v:Int):Bool:=decide (1≤v) && decide (v≤1000000)
def fj (v:Int):List Entry→List Change→Int→List Entry × Int × Int
 | t,[],k=>(t,k,0)
 | t,c::cs,k=>if ik t c v≠0 then ([],k,ik t c v) else fj v (ff t c v) cs (k+1)
def allP (l:List Entry) (cs:List Change) (v:Int):List Entry × Int × Int :=
 if dd l≠0 then ([],0,dd l) else if 20<(cs.length:Int) then ([],0,2) else if verB v=false∧0<(cs.length:Int) then ([],0,3) else fj v l cs 0
abbrev csV (l:List Change):V:=lstV 5 Change.enc default l
def okCs (cs:List Change):Prop:=cs.length≤1048576∧∀ c∈cs,okC c
theorem All_c (l:List Entry) (cs:List Change) (v:Int) (okl:okE l) (ok:okCs cs):Meets Tryz.prog 119 [esV l,csV cs,.int .i64 v]
  (.tup [.own none 0 4 0 (allP l cs v).1.length .loose,.int .i64 (allP l cs v).2.1,.int .i64 (allP l cs v).2.2]) [.arr 4 (allP l cs v).1.length (En Entry.enc default (allP l cs v).1)]:=by
 refine an (fn:=Tryz.f119) Tryz.func119 rfl fb119 (by kernel_rfl) (Nat.le_of_ble_eq_true rfl) ?_
 have hcl:=ok.1
 have hll:=okl.1
 refine aa ?_
 simp only[go_sem]
 repeat first|(with_reducible refine ad ?_ ?_;exact byD)|(with_reducible refine ae ?_ ?_;exact byQ)
 refine ab ?_
 refine aa ?_
 simp only[go_sem]
 refine cw_v 2 (zdg l okl) byV byC rfl ?_
 simp only[go_sem]
 refine aa ?_
 simp only[go_sem]
 intro t18 e18
 subst e18
 refine ah _ rfl (fun h18=>?_) (fun h18=>?_)
 ·
  (try simp only[go_sem] at h18)
  refine aa ?_
  simp only[go_sem]
  refine fp 6 4 (En Entry.enc default []) rfl ?_
  simp only[go_sem]
  refine af ?_
  simp only[go_sem]
  have h1:¬ dd l=0:=by simpa using h18
  have he:allP l cs v=([],0,dd l):=by rw[allP,if_pos h1]
  rw[he]
  exact ap 1 [1] rfl byC byC byC byC
 ·
  (try simp only[go_sem] at h18)
  have hck:dd l=0:=by simpa using h18
  have hg:=qf okl hck
  refine ag ?_
  (try simp only[go_sem])
  refine ab ?_
  refine aa ?_
  simp only[go_sem]
  intro t22 e22
  subst e22
  refine ah _ rfl (fun h22=>?_) (fun h22=>?_)
  ·
   (try simp only[go_sem] at h22)
   refine aa ?_
   simp only[go_sem]
   refine fp 6 4 (En Entry.enc default []) rfl ?_
   simp only[go_sem]
   refine af ?_
   simp only[go_sem]
   have he:allP l cs v=([],0,2):=by rw[allP,if_neg (by simpa using hck),if_pos (by omega)]
   rw[he]
   exact ap 1 [1] rfl byC byC byC byC
  ·
   (try simp only[go_sem] at h22)
   refine ag ?_
   (try simp only[go_sem])
   refine ab ?_
   refine aa ?_
   simp only[go_sem]
   refine cw_m (uw v) byW byT ?_
   simp only[go_sem]
   intro t25 e25
   intro t29 e29
   intro t30 e30
   rw[ar] at e30
   subst e25 e29 e30
   refine ah _ rfl (fun h30=>?_) (fun h30=>?_)
   ·
    (try simp only[go_sem] at h30)
    refine aa ?_
    simp only[go_sem]
    refine fp 6 4 (En Entry.enc default []) rfl ?_
    simp only[go_sem]
    refine af ?_
    simp only[go_sem]
    have hv:verB v=false∧0<(cs.length:Int):=by unfold verB;simp at h30 ⊢;omega
    have he:allP l cs v=([],0,3):=by rw[allP,if_neg (by simpa using hck),if_neg (by omega),if_pos hv]
    rw[he]
    exact ap 1 [1] rfl byC byC byC byC
   ·
    (try simp only[go_sem] at h30)
    have hv:¬ (verB v=false∧0<(cs.length:Int)):=by unfold verB;grind
    have he:allP l cs v=fj v l cs 0:=by rw[allP,if_neg (by simpa using hck),if_neg (by omega),if_neg hv]
    refine ag ?_
    (try simp only[go_sem])
    refine aa ?_
    simp only[go_sem]
    refine cw_m (kr l (by omega)) byW byT ?_
    simp only[go_sem]
    refine ab ?_
    refine aa ?_
    simp only[go_sem]
    refine ai ?_
    refine gz (σ:=Nat × List Entry) (fun s=>s.1≤cs.length∧GoodT s.2∧fj v l cs 0=fj v s.2 (cs.drop s.1) (s.1:Int)) (fun s=>[⟨35,0,[],.int .i64 (s.1:Nat)⟩,⟨0,0,[],.own none 1 4 0 s.2.length .loose⟩]) [1,2,33,34] (fun s=>[.dead,.arr 4 s.2.length (En Entry.enc default s.2)]) (fun s=>cs.length-s.1) (0,l) ⟨Nat.zero_le _,hg,rfl⟩ (fun _=>(Nat.zero_le _)) byC (fun s hI1=>?_)
    simp only[go_sem]
    obtain⟨i1,i2,i3⟩:=hI1
    have hlen:=i2.ok.1
    refine aa ?_
    simp only[go_sem]
    repeat first|(with_reducible refine ad ?_ ?_;exact byD)|(with_reducible refine ae ?_ ?_;exact byQ)
    intro t36 e36
    subst e36
    refine ab ?_
    refine ah _ rfl (fun h36=>?_) (fun h36=>?_)
    ·
     (try simp only[go_sem] at h36)
     have hcm:cs.getD s.1 default∈cs:=bj (by omega)
     have hdr:cs.drop s.1=cs.getD s.1 default::cs.drop (s.1+1):=by
      rw[List.drop_eq_getElem_cons (by omega)]
      simp[List.getD,show s.1<cs.length by omega]
     refine ag ?_
     (try simp only[go_sem])
     refine ab (ai ?_)
     refine aa ?_
     simp only[go_sem]
     repeat first|(with_reducible refine ad ?_ ?_;exact byD)|(with_reducible refine ae ?_ ?_;exact byQ)
     refine aa ?_
     simp only[go_sem]
     refine cw_n 2 (Raw_c s.2 (cs.getD s.1 default) v i2 (ok.2 _ hcm)) byV byC rfl byN ?_
     simp only[go_sem]
     refine ab ?_
     refine aa ?_
     simp only[go_sem]
     intro t48 e48
     subst e48
     refine ah _ rfl (fun h48=>?_) (fun h48=>?_)
     ·
      (try simp only[go_sem] at h48)
      refine aa ?_
      simp only[go_sem]
      refine fp 6 4 (En Entry.enc default []) rfl ?_
      simp only[go_sem]
      refine af ?_
      simp only[go_sem]
      have he2:allP l cs v=([],(s.1:Int),ik s.2 (cs.getD s.1 default) v):=by rw[he,i3,hdr,fj,if_pos h48]
      rw[he2]
      exact ap 1 [4] rfl byC byC byC byC
     ·
      (try simp only[go_sem] at h48)
      refine ag ?_
      (try simp only[go_sem])
      refine aj ?_
      simp only[go_sem]
      refine aj ?_
      simp only[go_sem]
      intro t52 e52
      (try replace e52:=w64 e52 (by omega) (by omega))
      have h48':ik s.2 (cs.getD s.1 default) v=0:=by simpa using h48
      have hr:rawP s.2 (cs.getD s.1 default) v=ff s.2 (cs.getD s.1 default) v:=by rw[rawP,if_pos h48']
      refine ke (s.1+1,ff s.2 (cs.getD s.1 default) v) [0,3] ⟨by dsimp only;omega,zdn i2 (ok.2 _ hcm) h48', ?_⟩ (by first|omega|(dsimp only;omega)) ⟨rfl,rfl, ?_, ?_⟩
      ·rw[i3,hdr,fj,if_neg (by simpa using h48')]
       rfl
      ·rw[hr];exact byC
      ·rw[hr];exact byC
    ·
     (try simp only[go_sem] at h36)
     refine bk ?_
     simp only[go_sem]
     refine aa ?_
     simp only[go_sem]
     refine af ?_
     simp only[go_sem]
     have hi:s.1=cs.length:=by omega
     have he2:allP l cs v=(s.2,(cs.length:Int),0):=by rw[he,i3,hi,List.drop_length,fj]
     rw[he2]
     exact ap 1 [1] rfl byC byC byC byC
end Go.VM.Tryz
end
section
open Go Go.VM Go.Proofs Tether
namespace Go.VM.Tryz
def sameL {α:Type} [DecidableEq α] (a b:List α):Bool:=decide (a=b)
theorem mw {α:Type} {a b:List α} {d:α} (hl:a.length=b.length) (h:∀ i,i<a.length→a.getD i d=b.getD i d):a=b:=by
 apply List.ext_getElem hl
 intro i h1 h2
 have:=h i h1
 simpa [List.getD,h1,h2] using this
theorem Entry.of_eq {a b:Entry} (h:a.path=b.path∧a.folder=b.folder∧a.text=b.text∧a.version=b.version):a=b:=by
 cases a;cases b;simp_all
theorem Change.of_eq {a b:Change} (h:a.kind=b.kind∧a.path=b.path∧a.to=b.to∧a.text=b.text∧a.base=b.base):a=b:=by
 cases a;cases b;simp_all
theorem jz (a b:List Entry) (ha:a.length<4611686018427387904) (hb:b.length<4611686018427387904):Meets Tryz.prog 22 [lstV 4 Entry.enc default a,lstV 4 Entry.enc default b] (.bool (sameL a b)) []:=by
 refine an (fn:=Tryz.f22) Tryz.func22 rfl fb22 (by kernel_rfl) (Nat.le_of_ble_eq_true rfl) ?_
 refine aa ?_
 simp only[go_sem]
 repeat first|(with_reducible refine ad ?_ ?_;exact byD)|(with_reducible refine ae ?_ ?_;exact byQ)
 refine ab ?_
 refine aa ?_
 simp only[go_sem]
 intro t10 e10
 subst e10
 refine ah _ rfl (fun h10=>?_) (fun h10=>?_)
 ·
  (try simp only[go_sem] at h10)
  refine aa ?_
  simp only[go_sem]
  refine af ?_
  simp only[go_sem]
  refine aq ?_
  have:a≠b:=fun e=>by subst e;exact h10 rfl
  simp[sameL,this]
 ·
  (try simp only[go_sem] at h10)
  refine ag ?_
  (try simp only[go_sem])
  refine ab ?_
  refine aa ?_
  simp only[go_sem]
  refine ai ?_
  refine bm (σ:=Nat) (fun i=>i≤a.length∧∀ j,j<i→a.getD j default=b.getD j default) (fun i=>[⟨5,0,[],.int .i64 (i:Nat)⟩]) [0,1] (fun i=>a.length-i) 0 ⟨Nat.zero_le _,fun j hj=>absurd hj (Nat.not_lt_zero j)⟩ (Nat.zero_le _) byC (fun i hI1=>?_)
  simp only[go_sem]
  refine ab ?_
  refine aa ?_
  simp only[go_sem]
  repeat first|(with_reducible refine ad ?_ ?_;exact byD)|(with_reducible refine ae ?_ ?_;exact byQ)
  intro t14 e14
  subst e14
  refine ah _ rfl (fun h14=>?_) (fun h14=>?_)
  ·
   (try simp only[go_sem] at h14)
   refine ag ?_
   (try simp only[go_sem])
   refine ab (ai ?_)
   refine ab (bc cj [] (.first 0 (.first 1 (.first 2 (.first 3 (.first 4 (.first 5 (.first 6 (.first 7 (.first 8 (.done)))))))))) (by kernel_rfl) ?_)
   simp only[go_sem]
   repeat first|(with_reducible refine ad ?_ ?_;exact byD)|(with_reducible refine ae ?_ ?_;exact byQ)
   intro t25 e25
   subst e25
   refine ah _ rfl (fun h25=>?_) (fun h25=>?_)
   ·
    (try simp only[go_sem] at h25)
    refine aa ?_
    simp only[go_sem]
    refine af ?_
    simp only[go_sem]
    refine aq ?_
    have:a≠b:=fun e=>by
     subst e
     grind
    simp[sameL,this]
   ·
    (try simp only[go_sem] at h25)
    refine ag ?_
    (try simp only[go_sem])
    refine aj ?_
    simp only[go_sem]
    intro t16 e16
    (try replace e16:=w64 e16 (by omega) (by omega))
    have hk:a.getD i default=b.getD i default:=by
     exact Entry.of_eq h25
    refine ay (i+1) ⟨by omega,bw hI1.2 hk⟩ (by first|omega|(dsimp only;omega)) byC
  ·
   (try simp only[go_sem] at h14)
   refine bk ?_
   simp only[go_sem]
   refine aa ?_
   simp only[go_sem]
   refine af ?_
   simp only[go_sem]
   refine aq ?_
   have:a=b:=mw (d:=default) (by omega) (fun j hj=>hI1.2 j (by omega))
   simp[sameL,this]
theorem zai (a b:List Change) (ha:a.length<4611686018427387904) (hb:b.length<4611686018427387904):Meets Tryz.prog 115 [lstV 5 Change.enc default a,lstV 5 Change.enc default b] (.bool (sameL a b)) []:=by
 refine an (fn:=Tryz.f115) Tryz.func115 rfl fb115 (by kernel_rfl) (Nat.le_of_ble_eq_true rfl) ?_
 refine aa ?_
 simp only[go_sem]
 repeat first|(with_reducible refine ad ?_ ?_;exact byD)|(with_reducible refine ae ?_ ?_;exact byQ)
 refine ab ?_
 refine aa ?_
 simp only[go_sem]
 intro t10 e10
 subst e10
 refine ah _ rfl (fun h10=>?_) (fun h10=>?_)
 ·
  (try simp only[go_sem] at h10)
  refine aa ?_
  simp only[go_sem]
  refine af ?_
  simp only[go_sem]
  refine aq ?_
  have:a≠b:=fun e=>by subst e;exact h10 rfl
  simp[sameL,this]
 ·
  (try simp only[go_sem] at h10)
  refine ag ?_
  (try simp only[go_sem])
  refine ab ?_
  refine aa ?_
  simp only[go_sem]
  refine ai ?_
  refine bm (σ:=Nat) (fun i=>i≤a.length∧∀ j,j<i→a.getD j default=b.getD j default) (fun i=>[⟨5,0,[],.int .i64 (i:Nat)⟩]) [0,1] (fun i=>a.length-i) 0 ⟨Nat.zero_le _,fun j hj=>absurd hj (Nat.not_lt_zero j)⟩ (Nat.zero_le _) byC (fun i hI1=>?_)
  simp only[go_sem]
  refine ab ?_
  refine aa ?_
  simp only[go_sem]
  repeat first|(with_reducible refine ad ?_ ?_;exact byD)|(with_reducible refine ae ?_ ?_;exact byQ)
  intro t14 e14
  subst e14
  refine ah _ rfl (fun h14=>?_) (fun h14=>?_)
  ·
   (try simp only[go_sem] at h14)
   refine ag ?_
   (try simp only[go_sem])
   refine ab (ai ?_)
   refine ab (bc cj [] (.first 0 (.first 1 (.first 2 (.first 3 (.first 4 (.first 5 (.first 6 (.first 7 (.first 8 (.done)))))))))) (by kernel_rfl) ?_)
   simp only[go_sem]
   repeat first|(with_reducible refine ad ?_ ?_;exact byD)|(with_reducible refine ae ?_ ?_;exact byQ)
   intro t25 e25
   subst e25
   refine ah _ rfl (fun h25=>?_) (fun h25=>?_)
   ·
    (try simp only[go_sem] at h25)
    refine aa ?_
    simp only[go_sem]
    refine af ?_
    simp only[go_sem]
    refine aq ?_
    have:a≠b:=fun e=>by
     subst e
     grind
    simp[sameL,this]
   ·
    (try simp only[go_sem] at h25)
    refine ag ?_
    (try simp only[go_sem])
    refine aj ?_
    simp only[go_sem]
    intro t16 e16
    (try replace e16:=w64 e16 (by omega) (by omega))
    have hk:a.getD i default=b.getD i default:=by
     exact Change.of_eq h25
    refine ay (i+1) ⟨by omega,bw hI1.2 hk⟩ (by first|omega|(dsimp only;omega)) byC
  ·
   (try simp only[go_sem] at h14)
   refine bk ?_
   simp only[go_sem]
   refine aa ?_
   simp only[go_sem]
   refine af ?_
   simp only[go_sem]
   refine aq ?_
   have:a=b:=mw (d:=default) (by omega) (fun j hj=>hI1.2 j (by omega))
   simp[sameL,this]
end Go.VM.Tryz
end
section
open Go Go.VM
namespace Tether
end Tether
end
section
open Go Go.VM Go.Proofs Tether
namespace Go.VM.Tryz
end Go.VM.Tryz
end
section
open Go Go.VM Go.Proofs Tether
namespace Go.VM.Tryz
theorem zmz {c:Change} (h:jj c=0):1≤c.kind∧c.kind≤4:=by
 unfold jj at h
 grind
end Go.VM.Tryz
end
section
open Go Go.VM Go.Proofs Tether
namespace Go.VM.Tryz
def allR (l:List Entry) (cs:List Change) (v:Int):List Entry × Int × Int :=
 if 20<(cs.length:Int) then ([],0,2) else if verB v=false∧0<(cs.length:Int) then ([],0,3) else fj v l cs 0
theorem zxu (l:List Entry) (cs:List Change) (v:Int):allP l cs v=if dd l≠0 then ([],0,dd l) else allR l cs v:=rfl
theorem za:∀ (cs:List Change) (t:List Entry) (v k:Int),(fj v t cs k).2.2≠0→(fj v t cs k).1=[]
 | [],t,v,k,h=>absurd rfl h
 | c::cs,t,v,k,h=>by
   unfold fj at h ⊢
   split
   ·rfl
   ·rename_i hc
    rw[if_neg hc] at h
    exact za cs _ v _ h
theorem zl:∀ (cs:List Change) (t:List Entry) (v k:Int),(fj v t cs k).1.length≤max 60 t.length
 | [],t,v,k=>by unfold fj;show t.length≤_;omega
 | c::cs,t,v,k=>by
   unfold fj
   split
   ·simp
   ·rename_i hc
    have:=zl cs (ff t c v) v (k+1)
    have h2:=(zph (z1r (by simpa using hc)).2.2).2
    omega
theorem zwo (l:List Entry) (cs:List Change) (v:Int):(allR l cs v).1.length≤max 60 l.length:=by
 unfold allR
 split
 ·simp
 ·split
  ·simp
  ·exact zl cs l v 0
theorem ztl (l:List Entry) (cs:List Change) (v:Int):(allP l cs v).1.length≤max 60 l.length:=by
 rw[zxu]
 split
 ·simp
 ·exact zwo l cs v
end Go.VM.Tryz
end
section
open Go Go.VM Go.Proofs Tether
namespace Go.VM.Tryz
end Go.VM.Tryz
end
section
open Go Go.VM Go.Proofs Tether
namespace Go.VM.Tryz
structure FullT (l:List Entry):Prop where
 len:l.length≤60
 ents:∀ x∈l,ge x=0
 sorted:bo l
 par:∀ x∈l,bq x.path=[]∨∃ y∈l,y.path=bq x.path∧y.folder=true
theorem zn {l:List Entry} (hs:bo l) {p:Str}:((parE l p).2=true∧(parE l p).1.folder=true)↔(bq p=[]∨∃ y∈l,y.path=bq p∧y.folder=true):=by
 unfold parE
 by_cases h:bq p=[]
 ·simp[h,topE]
 ·rw[if_neg h]
  by_cases hh:hasE l (bq p)=true
  ·rw[if_pos hh]
   have hf:=zad hs (bq p)
   rw[if_pos hh] at hf
   obtain⟨h1,h2⟩:=mn hf
   constructor
   ·rintro⟨_,h3⟩
    exact .inr ⟨_,h1,h2,h3⟩
   ·rintro (h3 | ⟨y,h3,h4,h5⟩)
    ·exact absurd h3 h
    ·have:=iz hs h3 h1 (h4.trans h2.symm)
     exact⟨rfl,by rw[← this];exact h5⟩
  ·rw[if_neg hh]
   constructor
   ·rintro⟨h1,_⟩
    cases h1
   ·rintro (h3 | ⟨y,h3,h4,h5⟩)
    ·exact absurd h3 h
    ·exact absurd ((pr hs).2 ⟨y,h3,h4⟩) hh
theorem checkT_iff {l:List Entry}:dd l=0↔FullT l:=by
 constructor
 ·intro h
  unfold dd at h
  have h1:(l.length:Int)≤60:=by grind
  have h2:bh ge l=0:=by grind
  have h3:ll l=true:=by grind
  have h4:zle l=true:=by grind
  have h5:zrz l=true:=by grind
  have hs:=sortedB_iff.1 h3
  exact⟨by omega,firstErr_0.1 h2,hs,fun x hx=>(zn hs).1 ⟨List.all_eq_true.1 h4 x hx,List.all_eq_true.1 h5 x hx⟩⟩
 ·rintro⟨h1,h2,h3,h4⟩
  have e2:bh ge l=0:=firstErr_0.2 h2
  have e3:ll l=true:=sortedB_iff.2 h3
  have e4:zle l=true:=List.all_eq_true.2 fun x hx=>((zn h3).2 (h4 x hx)).1
  have e5:zrz l=true:=List.all_eq_true.2 fun x hx=>((zn h3).2 (h4 x hx)).2
  rw[dd,if_neg (by omega),if_neg (by simpa using e2),if_neg (by simp[e3]),if_neg (by simp[e4]),if_neg (by simp[e5])]
theorem FullT.path {l:List Entry} (h:FullT l) {x:Entry} (hx:x∈l):bn [x.path]=0:=xt (h.ents x hx)
theorem FullT.ok {l:List Entry} (h:FullT l):okE l:=by
 refine⟨by have:=h.len;omega,fun x hx=>⟨by have:=il (h.path hx);omega, ?_⟩⟩
 have:=h.ents x hx
 unfold ge at this
 grind
theorem FullT.good {l:List Entry} (h:FullT l):GoodT l:=qf h.ok (checkT_iff.2 h)
theorem zmd (p:Str):isIn p p=true:=(ic p p).2 (.inl rfl)
theorem ziq {a b c:Str} (h:isIn a b=true) (k:isIn b c=true):isIn a c=true:=by
 rw[ic] at *
 rcases h with rfl | ⟨t,rfl⟩
 ·exact k
 ·rcases k with rfl | ⟨u,rfl⟩
  ·exact .inr ⟨t,rfl⟩
  ·exact .inr ⟨u++47::t,by simp⟩
theorem zgt {p:Str} (h:bq p≠[]):p=bq p++47::mu p:=by
 rcases pu p with hp | ⟨f,x,rfl,hx⟩
 ·exact absurd (zbo hp) h
 ·rw[ft hx,qt hx]
theorem zud {p:Str} (h:bq p≠[]):isIn p (bq p)=true:=by
 rw[ic]
 exact .inr ⟨mu p,zgt h⟩
theorem zwq {p:Str} (h:bq p≠[]):(bq p).length<p.length:=by
 have:=congrArg List.length (zgt h)
 simp at this
 omega
theorem zss {p q:Str} (h:isIn p q=true) (hne:p≠q) (hp:47 ∉ mu p):isIn (bq p) q=true∧bq p=q++(bq p).drop q.length:=by
 rw[ic] at h
 rcases h with h | ⟨t,rfl⟩
 ·exact absurd h hne
 ·rcases pu t with ht | ⟨f,x,rfl,hx⟩
  ·rw[ft ht]
   exact⟨zmd q,by simp⟩
  ·rw[show q++47::(f++47::x)=(q++47::f)++47::x by simp,ft hx]
   exact⟨(ic _ _).2 (.inr ⟨f,rfl⟩),by simp⟩
theorem z4f (p:Str):47 ∉ mu p:=by
 rcases pu p with hp | ⟨f,x,rfl,hx⟩
 ·rw[zby hp];exact hp
 ·rw[qt hx];exact hx
theorem wl {p q:Str} (h:isIn p q=true) (hne:p≠q):isIn (bq p) q=true:=(zss h hne (z4f p)).1
theorem ub {p q:Str} (hq:q≠[]) (h:isIn p q=true) (hne:p≠q):bq p≠[]:=fun e=>by
 have:=zbb (wl h hne)
 rw[e] at this
 have:q.length=0:=by simpa using this
 exact hq (List.length_eq_zero_iff.1 this)
theorem zfe {p f:Str} (t:Str) (h:isIn p f=true) (hne:p≠f):bq (t++p.drop f.length)=t++(bq p).drop f.length:=by
 rw[ic] at h
 rcases h with h | ⟨u,rfl⟩
 ·exact absurd h hne
 ·rw[List.drop_left]
  rcases pu u with hu | ⟨g,x,rfl,hx⟩
  ·rw[ft hu,ft hu]
   simp
  ·rw[show f++47::(g++47::x)=(f++47::g)++47::x by simp,show t++47::(g++47::x)=(t++47::g)++47::x by simp,ft hx,ft hx,List.drop_left]
theorem zcx {p f t:Str} (h:isIn p f=true):t++p.drop f.length=t↔p=f:=by
 rw[ic] at h
 rcases h with rfl | ⟨u,rfl⟩
 ·simp
 ·simp
theorem zml {p q f t:Str} (hp:isIn p f=true) (hq:isIn q f=true) (h:t++p.drop f.length=t++q.drop f.length):p=q:=by
 have h:=List.append_cancel_left h
 have e:∀ {x:Str},isIn x f=true→x=f++x.drop f.length:=by
  intro x hx
  rw[ic] at hx
  rcases hx with rfl | ⟨u,rfl⟩
  ·simp
  ·simp
 rw[e hp,e hq,h]
theorem FullT.anc {l:List Entry} (g:FullT l) {q:Str} (hq:q≠[]):∀ (n:Nat) (x:Entry),x.path.length≤n→x∈l→isIn x.path q=true→∃ y∈l,y.path=q∧(x.path≠q→y.folder=true)
 | 0,x,hn,hx,h=>by
   have:=zbb h
   have:q.length=0:=by omega
   exact absurd (List.length_eq_zero_iff.1 this) hq
 | n+1,x,hn,hx,h=>by
   by_cases he:x.path=q
   ·exact⟨x,hx,he,fun hne=>absurd he hne⟩
   ·have h1:=wl h he
    have h2:=ub hq h he
    rcases g.par x hx with h3 | ⟨y,hy,hy2,hy3⟩
    ·exact absurd h3 h2
    ·obtain⟨z,hz,hz2,hz3⟩:=FullT.anc g hq n y (by rw[hy2];have:=zwq h2;omega) hy (by rw[hy2];exact h1)
     refine⟨z,hz,hz2,fun _=>?_⟩
     by_cases hyq:y.path=q
     ·have:=iz g.sorted hz hy (hz2.trans hyq.symm)
      rw[this];exact hy3
     ·exact hz3 hyq
theorem FullT.above {l:List Entry} (g:FullT l) {q:Str} (hq:q≠[]) {x:Entry} (hx:x∈l) (h:isIn x.path q=true):∃ y∈l,y.path=q∧(x.path≠q→y.folder=true) :=
 g.anc hq _ x (Nat.le_refl _) hx h
theorem zna {p:Str} (h:bn [p]=0):p≠[]:=by
 rintro rfl
 have:=((im []).1 h).1 [] (by simp[pcs])
 exact zbr this rfl
theorem rz:∀ (g t:List Entry),bo t→(g.Pairwise fun a b=>a.path≠b.path)→∀ y,y∈g.foldl putE t↔y∈g∨(y∈t∧∀ z∈g,z.path≠y.path)
 | [],t,_,_,y=>by simp
 | x::g,t,ht,hg,y=>by
   obtain⟨h1,h2⟩:=List.pairwise_cons.1 hg
   rw[List.foldl_cons,rz g _ (fq ht x) h2 y,je ht]
   constructor
   ·rintro (h | ⟨h | ⟨h,h3⟩,h4⟩)
    ·exact .inl (by simp[h])
    ·exact .inl (by simp[h])
    ·refine .inr ⟨h,fun z hz=>?_⟩
     rcases List.mem_cons.1 hz with rfl|hz
     ·exact fun e=>h3 e.symm
     ·exact h4 z hz
   ·rintro (h | ⟨h,h3⟩)
    ·rcases List.mem_cons.1 h with rfl|h
     ·exact .inr ⟨.inl rfl,fun z hz e=>h1 z hz e.symm⟩
     ·exact .inl h
    ·exact .inr ⟨.inr ⟨h,fun e=>h3 x (by simp) e.symm⟩,fun z hz=>h3 z (by simp[hz])⟩
theorem znz {l:List Entry} (hs:bo l) (c:Change) (v:Int):(ei l c v).Pairwise fun a b=>a.path≠b.path:=by
 unfold ei
 rw[List.pairwise_map]
 have h:(l.filter (inB c.path)).Pairwise fun a b=>a.path<b.path:=ef hs _
 refine (List.pairwise_iff_forall_sublist.2 fun {a b} hab=>?_)
 have hlt:=List.pairwise_iff_forall_sublist.1 h hab
 have ha:a∈l.filter (inB c.path):=hab.subset (by simp)
 have hb:b∈l.filter (inB c.path):=hab.subset (by simp)
 intro e
 have:=zml (List.mem_filter.1 ha).2 (List.mem_filter.1 hb).2 e
 rw[this] at hlt
 exact eq _ hlt
end Go.VM.Tryz
end
section
open Go Go.VM Go.Proofs Tether
namespace Go.VM.Tryz
structure MayT (l:List Entry) (c:Change):Prop where
 par:bq (od c)=[]∨∃ y∈l,y.path=bq (od c)∧y.folder=true
 new:c.kind=1→∀ x∈l,x.path≠c.path
 file:c.kind=2→∀ x∈l,x.path=c.path→x.folder=false
 is:c.kind≠1→c.kind≠2→∃ x∈l,x.path=c.path
 apart:c.kind=3→isIn c.to c.path=false
 free:c.kind=3→∀ x∈l,x.path≠c.to
theorem zxg {l:List Entry} (hs:bo l) {p:Str} (h:hasE l p=false):∀ x∈l,x.path≠p:=fun x hx e=>by
 rw[(pr hs).2 ⟨x,hx,e⟩] at h
 cases h
theorem z2l {l:List Entry} (hs:bo l) {c:Change} (h:mayP l c=0):MayT l c:=by
 have h1:(parE l (od c)).2=true∧(parE l (od c)).1.folder=true:=by unfold mayP at h;grind
 have h2:c.kind=1→hasE l c.path=false:=by unfold mayP at h;grind
 have h3:c.kind=2→hasE l c.path=true→(l.getD (eIx l c.path) default).folder=false:=by unfold mayP at h;grind
 have h4:c.kind≠1→c.kind≠2→hasE l c.path=true:=by unfold mayP at h;grind
 have h5:c.kind=3→isIn c.to c.path=false:=by unfold mayP at h;grind
 have h6:c.kind=3→hasE l c.to=false:=by unfold mayP at h;grind
 refine⟨(zn hs).1 h1,fun k=>zxg hs (h2 k),fun k x hx e=>?_,fun k1 k2=>(pr hs).1 (h4 k1 k2),h5,fun k=>zxg hs (h6 k)⟩
 have hh:=(pr hs).2 ⟨x,hx,e⟩
 have hf:=zad hs c.path
 rw[if_pos hh] at hf
 obtain⟨q1,q2⟩:=mn hf
 rw[iz hs hx q1 (e.trans q2.symm)]
 exact h3 k hh
theorem goes_mem {l:List Entry} {c:Change} {v:Int} {y:Entry}:y∈ei l c v↔∃ x∈l,isIn x.path c.path=true∧mvE c v x=y:=by
 unfold ei
 rw[List.mem_map]
 constructor
 ·rintro⟨x,hx,e⟩
  exact⟨x,(List.mem_filter.1 hx).1,(List.mem_filter.1 hx).2,e⟩
 ·rintro⟨x,hx,h,e⟩
  exact⟨x,List.mem_filter.2 ⟨hx,h⟩,e⟩
theorem zzl {l:List Entry} {c:Change} {v:Int} {y:Entry} (h:y∈ei l c v):isIn y.path c.to=true:=by
 obtain⟨x,hx,h1,rfl⟩:=goes_mem.1 h
 exact zvs c.to h1
theorem FullT.clear {l:List Entry} (g:FullT l) {q:Str} (hq:bn [q]=0) (h:∀ x∈l,x.path≠q):∀ x∈l,isIn x.path q=false:=by
 intro x hx
 cases hi:isIn x.path q with
 | false=>rfl
 | true =>
   obtain⟨y,hy,e,_⟩:=g.above (zna hq) hx hi
   exact absurd e (h y hy)
theorem zkx {l:List Entry} {c:Change} {v:Int} (g:FullT l) (m:MayT l c) (hk:c.kind=3) (ht:bn [c.to]=0) {y:Entry} :
  y∈vm l c v↔y∈ei l c v∨(y∈l∧isIn y.path c.path=false):=by
 unfold vm
 rw[rz _ _ (ef g.sorted _) (znz g.sorted c v)]
 have hcl:=g.clear ht (m.free hk)
 constructor
 ·rintro (h | ⟨h,_⟩)
  ·exact .inl h
  ·obtain⟨h1,h2⟩:=List.mem_filter.1 h
   exact .inr ⟨h1,by simpa [outB] using h2⟩
 ·rintro (h | ⟨h1,h2⟩)
  ·exact .inl h
  ·refine .inr ⟨List.mem_filter.2 ⟨h1,by simpa [outB] using h2⟩,fun z hz e=>?_⟩
   have:=zzl hz
   rw[e,hcl y h1] at this
   cases this
theorem verB_iff {v:Int}:verB v=true↔1≤v∧v≤1000000:=by simp[verB]
theorem entErr_iff {x:Entry}:ge x=0↔bn [x.path]=0∧¬ (x.folder=true∧x.text≠[])∧x.text.length≤300∧1≤x.version∧x.version≤1000000:=by
 unfold ge
 grind
theorem zqc {c:Change} (h:jj c=0):c.text.length≤300:=by
 unfold jj at h
 grind
theorem we {p q:Str} (h:isIn p q=false) (hp:bq p≠[]):isIn (bq p) q=false:=by
 cases hi:isIn (bq p) q with
 | false=>rfl
 | true=>rw[ziq (zud hp) hi] at h;cases h
theorem zrc {l:List Entry} {c:Change} {v:Int} (g:FullT l) (hv:verB v=true) (h:ik l c v=0):FullT (ff l c v):=by
 obtain⟨hf,hm,hd⟩:=z1r h
 obtain⟨hgr,hlen⟩:=zph hd
 obtain⟨hcp,hct⟩:=sk hf
 have hfk:=zmz hf
 have m:=z2l g.sorted hm
 have hver:=verB_iff.1 hv
 have htx:=zqc hf
 by_cases k1:c.kind=1
 ·have e:ff l c v=putE l ⟨c.path,true,[],v⟩:=by rw[ff,if_pos k1]
  have hg:od c=c.path:=by rw[od,if_neg (by omega)]
  rw[e] at hlen ⊢
  refine⟨hlen,fun x hx=>?_,fq g.sorted _,fun x hx=>?_⟩
  ·rcases (je g.sorted).1 hx with rfl | ⟨hx,_⟩
   ·exact entErr_iff.2 ⟨hcp,by simp,by simp,hver.1,hver.2⟩
   ·exact g.ents x hx
  ·have keep:∀ y∈l,y∈putE l ⟨c.path,true,[],v⟩:=fun y hy=>(je g.sorted).2 (.inr ⟨hy,m.new k1 y hy⟩)
   rcases (je g.sorted).1 hx with rfl | ⟨hx,_⟩
   ·have:=m.par
    rw[hg] at this
    rcases this with h | ⟨y,hy,h1,h2⟩
    ·exact .inl h
    ·exact .inr ⟨y,keep y hy,h1,h2⟩
   ·rcases g.par x hx with h | ⟨y,hy,h1,h2⟩
    ·exact .inl h
    ·exact .inr ⟨y,keep y hy,h1,h2⟩
 ·by_cases k2:c.kind=2
  ·have e:ff l c v=putE l ⟨c.path,false,c.text,v⟩:=by rw[ff,if_neg k1,if_pos k2]
   have hg:od c=c.path:=by rw[od,if_neg (by omega)]
   rw[e] at hlen ⊢
   refine⟨hlen,fun x hx=>?_,fq g.sorted _,fun x hx=>?_⟩
   ·rcases (je g.sorted).1 hx with rfl | ⟨hx,_⟩
    ·exact entErr_iff.2 ⟨hcp,by simp,htx,hver.1,hver.2⟩
    ·exact g.ents x hx
   ·have keep:∀ y∈l,y.folder=true→y∈putE l ⟨c.path,false,c.text,v⟩:=fun y hy hfy=>(je g.sorted).2 (.inr ⟨hy,fun e=>by rw[m.file k2 y hy e] at hfy;cases hfy⟩)
    rcases (je g.sorted).1 hx with rfl | ⟨hx,_⟩
    ·have:=m.par
     rw[hg] at this
     rcases this with h | ⟨y,hy,h1,h2⟩
     ·exact .inl h
     ·exact .inr ⟨y,keep y hy h2,h1,h2⟩
    ·rcases g.par x hx with h | ⟨y,hy,h1,h2⟩
     ·exact .inl h
     ·exact .inr ⟨y,keep y hy h2,h1,h2⟩
  ·by_cases k4:c.kind=4
   ·have e:ff l c v=l.filter (outB c.path):=by rw[ff,if_neg k1,if_neg k2,if_pos k4]
    rw[e] at hlen ⊢
    refine⟨hlen,fun x hx=>g.ents x (List.mem_filter.1 hx).1,ef g.sorted _,fun x hx=>?_⟩
    obtain⟨h1,h2⟩:=List.mem_filter.1 hx
    have h2:isIn x.path c.path=false:=by simpa [outB] using h2
    by_cases h0:bq x.path=[]
    ·exact .inl h0
    ·rcases g.par x h1 with h | ⟨y,hy,h3,h4⟩
     ·exact .inl h
     ·exact .inr ⟨y,List.mem_filter.2 ⟨hy,by simp[outB,h3,we h2 h0]⟩,h3,h4⟩
   ·have k3:c.kind=3:=by omega
    have e:ff l c v=vm l c v:=by rw[ff,if_neg k1,if_neg k2,if_neg k4,if_pos k3]
    have ht:=hct k3
    have hmem:∀ {y:Entry},y∈vm l c v↔y∈ei l c v∨(y∈l∧isIn y.path c.path=false):=zkx g m k3 ht
    have hg:od c=c.to:=by rw[od,if_pos k3]
    rw[e] at hlen ⊢
    refine⟨hlen,fun x hx=>?_,gh _ (ef g.sorted _),fun x hx=>?_⟩
    ·rcases hmem.1 hx with h1 | ⟨h1,_⟩
     ·have hp:=zdt (fun y hy=>g.path hy) ht (hgr k3) h1
      obtain⟨y,hy,h2,rfl⟩:=goes_mem.1 h1
      obtain⟨q1,q2,q3,q4,q5⟩:=entErr_iff.1 (g.ents y hy)
      refine entErr_iff.2 ⟨hp,q2,q3, ?_⟩
      show 1≤(if y.path=c.path then v else y.version)∧(if y.path=c.path then v else y.version)≤1000000
      split
      ·exact hver
      ·exact⟨q4,q5⟩
     ·exact g.ents x h1
    ·rcases hmem.1 hx with h1 | ⟨h1,h2⟩
     ·obtain⟨y,hy,h2,rfl⟩:=goes_mem.1 h1
      by_cases hyp:y.path=c.path
      ·have hxp:(mvE c v y).path=c.to:=by show c.to++y.path.drop c.path.length=c.to;rw[(zcx h2).2 hyp]
       rw[hxp]
       have hpar:=m.par
       rw[hg] at hpar
       rcases hpar with h | ⟨z,hz,h3,h4⟩
       ·exact .inl h
       ·by_cases h0:bq c.to=[]
        ·exact .inl h0
        ·refine .inr ⟨z,hmem.2 (.inr ⟨hz, ?_⟩),h3,h4⟩
         rw[h3]
         exact we (m.apart k3) h0
      ·have hne:=ub (zna hcp) h2 hyp
       rcases g.par y hy with h | ⟨z,hz,h3,h4⟩
       ·exact absurd h hne
       ·right
        have hzin:isIn z.path c.path=true:=by rw[h3];exact wl h2 hyp
        refine⟨mvE c v z,hmem.2 (.inl (goes_mem.2 ⟨z,hz,hzin,rfl⟩)), ?_,h4⟩
        show c.to++z.path.drop c.path.length=bq (c.to++y.path.drop c.path.length)
        rw[zfe c.to h2 hyp,h3]
     ·by_cases h0:bq x.path=[]
      ·exact .inl h0
      ·rcases g.par x h1 with h | ⟨y,hy,h3,h4⟩
       ·exact .inl h
       ·exact .inr ⟨y,hmem.2 (.inr ⟨hy,by rw[h3];exact we h2 h0⟩),h3,h4⟩
end Go.VM.Tryz
end
section
open Go Go.VM Go.Proofs Tether
namespace Go.VM.Tryz
end Go.VM.Tryz
end
section
open Go Go.VM Go.Proofs Tether
namespace Tether
structure Commit where
 number:Int
 key:Str
 changes:List Change
 deriving Inhabited,DecidableEq
structure Page where
 whole:Bool
 tree:List Entry
 commits:List Commit
 cursor:Int
 more:Bool
 deriving Inhabited,DecidableEq
end Tether
namespace Go.VM.Tryz
def cmE (c:Commit):List V:=[.int .i64 c.number,.str c.key,csV c.changes]
theorem cmE_eq (c:Commit):cmE c=[.int .i64 c.number,.str c.key,csV c.changes]:=rfl
attribute [go_sem] cmE_eq
abbrev cmsV (l:List Commit):V:=lstV 3 cmE default l
def pgE (p:Page):List V:=[.bool p.whole,esV p.tree,cmsV p.commits,.int .i64 p.cursor,.bool p.more]
theorem pgE_eq (p:Page):pgE p=[.bool p.whole,esV p.tree,cmsV p.commits,.int .i64 p.cursor,.bool p.more]:=rfl
attribute [go_sem] pgE_eq
def okM (c:Commit):Prop:=c.key.length≤1048576∧okCs c.changes
def okMs (l:List Commit):Prop:=l.length≤1048576∧∀ c∈l,okM c
def okG (p:Page):Prop:=okE p.tree∧okMs p.commits
end Go.VM.Tryz
end
section
open Go Go.VM Go.Proofs Tether
namespace Go.VM.Tryz
theorem wj:∀ (cs:List Change) (t:List Entry) (v k:Int),GoodT t→(∀ c∈cs,okC c)→(fj v t cs k).2.2=0→GoodT (fj v t cs k).1
 | [],t,v,k,g,_,_=>by simpa [fj] using g
 | c::cs,t,v,k,g,ok,h=>by
   rw[fj] at h ⊢
   by_cases h1:ik t c v=0
   ·rw[if_neg (by simpa using h1)] at h ⊢
    exact wj cs _ v _ (zdn g (ok c (by simp)) h1) (fun x hx=>ok x (by simp[hx])) h
   ·rw[if_pos h1] at h
    exact absurd h h1
theorem zcz {t:List Entry} {cs:List Change} {v:Int} (ok:okE t) (okc:okCs cs) (h:(allP t cs v).2.2=0):GoodT (allP t cs v).1:=by
 unfold allP at h ⊢
 by_cases h1:dd t=0
 ·rw[if_neg (by simpa using h1)] at h ⊢
  split at h
  ·cases h
  ·split at h
   ·cases h
   ·rename_i h2 h3
    rw[if_neg h2,if_neg h3]
    exact wj cs t v 0 (qf ok h1) okc.2 h
 ·rw[if_pos h1] at h
  exact absurd h h1
end Go.VM.Tryz
end
section
open Go Go.VM Go.Proofs Tether
namespace Go.VM.Tryz
theorem wb:∀ (cs:List Change) (t:List Entry) (v k:Int),FullT t→verB v=true→(fj v t cs k).2.2=0→FullT (fj v t cs k).1
 | [],t,v,k,g,_,_=>by simpa [fj] using g
 | c::cs,t,v,k,g,hv,h=>by
   rw[fj] at h ⊢
   by_cases h1:ik t c v=0
   ·rw[if_neg (by simpa using h1)] at h ⊢
    exact wb cs _ v _ (zrc g hv h1) hv h
   ·rw[if_pos h1] at h
    exact absurd h h1
theorem zdf {t:List Entry} {cs:List Change} {v:Int} (g:FullT t) (h:(allR t cs v).2.2=0):FullT (allR t cs v).1:=by
 unfold allR at h ⊢
 split at h
 ·cases h
 ·split at h
  ·cases h
  ·rename_i h2 h3
   rw[if_neg h2,if_neg h3]
   by_cases hv:verB v=true
   ·exact wb cs t v 0 g hv h
   ·have:cs=[]:=by
     have h4:verB v=false:=by simpa using hv
     rcases cs with _ | ⟨c,cs⟩
     ·rfl
     ·exact absurd ⟨h4,by simp⟩ h3
    subst this
    simpa [fj] using g
theorem zce {t:List Entry} (g:FullT t) (cs:List Change) (v:Int):allP t cs v=allR t cs v:=by
 rw[zxu,if_neg (by simp[checkT_iff.2 g])]
end Go.VM.Tryz
end
