import Derived.Test.YtmbnphmhaoomoaaGreatDoorAW14
set_option maxHeartbeats 4000000
set_option linter.unusedVariables false
set_option linter.unusedSimpArgs false
set_option maxRecDepth 100000
section
open Go Go.VM Go.Proofs Tether
namespace Go.VM.Tryz
theorem vr {h:Hub} (g:GoodH h) {f w:Str} (hr:dm h.grants f w≠0):ba f=true∧ba w=true:=by
 obtain⟨x,hx,e1,e2,_⟩:=zda hr
 have:=zlb ((ra g.grants).2.2.1 x hx)
 rw[← e1,← e2]
 exact⟨this.1,this.2.1⟩
theorem zd {h:Hub} (g:GoodH h) (f w:Str):(if (Gr.rightE h.grants f w).2≠0 then 0 else (Gr.rightE h.grants f w).1)=dm h.grants f w:=by
 have hE:Gr.rightE h.grants f w=if (ba f && ba w)=false then (0,1) else (dm h.grants f w,0):=by
  unfold Gr.rightE
  rw[if_neg (by simp[g.grants])]
 rw[hE]
 by_cases hn:(ba f && ba w)=false
 ·rw[if_pos hn]
  by_cases hr:dm h.grants f w=0
  ·simp[hr]
  ·have:=vr g hr
   simp[this] at hn
 ·rw[if_neg hn]
  simp
theorem zgi {h:Hub} (g:GoodH h) {f w:Str} (hn:¬ ((Gr.rightE h.grants f w).2=0∧2≤(Gr.rightE h.grants f w).1)):dm h.grants f w<2:=by
 have:=zd g f w
 by_cases h0:(Gr.rightE h.grants f w).2=0
 ·rw[if_neg (by simp[h0])] at this
  omega
 ·rw[if_pos h0] at this
  omega
theorem zch {x h:Hub} (gx:GoodH x) (g:GoodH h) (e:x.folders=h.folders) (f:Str):eu x f=eu h f:=by
 rw[iv gx,iv g]
 unfold jnAt
 rw[e]
theorem zlf {h:Hub} {r:Request} (g:GoodH h) (hk:r.kind≠8) {f:Str} (hr:dm h.grants f r.who<2):eu (bi h r).1 f=eu h f:=by
 by_cases hf:r.folder=f
 ·subst hf
  have gx:=gj (r:=r) g
  have key:(bi h r).1.folders=h.folders:=by
   unfold bi
   split
   ·rfl
   ·rename_i h0
    have s:=(zb (Classical.not_not.1 h0)).2
    have hm:mayE h r 2≠0:=by rw[mayE,if_pos hr];decide
    generalize (bd h r).1=y at s ⊢
    generalize (bd h r).2.1=a at s
    show y.folders=h.folders
    cases s with
    | make k e=>exact absurd k hk
    | give k e=>rw[(ne g e).2.1]
    | page k e=>rfl
    | opens k e=>rfl
    | app k e=>rfl
    | query k e=>rfl
    | fin k m e=>exact absurd m hm
    | com k m e=>exact absurd m hm
  exact zch gx g key _
 ·exact zbw (gj g) g (uu g hf)
theorem zkv {h:Hub} {r:Request} (hk:1≤r.kind∧r.kind≤8) (hn:ba r.who=false):(bi h r).2.err=1:=by
 have:bd h r=(h,noA,1):=by rw[bd,if_neg (by omega),if_pos hn]
 rw[bi,this,if_pos (by simp)]
theorem yp {h:Hub} {r:Request} (hk:r.kind=1) (hn:ba r.who=true) (hr:dm h.grants r.folder r.who<2):(bi h r).2.err=9:=by
 have hm:mayE h r 2=9:=by rw[mayE,if_pos hr]
 have:bd h r=(h,noA,9):=by
  rw[bd,if_neg (by omega),if_neg (by simp[hn]),if_neg (by omega),if_neg (by omega),if_neg (by omega),if_neg (by omega),if_neg (by omega),if_neg (by omega),if_pos (by simp[hm]),hm]
 rw[bi,this,if_pos (by simp)]
theorem wa {h:Hub} {r:Request} (hk:r.kind=2∨r.kind=3) (hn:ba r.who=true) (hr:dm h.grants r.folder r.who<1):(bi h r).2.err=9:=by
 have hm:mayE h r 1=9:=by rw[mayE,if_pos hr]
 rcases hk with hk|hk
 ·have hp:jk h r=(noG,9):=by rw[jk,if_pos (by simp[hm]),hm]
  have:bd h r=(h,⟨0,0,noG⟩,9):=by
   rw[bd,if_neg (by omega),if_neg (by simp[hn]),if_neg (by omega),if_neg (by omega),if_pos hk,hp]
  rw[bi,this,if_pos (by simp)]
 ·have hp:qj h r=9:=by rw[qj,if_pos (by simp[hm]),hm]
  have:bd h r=(qs h r,noA,9):=by
   rw[bd,if_neg (by omega),if_neg (by simp[hn]),if_neg (by omega),if_pos hk,hp]
  rw[bi,this,if_pos (by simp)]
end Go.VM.Tryz
end
section
open Go Go.VM Go.Proofs Tether
namespace Go.VM.Tryz
theorem HubDenies_c (h:Hub) (r:Request) (ok:dz h) (okr:okRq r):Meets Tryz.prog 9 [.agg (hubE h),.agg (rqE r)] (.bool true) []:=by
 refine an (fn:=Tryz.f9) Tryz.func9 rfl fb9 (by kernel_rfl) (Nat.le_of_ble_eq_true rfl) ?_
 have hw:r.who.length<4611686018427387904:=by have:=okr.1;omega
 have hfl:=ok.1.1
 refine aa ?_
 simp only[go_sem]
 repeat first|(with_reducible refine ad ?_ ?_;exact byD)|(with_reducible refine ae ?_ ?_;exact byQ)
 refine ab ?_
 refine aa ?_
 simp only[go_sem]
 refine cw_m (iq) byW byT ?_
 simp only[go_sem]
 intro t20 e20
 refine⟨_,fun hp=>cw_m (Gr.grantBegun_c) byW byT ⟨rfl,rfl⟩, ?_⟩
 simp only[go_sem]
 intro t23 e23
 intro t24 e24
 rw[az] at e24
 subst e20 e23 e24
 refine ah _ rfl (fun h24=>ew h24) (fun h24=>?_)
 refine ag ?_
 (try simp only[go_sem])
 refine aa ?_
 simp only[go_sem]
 refine cw_m (np h r ok okr) byW byT ?_
 simp only[go_sem]
 refine ab ?_
 refine aa ?_
 simp only[go_sem]
 intro t33 e33
 intro t37 e37
 intro t38 e38
 rw[az] at e38
 subst e33 e37 e38
 refine ah _ rfl (fun h38=>?_) (fun h38=>?_)
 ·
  (try simp only[go_sem] at h38)
  refine aa ?_
  simp only[go_sem]
  refine af ?_
  simp only[go_sem]
  exact aq rfl
 ·
  (try simp only[go_sem] at h38)
  have hk8:(dg h r).2.2=0∧r.kind≠8:=by
   have h38':=h38
   try simp at h38'
   grind
  have g:=tv hk8.1
  have hp:=jt (r:=r) g
  obtain⟨m1,m2⟩:=kn ok okr g
  have g2:=gj (r:=r) g
  have hrv:=zd g r.folder r.who
  rw[hp]
  dsimp only
  refine ag ?_
  (try simp only[go_sem])
  refine aa ?_
  simp only[go_sem]
  refine cw_m (Gr.Right_c h.grants ok.2.1.good r.folder r.who (by have:=okr.2.1;omega) hw) byW byT ?_
  simp only[go_sem]
  refine ab ?_
  refine aa ?_
  simp only[go_sem]
  intro t50 e50
  subst e50
  refine zp (σ:=Unit) (fun u=>True) (fun u=>[⟨8,0,[],.int .i64 (dm h.grants r.folder r.who)⟩]) [2,3,4,5,6] (Nat.zero_le _) ?_ (fun u hIM1=>?_)
  ·
   refine ah _ rfl (fun h50=>?_) (fun h50=>?_)
   ·
    (try simp only[go_sem] at h50)
    refine aj ?_
    simp only[go_sem]
    refine gi () trivial ?_
    rw[← hrv,if_pos (by simpa using h50)]
    exact byC
   ·
    (try simp only[go_sem] at h50)
    refine ag ?_
    (try simp only[go_sem])
    refine gi () trivial ?_
    rw[← hrv,if_neg (by simpa using h50)]
    exact byC
  simp only[go_sem]
  refine ab ?_
  refine aa ?_
  simp only[go_sem]
  repeat first|(with_reducible refine ad ?_ ?_;exact byD)|(with_reducible refine ae ?_ ?_;exact byQ)
  refine ai ?_
  refine bm (σ:=Nat) (fun i=>i≤h.folders.length) (fun i=>[⟨10,0,[],.int .i64 (i:Nat)⟩]) [2,3,5,6,8] (fun i=>h.folders.length-i) 0 (by first|trivial|omega|simp) (Nat.zero_le _) byC (fun i hI1=>?_)
  simp only[go_sem]
  refine ab ?_
  refine aa ?_
  simp only[go_sem]
  repeat first|(with_reducible refine ad ?_ ?_;exact byD)|(with_reducible refine ae ?_ ?_;exact byQ)
  intro t55 e55
  subst e55
  refine ah _ rfl (fun h55=>?_) (fun h55=>?_)
  ·
   (try simp only[go_sem] at h55)
   have hm:=ok.1.2 _ (bj (l:=h.folders) (d:=default) (show i<h.folders.length by omega))
   have hmg:=g.each _ (bj (l:=h.folders) (d:=default) (show i<h.folders.length by omega))
   have hfx:=zxr g.sorted (i:=i) (show i<h.folders.length by omega)
   refine ag ?_
   (try simp only[go_sem])
   refine ab (ai ?_)
   refine aa ?_
   simp only[go_sem]
   repeat first|(with_reducible refine ad ?_ ?_;exact byD)|(with_reducible refine ae ?_ ?_;exact byQ)
   refine aa ?_
   simp only[go_sem]
   refine cw_m (Gr.Right_c h.grants ok.2.1.good (h.folders.getD i default).name r.who (by have:=hm.1;omega) hw) byW byT ?_
   simp only[go_sem]
   refine ab ?_
   refine aa ?_
   simp only[go_sem]
   intro t74 e74
   intro t77 e77
   intro t78 e78
   rw[ar] at e78
   subst e74 e77 e78
   refine ah _ rfl (fun h78=>?_) (fun h78=>?_)
   ·
    (try simp only[go_sem] at h78)
    refine bk ?_
    simp only[go_sem]
    refine aj ?_
    simp only[go_sem]
    intro t57 e57
    (try replace e57:=w64 e57 (by omega) (by omega))
    refine ay (i+1) (by omega) (by first|omega|(dsimp only;omega)) byC
   ·
    (try simp only[go_sem] at h78)
    have hlt:=zgi g (f:=(h.folders.getD i default).name) (w:=r.who) (fun hc=>by rcases h78 with h1|h1;exact h1 hc.1;exact h1 hc.2)
    have hT:=zlf g hk8.2 hlt
    have hz:(eu h (h.folders.getD i default).name).2=0:=by
     rw[iv g,if_pos hfx.2]
     unfold jnAt
     rw[hfx.1]
     exact hmg.2
    have hl:=vj ok g (h.folders.getD i default).name
    refine ag ?_
    (try simp only[go_sem])
    refine aa ?_
    simp only[go_sem]
    refine cw_m (vl h (h.folders.getD i default).name ok) byW byT ?_
    simp only[go_sem]
    refine aa ?_
    simp only[go_sem]
    have hS:=vl (bi h r).1 (h.folders.getD i default).name m1
    rw[hT] at hS
    refine cw_m hS byW byT ?_
    simp only[go_sem]
    refine aa ?_
    simp only[go_sem]
    intro t92 e92
    intro t95 e95
    intro t96 e96
    rw[az] at e96
    refine⟨_,fun hp=>cw_m (jz (eu h (h.folders.getD i default).name).1 (eu h (h.folders.getD i default).name).1 (by omega) (by omega)) byW byT ⟨rfl,rfl⟩, ?_⟩
    simp only[go_sem]
    intro t101 e101
    intro t102 e102
    rw[az] at e102
    subst e92 e95 e96 e101 e102
    refine ah _ rfl (fun h102=>?_) (fun h102=>?_)
    ·exfalso;simp[sameL] at h102;exact h102 (by simpa using hz)
    ·
     (try simp only[go_sem] at h102)
     refine ag ?_
     (try simp only[go_sem])
     refine aj ?_
     simp only[go_sem]
     intro t57 e57
     (try replace e57:=w64 e57 (by omega) (by omega))
     refine ay (i+1) (by omega) (by first|omega|(dsimp only;omega)) byC
  ·
   (try simp only[go_sem] at h55)
   refine bk ?_
   simp only[go_sem]
   refine aa ?_
   simp only[go_sem]
   intro t105 e105
   intro t109 e109
   intro t110 e110
   rw[az] at e110
   intro t114 e114
   intro t115 e115
   rw[az] at e115
   subst e105 e109 e110 e114 e115
   refine ab ?_
   refine aa ?_
   simp only[go_sem]
   intro t119 e119
   intro t120 e120
   rw[ar] at e120
   subst e119 e120
   refine ah _ rfl (fun h120=>?_) (fun h120=>?_)
   ·
    (try simp only[go_sem] at h120)
    refine aa ?_
    simp only[go_sem]
    intro t123 e123
    refine⟨_,fun hp=>cw_m (zdj r.who hw) byW byT ⟨rfl,rfl⟩, ?_⟩
    simp only[go_sem]
    intro t128 e128
    intro t132 e132
    intro t133 e133
    rw[ar] at e133
    intro t134 e134
    rw[az] at e134
    subst e123 e128 e132 e133 e134
    refine af ?_
    simp only[go_sem]
    refine aq ?_
    have hq:(r.kind=2∨r.kind=1∨r.kind=3)∧dm h.grants r.folder r.who=0:=by
     have h120':=h120
     try simp at h120'
     grind
    have hk18:1≤r.kind∧r.kind≤8:=by rcases hq.1 with k|k|k<;>omega
    have hr0:=hq.2
    by_cases hn:ba r.who=true
    ·have h9:(bi h r).2.err=9:=by
      rcases hq.1 with k|k|k
      ·exact wa (.inl k) hn (by omega)
      ·exact yp k hn (by omega)
      ·exact wa (.inr k) hn (by omega)
     simp[h9]
    ·have hn:ba r.who=false:=by simpa using hn
     have h1:=zkv (h:=h) (r:=r) hk18 hn
     simp[h1,hn]
   ·
    (try simp only[go_sem] at h120)
    refine ag ?_
    (try simp only[go_sem])
    refine aa ?_
    simp only[go_sem]
    intro t137 e137
    intro t140 e140
    intro t141 e141
    rw[az] at e141
    intro t145 e145
    intro t146 e146
    rw[az] at e146
    subst e137 e140 e141 e145 e146
    refine af ?_
    simp only[go_sem]
    refine aq ?_
    have hq:¬ ((r.kind=2∨r.kind=1∨r.kind=3)∧dm h.grants r.folder r.who=0):=by
     have h120':=h120
     try simp at h120'
     grind
    by_cases hk:r.kind=1
    ·by_cases hr:2≤dm h.grants r.folder r.who
     ·simp[hr]
     ·have hn:=(vr g (f:=r.folder) (w:=r.who) (fun e=>hq ⟨.inr (.inl hk),e⟩)).2
      have h9:=yp (h:=h) hk hn (by omega)
      simp[h9]
    ·simp[hk]
end Go.VM.Tryz
end
