import Derived.Test.YtmbnphmhaoomoaaGreatDoorAW13
set_option maxHeartbeats 4000000
set_option linter.unusedVariables false
set_option linter.unusedSimpArgs false
set_option maxRecDepth 100000
section
open Go Go.VM Go.Proofs Tether
namespace Go.VM.Tryz
def jnAt (h:Hub) (f:Str):Journal:=(h.folders.getD (fIx h.folders f) default).jn
structure LikeAt (x h:Hub) (f:Str):Prop where
 right:∀ w,dm x.grants f w=dm h.grants f w
 has:hasF x.folders f=hasF h.folders f
 jn:hasF h.folders f=true→jnAt x f=jnAt h f
theorem at_mem {l:List Shared} (hs:fo l) {s:Shared} (hm:s∈l):hasF l s.name=true∧l.getD (fIx l s.name) default=s:=by
 obtain⟨i,hi,rfl⟩:=List.getElem_of_mem hm
 have e:l.getD i default=l[i]:=by simp[List.getD,hi]
 obtain⟨h1,h2⟩:=zxr hs hi
 rw[e] at h1 h2
 exact⟨h2,by rw[h1,e]⟩
theorem zcb {l:List Shared} {f:Str} (hh:hasF l f=true):l.getD (fIx l f) default∈l∧(l.getD (fIx l f) default).name=f∧fIx l f<l.length:=by
 rw[lw] at hh
 simp only[Bool.and_eq_true,decide_eq_true_eq] at hh
 exact⟨bj hh.1,hh.2,hh.1⟩
theorem LikeAt.refl (h:Hub) (f:Str):LikeAt h h f:=⟨fun _=>rfl,rfl,fun _=>rfl⟩
theorem zqm {h:Hub} {p f:Str} {j:Journal} (hne:p≠f) (hh:hasF h.folders p=true):LikeAt (setJ h p j) h f:=by
 refine⟨fun _=>rfl,zha h p f j,fun hf=>?_⟩
 unfold jnAt
 rw[uo]
 have h1:=zcb hh
 have h2:=zcb hf
 have hix:fIx h.folders p≠fIx h.folders f:=fun e=>hne (by rw[← h1.2.1,e,h2.2.1])
 simp[setJ,List.getD,List.getElem?_set,hix]
theorem LikeAt.ups {x h:Hub} {f:Str} (l:LikeAt x h f) (u:Uploads):LikeAt { x with ups:=u } h f:=⟨l.right,l.has,l.jn⟩
theorem zhc {h:Hub} {o:Request} {f:Str} {l:List Change} (hne:o.folder≠f) (hh:hasF h.folders o.folder=true):LikeAt (comH h o l) h f:=by
 unfold comH
 split
 ·exact zqm hne hh
 ·exact .refl h f
theorem zdl {h:Hub} {o:Request} (g:GoodH h) {x:Hub} {a:Answer} (s:Served h o x a) {f:Str} (hne:o.folder≠f):LikeAt x h f:=by
 cases s with
 | make k e =>
   obtain⟨f1,f2,f3,f4,f5⟩:=zf g e
   have gx:=zhg g e
   have hhas:hasF (creH h o).folders f=hasF h.folders f:=by
    rw[Bool.eq_iff_iff,ld gx.sorted,ld g.sorted]
    constructor
    ·rintro⟨s,hs,rfl⟩
     rcases newF_mem.1 hs with rfl|hs
     ·exact absurd rfl hne
     ·exact⟨s,hs,rfl⟩
    ·rintro⟨s,hs,rfl⟩
     exact⟨s,newF_mem.2 (.inr hs),rfl⟩
   refine⟨fun w=>?_,hhas,fun hf=>?_⟩
   ·show dm (Gr.makeG h.grants o.folder o.who).1 f w=_
    rw[f2]
    exact yy g.gsorted fun hc=>hne hc.1.symm
   ·obtain⟨m1,m2,_⟩:=zcb hf
    have m3:h.folders.getD (fIx h.folders f) default∈(creH h o).folders:=newF_mem.2 (.inr m1)
    have:=(at_mem gx.sorted m3).2
    rw[m2] at this
    unfold jnAt
    rw[this]
 | give k e =>
   obtain⟨f1,f2,f3⟩:=ne g e
   rw[f2]
   exact⟨fun w=>yy g.gsorted fun hc=>hne hc.1.symm,rfl,fun _=>rfl⟩
 | page k e=>exact .refl h f
 | opens k e=>exact (LikeAt.refl h f).ups _
 | app k e=>exact (LikeAt.refl h f).ups _
 | query k e=>exact .refl h f
 | fin k m e =>
   unfold finP
   split
   ·exact .refl h f
   ·dsimp only
    split
    ·exact (zhc hne (gn g (by decide) m)).ups _
    ·exact .refl h f
 | com k m e=>exact zhc hne (gn g (by decide) m)
theorem uu {h:Hub} {o:Request} (g:GoodH h) {f:Str} (hne:o.folder≠f):LikeAt (bi h o).1 h f:=by
 unfold bi
 split
 ·exact .refl h f
 ·rename_i h0
  exact zdl g (zb (Classical.not_not.1 h0)).2 hne
theorem iv {h:Hub} (g:GoodH h) (f:Str):eu h f=if hasF h.folders f=true then bl (jnAt h f) else ([],5):=by
 rw[eu,if_neg (by simp[checkH_good.2 g])]
 cases hasF h.folders f<;>rfl
theorem zbw {x h:Hub} {f:Str} (gx:GoodH x) (g:GoodH h) (l:LikeAt x h f):eu x f=eu h f:=by
 rw[iv gx,iv g,l.has]
 split
 ·rename_i hf
  rw[l.jn hf]
 ·rfl
theorem zz {x h:Hub} {r:Request} (l:LikeAt x h r.folder) (k:Int):mayE x r k=mayE h r k:=by
 unfold mayE
 rw[l.right]
theorem zdr {h:Hub} {f:Str} {j:Journal} (g:GoodH (setJ h f j)) (hh:hasF h.folders f=true):eu (setJ h f j) f=bl j:=by
 rw[iv g,zha,if_pos hh]
 unfold jnAt
 rw[uo,zez (zcb hh).2.2]
theorem zdv {x h:Hub} {r:Request} (gx:GoodH x) (g:GoodH h) (l:LikeAt x h r.folder) (hk:r.kind=2∨r.kind=1) :
  (bi x r).2=(bi h r).2∧eu (bi x r).1 r.folder=eu (bi h r).1 r.folder:=by
 have hT:=zbw gx g l
 by_cases hn:ba r.who=true
 ·rcases hk with hk|hk
  ·have hS:∀ y:Hub,bd y r=(y,⟨0,0,(jk y r).1⟩,(jk y r).2):=fun y=>by
    rw[bd,if_neg (by omega),if_neg (by simp[hn]),if_neg (by omega),if_neg (by omega),if_pos hk]
   have hp:jk x r=jk h r:=by
    unfold jk
    rw[zz l]
    split
    ·rfl
    ·rename_i hm
     have hh:=gn g (Int.le_refl 1) (Classical.not_not.1 hm)
     have:=l.jn hh
     unfold jnAt at this
     rw[this]
   have hR:∀ y:Hub,(bi y r).1=y∧(bi y r).2=if (jk y r).2≠0 then ⟨(jk y r).2,0,noG⟩ else ⟨0,0,(jk y r).1⟩:=fun y=>by
    unfold bi
    rw[hS]
    dsimp only
    split<;>exact⟨rfl,rfl⟩
   rw[(hR x).1,(hR x).2,(hR h).1,(hR h).2,hp]
   exact⟨rfl,hT⟩
  ·by_cases hm:mayE h r 2=0
   ·have hmx:mayE x r 2=0:=by rw[zz l];exact hm
    have hh:=gn g (by decide) hm
    have hhx:=gn gx (by decide) hmx
    have hP:comP x r r.changes=comP h r r.changes:=by
     have:=l.jn hh
     unfold jnAt at this
     unfold comP
     rw[this]
    have e1:=pq hk hn hmx
    have e2:=pq hk hn hm
    rw[hP] at e1
    unfold bi
    rw[e1,e2]
    dsimp only
    split
    ·exact⟨rfl,hT⟩
    ·rename_i hz
     have hz:(comP h r r.changes).2.2=0:=Classical.not_not.1 hz
     refine⟨rfl, ?_⟩
     have gc1:=ur (l:=r.changes) gx hhx
     have gc2:=ur (l:=r.changes) g hh
     have c1:comH x r r.changes=setJ x r.folder (comP h r r.changes).1:=by rw[comH,hP,if_pos hz]
     have c2:comH h r r.changes=setJ h r.folder (comP h r r.changes).1:=by rw[comH,if_pos hz]
     rw[c1] at gc1 ⊢
     rw[c2] at gc2 ⊢
     rw[zdr gc1 hhx,zdr gc2 hh]
   ·have hS:∀ y:Hub,mayE y r 2=mayE h r 2→bi y r=(y,⟨mayE h r 2,0,noG⟩):=fun y hy=>by
     have:bd y r=(y,noA,mayE h r 2):=by
      rw[bd,if_neg (by omega),if_neg (by simp[hn]),if_neg (by omega),if_neg (by omega),if_neg (by omega),if_neg (by omega),if_neg (by omega),if_neg (by omega),if_pos (by rw[hy];exact hm),hy]
     rw[bi,this,if_pos hm]
    rw[hS x (zz l 2),hS h rfl]
    exact⟨rfl,hT⟩
 ·have hS:∀ y:Hub,bi y r=(y,⟨1,0,noG⟩):=fun y=>by
   have:bd y r=(y,noA,1):=by rw[bd,if_neg (by omega),if_pos (by simpa using hn)]
   rw[bi,this,if_pos (by simp)]
  rw[hS x,hS h]
  exact⟨rfl,hT⟩
end Go.VM.Tryz
end
section
open Go Go.VM Go.Proofs Tether
namespace Go.VM.Tryz
theorem tv {h:Hub} {r:Request} (hz:(dg h r).2.2=0):GoodH h:=by
 refine checkH_good.1 (Classical.byContradiction fun hc=>?_)
 rw[dg,if_pos hc] at hz
 exact hc hz
theorem vj {h:Hub} (ok:dz h) (g:GoodH h) (f:Str):(eu h f).1.length≤60:=by
 rw[iv g]
 split
 ·rename_i hh
  obtain⟨m1,m2,m3⟩:=zcb hh
  exact (nw (ok.1.2 _ m1).2 (g.each _ m1).2).len
 ·simp
theorem HubApart_c (h:Hub) (r o:Request) (ok:dz h) (okr:okRq r) (oko:okRq o):Meets Tryz.prog 7 [.agg (hubE h),.agg (rqE r),.agg (rqE o)] (.bool true) []:=by
 refine an (fn:=Tryz.f7) Tryz.func7 rfl fb7 (by kernel_rfl) (Nat.le_of_ble_eq_true rfl) ?_
 refine aa ?_
 simp only[go_sem]
 repeat first|(with_reducible refine ad ?_ ?_;exact byD)|(with_reducible refine ae ?_ ?_;exact byQ)
 refine ab ?_
 refine aa ?_
 simp only[go_sem]
 refine cw_m (iq) byW byT ?_
 simp only[go_sem]
 intro t18 e18
 intro t22 e22
 intro t26 e26
 intro t27 e27
 rw[ar] at e27
 intro t28 e28
 rw[az] at e28
 intro t34 e34
 intro t35 e35
 rw[az] at e35
 subst e18 e22 e26 e27 e28 e34 e35
 refine ah _ rfl (fun h35=>?_) (fun h35=>?_)
 ·
  (try simp only[go_sem] at h35)
  refine aa ?_
  simp only[go_sem]
  refine cw_m (iq) byW byT ?_
  simp only[go_sem]
  refine af ?_
  simp only[go_sem]
  exact aq rfl
 ·
  (try simp only[go_sem] at h35)
  refine ag ?_
  (try simp only[go_sem])
  refine aa ?_
  simp only[go_sem]
  refine cw_m (np h o ok oko) byW byT ?_
  simp only[go_sem]
  refine ab ?_
  refine aa ?_
  simp only[go_sem]
  intro t45 e45
  subst e45
  refine ah _ rfl (fun h45=>?_) (fun h45=>?_)
  ·
   (try simp only[go_sem] at h45)
   refine aa ?_
   simp only[go_sem]
   refine af ?_
   simp only[go_sem]
   exact aq rfl
  ·
   (try simp only[go_sem] at h45)
   have hz:(dg h o).2.2=0:=by simpa using h45
   have g:=tv hz
   have hp:=jt (r:=o) g
   obtain⟨m1,m2⟩:=kn ok oko g
   have g2:=gj (r:=o) g
   have hk:(r.kind=2∨r.kind=1)∧o.folder≠r.folder:=by
    have h35':=h35
    try simp at h35'
    grind
   have hA:=zdv g2 g (uu (o:=o) g hk.2) hk.1
   have hq:=jt (r:=r) g
   have hq2:=jt (r:=r) g2
   obtain⟨n1,n2⟩:=kn ok okr g
   obtain⟨n3,n4⟩:=kn m1 okr g2
   have g3:=gj (r:=r) g
   have g4:=gj (r:=r) g2
   have hl1:=vj n1 g3 r.folder
   have hl2:=vj n3 g4 r.folder
   rw[hp]
   dsimp only
   refine ag ?_
   (try simp only[go_sem])
   refine aa ?_
   simp only[go_sem]
   have hS:=np h r ok okr
   rw[hq] at hS
   refine cw_m hS byW byT ?_
   simp only[go_sem]
   refine aa ?_
   simp only[go_sem]
   have hS:=np (bi h o).1 r m1 okr
   rw[hq2] at hS
   refine cw_m hS byW byT ?_
   simp only[go_sem]
   refine ab ?_
   refine aa ?_
   simp only[go_sem]
   intro t61 e61
   intro t64 e64
   intro t65 e65
   rw[az] at e65
   refine⟨_,fun hp=>cw_m (pb (bi h r).2 (bi (bi h o).1 r).2 n2 n4) byW byT ⟨rfl,rfl⟩, ?_⟩
   simp only[go_sem]
   intro t70 e70
   intro t71 e71
   rw[az] at e71
   subst e61 e64 e65 e70 e71
   refine ah _ rfl (fun h71=>?_) (fun h71=>?_)
   ·exfalso;simp[hA.1] at h71
   ·
    (try simp only[go_sem] at h71)
    refine ag ?_
    (try simp only[go_sem])
    refine aa ?_
    simp only[go_sem]
    refine cw_m (vl (bi h r).1 r.folder n1) byW byT ?_
    simp only[go_sem]
    refine aa ?_
    simp only[go_sem]
    refine cw_m (vl (bi (bi h o).1 r).1 r.folder n3) byW byT ?_
    simp only[go_sem]
    refine aa ?_
    simp only[go_sem]
    intro t88 e88
    refine⟨_,fun hp=>cw_m (jz (eu (bi h r).1 r.folder).1 (eu (bi (bi h o).1 r).1 r.folder).1 (by omega) (by omega)) byW byT ⟨rfl,rfl⟩, ?_⟩
    simp only[go_sem]
    intro t93 e93
    rw[ar] at e93
    subst e88 e93
    refine af ?_
    simp only[go_sem]
    refine aq ?_
    rw[hA.2]
    simp[sameL]
end Go.VM.Tryz
end
