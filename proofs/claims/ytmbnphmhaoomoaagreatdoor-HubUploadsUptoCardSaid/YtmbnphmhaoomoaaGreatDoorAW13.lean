import Derived.Test.YtmbnphmhaoomoaaGreatDoorAW10
set_option maxHeartbeats 4000000
set_option linter.unusedVariables false
set_option linter.unusedSimpArgs false
set_option maxRecDepth 100000
open Go Go.VM Go.Proofs Tether
namespace Go.VM.Tryz
theorem uo (h:Hub) (p q:Str) (j:Journal):fIx (setJ h p j).folders q=fIx h.folders q:=by unfold fIx;rw[uj]
theorem zha (h:Hub) (p q:Str) (j:Journal):hasF (setJ h p j).folders q=hasF h.folders q:=by unfold hasF;rw[uj]
theorem zez {h:Hub} {p:Str} {j:Journal} (hix:fIx h.folders p<h.folders.length):(setJ h p j).folders.getD (fIx h.folders p) default=⟨(h.folders.getD (fIx h.folders p) default).name,j⟩:=by
 simp[setJ,List.getD,hix]
theorem zin {h:Hub} {p:Str} {j:Journal} (hix:fIx h.folders p<h.folders.length):setJ (setJ h p j) p j=setJ h p j:=by
 have e1:=uo h p p j
 have e2:=zez (h:=h) (p:=p) (j:=j) hix
 show ({ setJ h p j with folders:=(setJ h p j).folders.set (fIx (setJ h p j).folders p) ⟨((setJ h p j).folders.getD (fIx (setJ h p j).folders p) default).name,j⟩ }:Hub)=_
 rw[e1,e2]
 simp[setJ,List.set_set]
theorem pq {h:Hub} {r:Request} (k:r.kind=1) (hn:ba r.who=true) (m:mayE h r 2=0):bd h r=(comH h r r.changes,⟨0,(comP h r r.changes).2.1,noG⟩,(comP h r r.changes).2.2):=by
 rw[bd,if_neg (by omega),if_neg (by simp[hn]),if_neg (by omega),if_neg (by omega),if_neg (by omega),if_neg (by omega),if_neg (by omega),if_neg (by omega),if_neg (by simp[m]),if_neg (by omega)]
theorem twice {h:Hub} {r:Request} (g:GoodH h) (k:r.kind=1):bi (bi h r).1 r=bi h r:=by
 by_cases h0:(bd h r).2.2=0
 ·obtain⟨hn,s⟩:=zb h0
  have m:mayE h r 2=0:=by
   refine Classical.byContradiction fun m=>?_
   rw[bd,if_neg (by omega),if_neg (by simp[hn]),if_neg (by omega),if_neg (by omega),if_neg (by omega),if_neg (by omega),if_neg (by omega),if_neg (by omega),if_pos m] at h0
   exact m h0
  have hS:=pq k hn m
  have hz:(comP h r r.changes).2.2=0:=by rw[hS] at h0;exact h0
  have hR:bi h r=(comH h r r.changes,⟨0,(comP h r r.changes).2.1,noG⟩):=by rw[bi,hS,if_neg (by simp[hz])]
  have hC:comH h r r.changes=setJ h r.folder (comP h r r.changes).1:=by rw[comH,if_pos hz]
  rw[hR]
  show bi (comH h r r.changes) r=_
  rw[hC]
  have hh:=gn g (by decide) m
  have hix:fIx h.folders r.folder<h.folders.length:=by rw[lw] at hh;simp at hh;exact hh.1
  have m2:mayE (setJ h r.folder (comP h r r.changes).1) r 2=0:=m
  have hP:comP (setJ h r.folder (comP h r r.changes).1) r r.changes=((comP h r r.changes).1,(comP h r r.changes).2.1,0):=by
   unfold comP
   rw[uo]
   rw[zez hix]
   exact (once hz r.changes).2
  rw[bi,pq k hn m2,hP]
  rw[if_neg (by simp)]
  have hC2:comH (setJ h r.folder (comP h r r.changes).1) r r.changes=setJ h r.folder (comP h r r.changes).1:=by
   rw[comH,hP,if_pos rfl]
   exact zin hix
  rw[hC2]
 ·have hR:bi h r=(h,⟨(bd h r).2.2,0,noG⟩):=by rw[bi,if_pos h0]
  rw[hR]
  exact hR
theorem HubTwice_c (h:Hub) (r:Request) (ok:dz h) (okr:okRq r):Meets Tryz.prog 8 [.agg (hubE h),.agg (rqE r)] (.bool true) []:=by
 refine an (fn:=Tryz.f8) Tryz.func8 rfl fb8 (by kernel_rfl) (Nat.le_of_ble_eq_true rfl) ?_
 have okr1:okRq { r with kind:=1 }:=okr
 obtain⟨k1,k2⟩:=sb ok okr1
 refine aa ?_
 simp only[go_sem]
 repeat first|(with_reducible refine ad ?_ ?_;exact byD)|(with_reducible refine ae ?_ ?_;exact byQ)
 refine ab ?_
 refine aa ?_
 simp only[go_sem]
 refine cw_m (iq) byW byT ?_
 simp only[go_sem]
 intro t11 e11
 subst e11
 refine ah _ rfl (fun h11=>ew h11) (fun h11=>?_)
 refine ag ?_
 (try simp only[go_sem])
 refine aa ?_
 simp only[go_sem]
 refine aa ?_
 simp only[go_sem]
 refine cw_m (np h { r with kind:=1 } ok okr1) byW byT ?_
 simp only[go_sem]
 refine ab ?_
 refine aa ?_
 simp only[go_sem]
 intro t21 e21
 subst e21
 refine ah _ rfl (fun h21=>?_) (fun h21=>?_)
 ·
  (try simp only[go_sem] at h21)
  refine aa ?_
  simp only[go_sem]
  refine af ?_
  simp only[go_sem]
  exact aq (by simp)
 ·
  (try simp only[go_sem] at h21)
  have hc:dn h=0:=by
   refine Classical.byContradiction fun hc=>?_
   have hp:dg h { r with kind:=1 }=(noH,noA,dn h):=by rw[dg,if_pos hc]
   rw[hp] at h21
   exact hc (by simpa using h21)
  have g:=checkH_good.1 hc
  have hp:=jt (r:={ r with kind:=1 }) g
  obtain⟨m1,m2⟩:=kn ok okr1 g
  have g2:=gj (r:={ r with kind:=1 }) g
  have hp2:=jt (r:={ r with kind:=1 }) g2
  rw[twice g rfl] at hp2
  have hS:=np (bi h { r with kind:=1 }).1 { r with kind:=1 } m1 okr1
  rw[hp2] at hS
  dsimp only at hS
  rw[hp]
  dsimp only
  refine ag ?_
  (try simp only[go_sem])
  refine aa ?_
  simp only[go_sem]
  refine cw_m (hS) byW byT ?_
  simp only[go_sem]
  refine aa ?_
  simp only[go_sem]
  intro t30 e30
  refine⟨_,fun hp=>cw_m (pb (bi h { r with kind:=1 }).2 (bi h { r with kind:=1 }).2 m2 m2) byW byT ⟨rfl,rfl⟩, ?_⟩
  simp only[go_sem]
  intro t35 e35
  rw[ar] at e35
  refine⟨_,fun hp=>cw_m (ly (bi h { r with kind:=1 }).1 (bi h { r with kind:=1 }).1 m1 m1) byW byT ⟨rfl,rfl⟩, ?_⟩
  simp only[go_sem]
  intro t40 e40
  rw[ar] at e40
  subst e30 e35 e40
  refine af ?_
  simp only[go_sem]
  exact aq (by simp)
end Go.VM.Tryz
