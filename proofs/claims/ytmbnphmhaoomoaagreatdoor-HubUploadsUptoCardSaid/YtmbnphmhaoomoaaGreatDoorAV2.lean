import Derived.Test.YtmbnphmhaoomoaaGreatDoorAV1
import Derived.Laws.Build
import Derived.MapKept
import Derived.Lib.Overlaps
import Derived.Laws.Externs
import Derived.Laws.BytesArg
import Derived.Orders
import Derived.Deep.LoopGhost
set_option linter.unusedVariables false
set_option linter.unusedSimpArgs false
set_option linter.unnecessarySimpa false
set_option maxHeartbeats 4000000
section
namespace Go.VM
structure Rd (c:Ctx) (es m:Nat) (g:Nat→List V) (A:Option Addr) (news:List Value):Prop where
 len:news.length=m*es
 get:∀ (j:Nat) v,news[j]? = some v→∃ a,A=some a∧c.w.cell? (a.add j)=some v
 elt:∀ i,i<m→(g i).length=es∧One es (fun j=>news[i*es+j]?)∧VRs c (g i) fun j=>news[i*es+j]?
section
variable {P:Program} {F:Fr} {c:Ctx} {H:Heap}
theorem Rd.of {es m:Nat} (hes:es≠0) {g:Nat→List V} {A:Option Addr}
  (h:∀ i,i<m→∃ a,A=some a∧(g i).length=es∧One es (fun j=>c.w.cell? (a.add (i*es+j)))∧VRs c (g i) fun j=>c.w.cell? (a.add (i*es+j))):∃ news,Rd c es m g A news:=by
 let cl:Nat→Option Value:=fun q=>match A with|some a=>c.w.cell? (a.add q)|none=>none
 have hcl:∀ q,q<m*es→∃ v,cl q=some v:=by
  intro q hq
  have hi:q / es<m:=Nat.div_lt_of_lt_mul (by rw[Nat.mul_comm];exact hq)
  obtain⟨a,rfl,h1,_,h3⟩:=h (q / es) hi
  have hj:q % es<(g (q / es)).length:=by rw[h1];exact Nat.mod_lt _ (by omega)
  obtain⟨u,hu,_⟩:=de h3 (qu _ _ hj)
  have hq':q / es*es+q % es=q:=by rw[Nat.mul_comm];exact Nat.div_add_mod q es
  rw[hq'] at hu
  exact⟨u,hu⟩
 refine⟨(List.range (m*es)).map fun q=>(cl q).getD undef,⟨by simp, ?_, ?_⟩⟩
 ·intro j v hj
  simp only[List.getElem?_map,Option.map_eq_some_iff] at hj
  obtain⟨q,hq,rfl⟩:=hj
  have hjl:j<m*es:=by simpa using (List.getElem?_eq_some_iff.1 hq).1
  rw[List.getElem?_range hjl] at hq
  cases hq
  obtain⟨v,hv⟩:=hcl j hjl
  rw[hv]
  cases A with
  | none=>cases hv
  | some a=>exact⟨a,rfl,hv⟩
 ·intro i hi
  obtain⟨a,rfl,h1,h2,h3⟩:=h i hi
  have key:∀ j,j<es→((List.range (m*es)).map fun q=>(cl q).getD undef)[i*es+j]? = c.w.cell? (a.add (i*es+j)):=by
   intro j hj
   have hlt:i*es+j<m*es:=by
    have:(i+1)*es≤m*es:=Nat.mul_le_mul_right _ hi
    rw[Nat.add_mul,Nat.one_mul] at this
    omega
   rw[List.getElem?_map,List.getElem?_range hlt]
   obtain⟨v,hv⟩:=hcl _ hlt
   simp only[Option.map_some,hv,Option.getD_some]
   exact hv.symm
  exact⟨h1,h2.mono key,br h3 fun j hj=>key j (by omega)⟩
theorem Rd.mono {c':Ctx} {es m:Nat} {g:Nat→List V} {A:Option Addr} {news:List Value} (h:Rd c es m g A news) (hle:Le c c') (hw:c'.w.heap=c.w.heap):Rd c' es m g A news :=
 ⟨h.len,fun j v hj=>by
  obtain⟨a,ha,hc⟩:=h.get j v hj
  exact⟨a,ha,by simpa [World.cell?,hw] using hc⟩,fun i hi=>⟨(h.elt i hi).1,(h.elt i hi).2.1,fa hle _ _ _ (fun _ _ h=>h) (h.elt i hi).2.2⟩⟩
theorem Rd.first {es m:Nat} {g:Nat→List V} {A:Option Addr} {news:List Value} (h:Rd c es m g A news) (n cap:Nat):(Builtin.firstCells es m (.slice A n cap)).run P c.w = .ok news.toArray c.w:=by
 cases A with
 | none =>
   have:news=[]:=by
    cases news with
    | nil=>rfl
    | cons v vs=>obtain⟨a,ha,_⟩:=h.get 0 v rfl;cases ha
   subst this
   exact run_firstCells_none c.w es m n cap
 | some a =>
   refine run_firstCells_some c.w es m a n cap news h.len fun j v hj=>?_
   obtain⟨a',ha,hc⟩:=h.get j v hj
   cases ha
   exact hc
theorem fe (hs:SR F c H) {es:Nat} (hes:es≠0) {x:V} {u:Value} (hx:VR c x u) {q:Prop} {m:Nat} {g:Nat→List V} (h:view es H x=some (q,m,g)) (hq:q) :
  ∃ A cap news,u = .slice A m cap∧m≤cap∧Rd c es m g A news:=by
 unfold view at h
 split at h
 ·cases h
  simp only[VR] at hx
  subst hx
  obtain⟨news,hn⟩:=Rd.of (c:=c) (m:=0) (g:=fun _=>[]) (A:=none) hes (fun i hi=>by omega)
  exact⟨none,0,news,rfl,Nat.le_refl _,hn⟩
 ·rename_i nl t e' n f
  cases hb:Nat.beq es e' with
  | false=>rw[hb] at h;cases h
  | true =>
    rw[hb] at h
    obtain rfl:=be hb
    simp only[cond,Option.some.injEq,Prod.mk.injEq] at h
    obtain⟨-,e1,e2⟩:=h
    rw[← e1,← e2]
    simp only[VR] at hx
    obtain⟨A,cap,rfl,h2,h3,h4,h5,h6⟩:=hx
    obtain⟨news,hn⟩:=Rd.of (c:=c) (m:=n) (g:=f) (A:=A) hes (fun i hi=>by
     obtain⟨a,ha,_,k1,k2,k3⟩:=h6 i hi
     exact⟨a,ha,k1,k2,VRs.ofBare k3⟩)
    exact⟨A,cap,news,rfl,h2,hn⟩
 ·rename_i nl r e' off n t
  split at h
  ·rename_i e'' m' f hb
   cases hbb:band (Nat.beq es e') (Nat.beq es e'') with
   | false=>rw[hbb] at h;cases h
   | true =>
     rw[hbb] at h
     obtain⟨hb1,hb2⟩:=ax hbb
     obtain rfl:=be hb1
     obtain rfl:=be hb2
     simp only[cond,Option.some.injEq,Prod.mk.injEq] at h
     obtain⟨e0,e1,e2⟩:=h
     rw[← e1,← e2]
     rw[← e0] at hq
     simp only[VR] at hx
     obtain⟨A,cap,rfl,h2,h3,h4,h5⟩:=hx
     cases hr:c.locs[r]? with
     | none=>rw[hr] at h5;exact h5.elim
     | some l =>
       rw[hr] at h5
       obtain⟨g1,g2⟩:=hs.get hr
       rw[hb] at g2
       cases l with
       | none =>
         dsimp only at h5
         obtain⟨news,hn⟩:=Rd.of (c:=c) (m:=n) (g:=fun i=>f (off+i)) (A:=A) hes (fun i hi=>by omega)
         exact⟨A,cap,news,rfl,h2.1,hn⟩
       | some l =>
         obtain⟨b,mm⟩:=l
         dsimp only at h5
         obtain⟨_,k1,⟨C,el,rfl,k2,k3,k4⟩,_⟩:=g2 trivial
         obtain⟨h5,h6⟩:=h5
         obtain⟨news,hn⟩:=Rd.of (c:=c) (m:=n) (g:=fun i=>f (off+i)) (A:=A) hes (fun i hi=>by
          obtain⟨p1,p2,p3⟩:=k4 (off+i) (by omega)
          have key:∀ j,c.w.cell? ((⟨b,off*es,none⟩:Addr).add (i*es+j))=C[(off+i)*es+j]?:=fun j=>by
           rw[Addr.add_lit,ez k1,Nat.add_mul,Nat.add_assoc]
          exact⟨_,h6 (by omega),p1,p2.mono fun j _=>key j,br p3 fun j _=>key j⟩)
         exact⟨A,cap,news,rfl,h2.1,hn⟩
  ·cases h
 ·cases h
theorem wd (w:World) (need old:Nat) (e:TypeId):need≤grownCap w need old e:=by
 simp[grownCap,Question.cut]
theorem ja (z:Array Value) (n:Nat):(Builtin.zeroCells z n).size=n*z.size:=by simp[Builtin.zeroCells]
theorem yd (w:World) (t ty e:TypeId) (i:TypeInfo) (z:Value) (ht:P.underlying t=some (.slice e)) (hi:P.info? e=some i) (hz:i.zero=some z)
  (A B:Option Addr) (sLen sCap n cap:Nat) (olds news:List Value) (ho:(Builtin.firstCells i.size sLen (.slice A sLen sCap)).run P w.drew = .ok olds.toArray w.drew)
  (hn:(Builtin.firstCells i.size n (.slice B n cap)).run P w.drew = .ok news.toArray w.drew)
  (hg:sCap<sLen+n) (hb:0<i.bytes) (hfit:(sLen+n)*i.bytes≤140737488355328) :
  (Builtin.append_ #[t,t] ty #[.slice A sLen sCap,.slice B n cap]).run P w =
   .ok (.slice (some ⟨w.heap.size,0,none⟩) (sLen+n) (grownCap w (sLen+n) sCap e))
    (w.drew.alloc (.cells ((olds++news).toArray++Builtin.zeroCells z.cells (grownCap w (sLen+n) sCap e-(sLen+n))) e)):=by
 have hn':¬ (sLen+n≤sCap):=by omega
 have hle:sLen+n≤140737488355328:=Nat.le_trans (Nat.le_mul_of_pos_right _ hb) hfit
 have h63:¬ (9223372036854775807<((sLen:Int)+(n:Int))):=by omega
 have h48:¬ (281474976710656<Builtin.nextslicecap (sLen+n) sCap*i.bytes):=by
  have:=growslice_fits hg hfit;omega
 simp[Builtin.append_,run_underlying ht,sizeOf,typeInfo,zeroValue,hi,hz,Builtin.lenOf,hn',h63,h48,Question.forced,hn,ho,newRow,grownCap]
 congr 2
 apply Array.ext'
 simp
theorem jr (w:World) (t ty e:TypeId) (i:TypeInfo) (ht:P.underlying t=some (.slice e)) (hi:P.info? e=some i)
  (A B:Option Addr) (sLen sCap n cap:Nat) (news:List Value)
  (hn:(Builtin.firstCells i.size n (.slice B n cap)).run P w = .ok news.toArray w) (hg:sLen+n≤sCap) {w':World}
  (hst:match A with|some a=>(storeCells (a.add (sLen*i.size)) news).run P w = .ok () w' | none=>w'=w) :
  (Builtin.append_ #[t,t] ty #[.slice A sLen sCap,.slice B n cap]).run P w = .ok (.slice A (sLen+n) sCap) w':=by
 cases A with
 | none =>
   dsimp only at hst
   subst hst
   simp[Builtin.append_,run_underlying ht,sizeOf,typeInfo,hi,Builtin.lenOf,hg,hn]
 | some a =>
   dsimp only at hst
   simp[Builtin.append_,run_underlying ht,sizeOf,typeInfo,hi,Builtin.lenOf,hg,hn,hst]
theorem z2t {n i:Nat} (f g:Nat→List V) (h:i<n):join n f g i=f i:=by
 have:Nat.blt i n=true:=by simp[Nat.blt_eq,h]
 simp[join,this]
theorem zma {n i:Nat} (f g:Nat→List V) (h:¬ i<n):join n f g i=g (i-n):=by
 have:Nat.blt i n=false:=by
  cases hb:Nat.blt i n with
  | false=>rfl
  | true=>exact absurd (by simpa using hb) h
 simp[join,this]
theorem vt {e n m:Nat} {f g:Nat→List V} {A:Option Addr} {olds news:List Value} (ho:Rd c e n f A olds) (hnl:news.length=m*e) (hne:∀ i,i<m→(g i).length=e∧One e (fun j=>news[i*e+j]?)∧VRs c (g i) fun j=>news[i*e+j]?) {C:Array Value} {cap:Nat}
  (hC:C.size=cap*e) (hcap:n+m≤cap) (hget:∀ j,j<(n+m)*e→C[j]? = (olds++news)[j]?) {el:TypeId}:Cont c (.cells C el) cap (.arr e (n+m) (join n f g)):=by
 refine⟨_,_,rfl,hC,hcap,fun i hi=>?_⟩
 have hlt:∀ j,j<e→i*e+j<(n+m)*e:=fun j hj=>by
  have:(i+1)*e≤(n+m)*e:=Nat.mul_le_mul_right _ hi
  rw[Nat.add_mul,Nat.one_mul] at this
  omega
 by_cases h:i<n
 ·rw[z2t f g h]
  obtain⟨p1,p2,p3⟩:=ho.elt i h
  have key:∀ j,j<e→C[i*e+j]? = olds[i*e+j]?:=fun j hj=>by
   rw[hget _ (hlt j hj),List.getElem?_append_left]
   rw[ho.len]
   have:(i+1)*e≤n*e:=Nat.mul_le_mul_right _ h
   rw[Nat.add_mul,Nat.one_mul] at this
   omega
  exact⟨p1,p2.mono key,br p3 fun j hj=>key j (by omega)⟩
 ·rw[zma f g h]
  obtain⟨p1,p2,p3⟩:=hne (i-n) (by omega)
  have key:∀ j,j<e→C[i*e+j]? = news[(i-n)*e+j]?:=fun j hj=>by
   have h1:n*e≤i*e:=Nat.mul_le_mul_right _ (by omega)
   have h2:(i-n)*e=i*e-n*e:=Nat.sub_mul i n e
   rw[hget _ (hlt j hj),List.getElem?_append_right (by rw[ho.len];omega),ho.len]
   congr 1
   omega
  exact⟨p1,p2.mono key,br p3 fun j hj=>key j (by omega)⟩
theorem znn {c':Ctx} {r b cap n e:Nat} {nl:Option Bool} (hr:c'.locs[r]? = some (some (b,cap))) (hnl:nl≠some true) (hn:n≤cap):VR c' (.own nl r e 0 n .loose) (.slice (some ⟨b,0,none⟩) n cap):=by
 simp only[VR]
 refine⟨_,_,rfl,⟨hn,fun C h=>by cases h⟩,(fun h=>by cases h),(fun b hb=>by cases b<;>simp_all), ?_⟩
 rw[hr]
 simp
theorem qg {t ty e:Nat} (hT:da P t=some e) {z:List V} (hz:cq P e=some z) (hb:co P e≠0) (hs:SR F c H)
  {A B:Option Addr} {n sCap m cap:Nat} {f g:Nat→List V} {olds news:List Value} (ho:Rd c (al P e) n f A olds) (hn:Rd c (al P e) m g B news)
  (hg:sCap<n+m) (hfit:(n+m)*co P e≤140737488355328) (nl:Option Bool) (hnl:nl=some true→n=0) :
  ∃ c' u,(Builtin.append_ #[t,t] ty #[.slice A n sCap,.slice B m cap]).run P c.w = .ok u c'.w∧SR F c' (H++[.arr (al P e) (n+m) (join n f g)])∧Le c c' ∧
   VR c' (.own (napp nl m) H.length (al P e) 0 (n+m) .loose) u:=by
 have hmn:napp nl m≠some true:=fun h=>by
  cases m with
  | zero=>have:=hnl h;omega
  | succ m=>simp[napp] at h
 obtain⟨i,v,hi,hv,rfl,h3,h4⟩:=my hz
 have hsz:al P e=i.size:=by simp[al,hi]
 have hby:co P e=i.bytes:=by simp[co,hi]
 obtain⟨hs1,hle1⟩:=hs.drew
 have ho1:=(ho.mono hle1 rfl).first n sCap (P:=P)
 have hn1:=(hn.mono hle1 rfl).first m cap (P:=P)
 have hrun:=yd (P:=P) c.w t ty e i v (mq hT) hi hv A B n sCap m cap olds news (by rw[← hsz];exact ho1) (by rw[← hsz];exact hn1) hg (by omega) (by rw[← hby];exact hfit)
 have hgc:=wd c.w (n+m) sCap e
 have hlen:(olds++news).length=(n+m)*i.size:=by simp[ho.len,hn.len,hsz,Nat.add_mul]
 have hC:=vt (ho.mono hle1 rfl) (hn.mono hle1 rfl).len (hn.mono hle1 rfl).elt (C:=(olds++news).toArray++Builtin.zeroCells v.cells (grownCap c.w (n+m) sCap e-(n+m))) (cap:=grownCap c.w (n+m) sCap e) (el:=e)
  (by
   rw[Array.size_append,ja,h4,List.size_toArray,hlen,hsz,← Nat.add_mul]
   congr 1
   omega) hgc (fun j hj=>by
   rw[Array.getElem?_append_left (by rw[List.size_toArray,hlen,← hsz];exact hj),List.getElem?_toArray])
 obtain⟨k1,k2⟩:=hs1.new _ _ e _ hC
 refine⟨_,_,hrun,k1,hle1.trans k2,znn (b:=c.w.heap.size) ?_ ?_ hgc⟩
 ·show (c.locs++[_])[H.length]? = _
  rw[List.getElem?_append_right (by rw[hs.len];exact Nat.le_refl _)]
  simp[hs.len]
 ·exact hmn
end
end Go.VM
end
section
namespace Go.VM
section
variable {P:Program} {F:Fr} {c:Ctx} {H:Heap}
theorem vw (f g:Nat→List V):join 0 f g=g:=by
 funext i
 rw[zma f g (Nat.not_lt_zero i),Nat.sub_zero]
theorem zpg (H:Heap) (r:Nat) (a b:Blk):hset (hset H r a) r b=hset H r b:=by
 induction H generalizing r with
 | nil=>simp[hset]
 | cons x xs ih=>cases r<;>simp[hset,ih]
theorem zbm (H:Heap) (r:Nat):hset H r (hget H r)=H:=by
 induction H generalizing r with
 | nil=>simp[hset]
 | cons x xs ih=>cases r with
   | zero=>simp[hset,hget]
   | succ r=>simp[hset,hget];exact ih r
theorem zqd (H:Heap) (r:Nat) (a:Blk) (h:r<H.length):hget (hset H r a) r=a:=by
 induction H generalizing r with
 | nil=>simp at h
 | cons x xs ih=>cases r with
   | zero=>simp[hset,hget]
   | succ r=>simp[hset,hget];exact ih r (by simpa using h)
theorem vb {t ty e:Nat} (hT:da P t=some e) (hs:SR F c H) {A B:Option Addr} {cap:Nat} {g:Nat→List V} {news:List Value} (hn:Rd c (al P e) 0 g B news) {nl:Option Bool} (hnl:Nlr nl A) (f:Nat→List V) :
  ∃ c' u,(Builtin.append_ #[t,t] ty #[.slice A 0 0,.slice B 0 cap]).run P c.w = .ok u c'.w∧SR F c' (H++[.arr (al P e) 0 f])∧Le c c'∧VR c' (.own nl H.length (al P e) 0 0 .loose) u:=by
 obtain⟨hT',he⟩:=cr hT
 obtain⟨i,hi⟩:=bx he
 have hsz:al P e=i.size:=by simp[al,hi]
 have hnews:news=[]:=by
  have:=hn.len
  simpa using this
 subst hnews
 have hrun:=jr (P:=P) c.w t ty e i hT' hi A B 0 0 0 cap [] (by rw[← hsz];exact hn.first 0 cap) (Nat.le_refl _) (w':=c.w) (by
  cases A with
  | none=>rfl
  | some a=>simp[storeCells])
 obtain⟨k1,k2⟩:=hs.virt (al P e) f
 refine⟨{ c with locs:=c.locs++[none] },_,hrun,k1,k2, ?_⟩
 simp only[VR]
 refine⟨A,0,rfl,⟨Nat.le_refl _,fun C h=>by cases h⟩,(fun h=>by cases h),hnl, ?_⟩
 show match (c.locs++[none])[H.length]? with|some (some (b,m))=>_|some none=>_|none=>_
 rw[List.getElem?_append_right (by rw[hs.len];exact Nat.le_refl _)]
 simp[hs.len]
theorem ol {t ty e:Nat} (hT:da P t=some e) {z:List V} (hz:cq P e=some z) (hb:co P e≠0) (hs:SR F c H)
  {A B:Option Addr} {n m cap:Nat} {f g:Nat→List V} {olds news:List Value} (ho:Rd c (al P e) n f A olds) (hn:Rd c (al P e) m g B news)
  (hnm:n=0∨0<m) (hfit:(n+m)*co P e≤140737488355328) {nl:Option Bool} (hnl:Nlr nl A) (hA:A=none→n=0) :
  ∃ c' u,(Builtin.append_ #[t,t] ty #[.slice A n n,.slice B m cap]).run P c.w = .ok u c'.w∧SR F c' (H++[.arr (al P e) (n+m) (join n f g)])∧Le c c' ∧
   VR c' (.own (napp nl m) H.length (al P e) 0 (n+m) .loose) u:=by
 by_cases hm:m=0
 ·subst hm
  obtain rfl:n=0:=by omega
  have:=vb (P:=P) (ty:=ty) (cap:=cap) hT hs hn hnl (join 0 f g)
  simpa [napp] using this
 ·exact qg (P:=P) (ty:=ty) hT hz hb hs ho hn (by omega) hfit nl fun h=>hA ((hnl true h).1 rfl)
theorem zcv {e n' m i0 cap:Nat} {f g:Nat→List V} {C C':Array Value} {news:List Value} {el:TypeId} (hC:Cont c (.cells C el) cap (.arr e n' f)) (hnl:news.length=m*e) (hne:∀ i,i<m→(g i).length=e∧One e (fun j=>news[i*e+j]?)∧VRs c (g i) fun j=>news[i*e+j]?) (hi0:i0≤n') (hcap:i0+m≤cap)
  (hsz:C'.size=C.size) (hget:∀ j:Nat,C'[j]? = if i0*e≤j∧j-i0*e<news.length then news[j-i0*e]? else C[j]?):Cont c (.cells C' el) cap (.arr e (max n' (i0+m)) (over i0 m g f)):=by
 obtain⟨_,_,hx,h1,h2,h3⟩:=hC
 cases hx
 refine⟨_,_,rfl,hsz.trans h1,by omega,fun i hi=>?_⟩
 by_cases hin:i0≤i∧i<i0+m
 ·have hov:over i0 m g f i=g (i-i0):=if_pos hin
  rw[hov]
  obtain⟨p1,p2,p3⟩:=hne (i-i0) (by omega)
  have hle:i0*e≤i*e:=Nat.mul_le_mul_right _ hin.1
  have hme:(i-i0+1)*e≤m*e:=Nat.mul_le_mul_right _ (by omega)
  have hsub:(i-i0)*e=i*e-i0*e:=Nat.sub_mul _ _ _
  rw[Nat.add_mul,Nat.one_mul] at hme
  have key:∀ j,j<e→C'[i*e+j]? = news[(i-i0)*e+j]?:=fun j hj=>by
   rw[hget,if_pos ⟨by omega,by rw[hnl];omega⟩]
   congr 1
   omega
  exact⟨p1,p2.mono key,br p3 fun j hj=>key j (by omega)⟩
 ·have hov:over i0 m g f i=f i:=if_neg hin
  rw[hov]
  obtain⟨p1,p2,p3⟩:=h3 i (by omega)
  have key:∀ j,j<e→C'[i*e+j]? = C[i*e+j]?:=fun j hj=>by
   rw[hget,if_neg ?_]
   rintro⟨q1,q2⟩
   rw[hnl] at q2
   have:i*e+j<(i0+m)*e:=by rw[Nat.add_mul];omega
   apply hin
   constructor
   ·exact Nat.le_of_not_lt fun hlt=>by
     have:(i+1)*e≤i0*e:=Nat.mul_le_mul_right _ hlt
     rw[Nat.add_mul,Nat.one_mul] at this
     omega
   ·exact Nat.lt_of_not_le fun hge=>by
     have:(i0+m)*e≤i*e:=Nat.mul_le_mul_right _ hge
     omega
  exact⟨p1,p2.mono key,br p3 fun j hj=>key j (by omega)⟩
theorem zkl {t ty e:Nat} (hT:da P t=some e) {z:List V} (hz:cq P e=some z) (hb:co P e≠0) (hs:SR F c H)
  {s x:V} {u v:Value} (hsv:VR c s u) (hx:VR c x v) {K:V→Heap→Prop} (h:kc (al P e) (co P e) H s x K) :
  ∃ c' H' r y,(Builtin.append_ #[t,t] ty #[u,v]).run P c.w = .ok r c'.w∧SR F c' H'∧Le c c'∧VR c' y r∧K y H':=by
 obtain⟨hT',he⟩:=cr hT
 obtain⟨i,hi⟩:=bx he
 have hsz:al P e=i.size:=by simp[al,hi]
 unfold kc at h
 split at h
 case h_2=>exact h.elim
 rename_i q m g hv
 split at h
 ·
  obtain⟨⟨hq,hfit⟩,hK⟩:=h
  obtain⟨B,cap,news,rfl,hmc,hn⟩:=fe hs he hx hv hq
  simp only[VR] at hsv
  subst hsv
  obtain⟨olds,ho⟩:=Rd.of (c:=c) (m:=0) (g:=fun _=>[]) (A:=none) he (fun i hi=>by omega)
  obtain⟨c',r,k1,k2,k3,k4⟩:=ol (P:=P) (ty:=ty) (cap:=cap) hT hz hb hs ho hn (.inl rfl) (by rw[Nat.zero_add];exact hfit) (nl:=some true) (fun b hb=>by cases hb;simp) (fun _=>rfl)
  rw[vw,Nat.zero_add] at k2
  rw[Nat.zero_add] at k4
  exact⟨c',_,r,_,k1,k2,k3,k4,by rw[bt,ex] at hK;exact hK⟩
 ·rename_i nl b e' n f
  cases hbb:Nat.beq (al P e) e' with
  | false=>rw[hbb] at h;exact h.elim
  | true =>
    rw[hbb] at h
    obtain rfl:=be hbb
    obtain⟨⟨hq,rfl,hnm,hfit⟩,hK⟩:=h
    obtain⟨B,cap,news,rfl,hmc,hn⟩:=fe hs he hx hv hq
    have hself:view (al P e) H (.lst nl (.cut true) (al P e) n f)=some (True,n,f):=by simp[view]
    obtain⟨A,scap,olds,hu,hsc,ho⟩:=fe hs he hsv hself trivial
    subst hu
    simp only[VR] at hsv
    obtain⟨A',cap',e1,e2,e3,e4,e5,_⟩:=hsv
    simp only[Value.slice.injEq] at e1
    obtain⟨rfl,-,rfl⟩:=e1
    obtain rfl:scap=n:=e3 trivial
    obtain⟨c',r,k1,k2,k3,k4⟩:=ol (P:=P) (ty:=ty) (cap:=cap) hT hz hb hs ho hn hnm hfit e4 (fun h=>e5 h)
    exact⟨c',_,r,_,k1,k2,k3,k4,by rw[bt,ex] at hK;exact hK⟩
 ·rename_i nl r e' off n b
  split at h
  ·rename_i q' n'' f hself
   obtain⟨⟨hq,hq',rfl,hnm,hfit⟩,hK⟩:=h
   have hn':n''=n:=by
    unfold view at hself
    dsimp only at hself
    split at hself
    ·rename_i e'' m' f' hb'
     cases hbb:band (Nat.beq (al P e) e') (Nat.beq (al P e) e'') with
     | false=>rw[hbb] at hself;cases hself
     | true=>rw[hbb] at hself;simp only[cond,Option.some.injEq,Prod.mk.injEq] at hself;exact hself.2.1.symm
    ·cases hself
   subst hn'
   obtain⟨B,cap,news,rfl,hmc,hn⟩:=fe hs he hx hv hq
   obtain⟨A,scap,olds,hu,hsc,ho⟩:=fe hs he hsv hself hq'
   subst hu
   simp only[VR] at hsv
   obtain⟨A',cap',e1,e2,e3,e4,e5⟩:=hsv
   simp only[Value.slice.injEq] at e1
   obtain⟨rfl,-,rfl⟩:=e1
   obtain rfl:scap=n'':=e3 trivial
   obtain⟨c',r',k1,k2,k3,k4⟩:=ol (P:=P) (ty:=ty) (cap:=cap) hT hz hb hs ho hn hnm hfit e4 (fun hA=>by
    subst hA
    split at e5
    ·obtain⟨_,e6⟩:=e5
     rcases Nat.eq_zero_or_pos scap with h0|h0
     ·exact h0
     ·have:=e6 h0;cases this
    ·exact e5
    ·exact e5.elim)
   exact⟨c',_,r',_,k1,k2,k3,k4,by rw[bt,ex] at hK;exact hK⟩
  ·exact h.elim
 ·rename_i nl r e' off n
  split at h
  case h_2=>exact h.elim
  rename_i e'' n' f hblk
  cases hbb:band (Nat.beq (al P e) e') (Nat.beq (al P e) e'') with
  | false=>rw[hbb] at h;exact h.elim
  | true =>
    rw[hbb] at h
    dsimp only [cond] at h
    obtain⟨⟨hq,h0,hnn,hfit⟩,hK⟩:=h
    have hself:view (al P e) H (.own nl r e' off n .loose)=some (off+n≤n',n,fun i=>f (off+i)):=by simp[view,hblk,hbb]
    obtain⟨hb1,hb2⟩:=ax hbb
    obtain rfl:=be hb1
    obtain rfl:=be hb2
    obtain⟨B,cap,news,rfl,hmc,hn⟩:=fe hs he hx hv hq
    obtain⟨A,scap,olds,hu,hsc,ho⟩:=fe hs he hsv hself (by omega)
    subst hu h0 hnn
    simp only[Nat.zero_add] at ho
    have hlen':(hset H r .dead).length=H.length:=dw _ _ _
    rw[bt,ex] at hK
    simp only[VR] at hsv
    obtain⟨A',cap',e1,e2,e3,e4,e5⟩:=hsv
    simp only[Value.slice.injEq] at e1
    obtain⟨rfl,-,rfl⟩:=e1
    have hA0:A=none→scap=0:=fun hA=>by
     subst hA
     split at e5
     ·rcases Nat.eq_zero_or_pos scap with h0|h0
      ·exact h0
      ·have:=e5.2 h0;cases this
     ·exact e5
     ·exact e5.elim
    by_cases hroom:n+m≤scap
    ·by_cases hsc0:scap=0
     ·subst hsc0
      obtain rfl:n=0:=by omega
      obtain rfl:m=0:=by omega
      obtain⟨c',u,k1,k2,k3,k4⟩:=vb (P:=P) (ty:=ty) (cap:=cap) hT (hs.dead r) hn e4 (join 0 f g)
      rw[hlen'] at k4
      exact⟨c',_,u,_,k1,k2,k3,k4,by simpa [napp] using hK⟩
     ·
      have hpos:0<scap:=by omega
      split at e5
      ·rename_i b capr hr
       obtain⟨e5,e6⟩:=e5
       obtain rfl:=e6 hpos
       have hnl:Nlr (napp nl m) (some (⟨b,0*al P e,none⟩:Addr)):=by
        intro b' hb'
        cases m with
        | zero=>exact e4 b' hb'
        | succ m=>cases hb';simp
       have hlive:=eh hblk trivial
       have hrl:r<H.length:=hs.lt hr
       obtain⟨_,g1,⟨C,el,rfl,g2,g3,g4⟩,_⟩:=hs.blk r _ _ hlive hr trivial
       have hones:∀ v∈news,v.oneCell'=true:=by
        intro v hv
        obtain⟨j,hj,rfl⟩:=List.getElem_of_mem hv
        have hjm:j<m*al P e:=by rw[← hn.len];exact hj
        have hd:j / al P e<m:=Nat.div_lt_of_lt_mul (by rw[Nat.mul_comm];exact hjm)
        obtain⟨_,p2,_⟩:=hn.elt _ hd
        have hq':j / al P e*al P e+j % al P e=j:=by rw[Nat.mul_comm];exact Nat.div_add_mod j _
        exact p2 (j % al P e) _ (Nat.mod_lt _ (by omega)) (by dsimp only;rw[hq'];simp[hj])
       have hCs:n*al P e+news.length≤C.size:=by
        rw[hn.len,g2,← Nat.add_mul]
        exact Nat.mul_le_mul_right _ (by omega)
       have hst:=run_storeCells_at P b (n*al P e) el news 0 C c.w g1 (by omega) hones
       have hrun:=jr (P:=P) c.w t ty e i hT' hi (some ⟨b,0*al P e,none⟩) B n scap m cap news (by rw[← hsz];exact hn.first m cap) hroom
        (w':=c.w.setRow b (C.toList.take (n*al P e)++news++C.toList.drop (n*al P e+news.length)).toArray) (by
         dsimp only
         rw[← hsz,Nat.zero_mul,Addr.add_lit,Nat.zero_add]
         simpa using hst)
       have hgetC:∀ j,(C.toList.take (n*al P e)++news++C.toList.drop (n*al P e+news.length)).toArray[j]? = if n*al P e≤j∧j-n*al P e<news.length then news[j-n*al P e]? else C[j]?:=fun j=>by
        rw[List.getElem?_toArray,ml _ _ _ _ (by simpa using hCs)]
        simp
       have hoC:∀ j,j<n*al P e→olds[j]? = C[j]?:=fun j hj=>by
        have hjl:j<olds.length:=by rw[ho.len];exact hj
        obtain⟨a,ha,hc⟩:=ho.get j olds[j] (by simp[hjl])
        cases ha
        rw[Nat.zero_mul,Addr.add_lit,Nat.zero_add,ez g1] at hc
        rw[hc];simp[hjl]
       have HS:=hs.set hlive trivial hr (.arr (al P e) (n+m) (join n f g)) (C.toList.take (n*al P e)++news++C.toList.drop (n*al P e+news.length)).toArray C el g1 (cap:=capr) (by
        refine vt ho hn.len hn.elt (by simp;omega) (by omega) fun j hj=>?_
        rw[hgetC]
        rw[Nat.add_mul] at hj
        by_cases hjn:j<n*al P e
        ·rw[if_neg (by omega),List.getElem?_append_left (by rw[ho.len];exact hjn),hoC j hjn]
        ·have h1:j-n*al P e<news.length:=by rw[hn.len];exact Nat.sub_lt_left_of_lt_add (Nat.le_of_not_lt hjn) hj
         rw[if_pos ⟨Nat.le_of_not_lt hjn,h1⟩,List.getElem?_append_right (by rw[ho.len];exact Nat.le_of_not_lt hjn),ho.len])
       obtain⟨hs1,hle1⟩:=HS
       obtain⟨hs2,hle2⟩:=hs1.move (r:=r) (l:=some (b,capr)) hr
       rw[zpg,zqd _ _ _ hrl] at hs2
       refine⟨_,_,_,_,hrun,hs2,hle1.trans hle2, ?_,by simpa using hK⟩
       rw[Nat.zero_mul]
       have hr2:(c.locs++[some (b,capr)])[H.length]? = some (some (b,capr)):=by
        rw[List.getElem?_append_right (by rw[hs.len];exact Nat.le_refl _)]
        simp[hs.len]
       simp only[VR]
       refine⟨_,_,rfl,⟨hroom,fun C h=>by cases h⟩,(fun h=>by cases h),(by rw[Nat.zero_mul] at hnl;exact hnl), ?_⟩
       rw[hr2]
       exact⟨by omega,fun _=>by rw[Nat.zero_mul]⟩
      ·omega
      ·exact e5.elim
    ·obtain⟨c',u,k1,k2,k3,k4⟩:=qg (P:=P) (ty:=ty) hT hz hb (sCap:=scap) (hs.dead r) ho hn (by omega) hfit nl fun h=>by have:=hA0 ((e4 true h).1 rfl);omega
     rw[hlen'] at k4
     exact⟨c',_,u,_,k1,k2,k3,k4,hK⟩
 ·rename_i nl r e' off n CC
  split at h
  case h_2=>exact h.elim
  rename_i e'' n' f hblk
  cases hbb:band (Nat.beq (al P e) e') (Nat.beq (al P e) e'') with
  | false=>rw[hbb] at h;exact h.elim
  | true =>
    rw[hbb] at h
    dsimp only [cond] at h
    obtain⟨⟨hq,hnn,hfit⟩,hK1,hK2⟩:=h
    have hself:view (al P e) H (.own nl r e' off n (.exact CC))=some (off+n≤n',n,fun i=>f (off+i)):=by simp[view,hblk,hbb]
    obtain⟨hb1,hb2⟩:=ax hbb
    obtain rfl:=be hb1
    obtain rfl:=be hb2
    obtain⟨B,cap,news,rfl,hmc,hn⟩:=fe hs he hx hv hq
    obtain⟨A,scap,olds,hu,hsc,ho⟩:=fe hs he hsv hself hnn
    subst hu
    rw[bt,ex] at hK2
    simp only[VR] at hsv
    obtain⟨A',cap',e1,e2,e3,e4,e5⟩:=hsv
    simp only[Value.slice.injEq] at e1
    obtain⟨rfl,-,rfl⟩:=e1
    obtain rfl:scap=CC:=e2.2 _ rfl
    have hA0:A=none→scap=0:=fun hA=>by
     subst hA
     split at e5
     ·rcases Nat.eq_zero_or_pos scap with h0|h0
      ·exact h0
      ·have:=e5.2 h0;cases this
     ·exact e5
     ·exact e5.elim
    by_cases hroom:n+m≤scap
    ·by_cases hsc0:scap=0
     ·subst hsc0
      obtain rfl:n=0:=by omega
      obtain rfl:m=0:=by omega
      have hnews:news=[]:=by
       have:=hn.len
       simpa using this
      subst hnews
      have hrun:=jr (P:=P) c.w t ty e i hT' hi A B 0 0 0 cap [] (by rw[← hsz];exact hn.first 0 cap) (Nat.le_refl _) (w':=c.w) (by
       cases A with
       | none=>rfl
       | some a=>simp[storeCells])
      have hov:over (off+0) 0 g f=f:=by funext q;exact if_neg (by omega)
      have hset0:hset H r (.arr (al P e) (max n' (off+0+0)) (over (off+0) 0 g f))=H:=by
       rw[hov,show max n' (off+0+0)=n' from by omega,← hblk]
       exact zbm H r
      refine⟨c,_,_,_,hrun,hs,Le.refl _, ?_,by have:=hK1 hroom;rw[hset0] at this;exact this⟩
      simp only[VR]
      exact⟨A,0,rfl,e2,e3,e4,e5⟩
     ·have hpos:0<scap:=by omega
      split at e5
      ·rename_i b capr hr
       obtain⟨e5,e6⟩:=e5
       obtain rfl:=e6 hpos
       have hlive:=eh hblk trivial
       have hrl:r<H.length:=hs.lt hr
       obtain⟨_,g1,hCont,_⟩:=hs.blk r _ _ hlive hr trivial
       have hC0:=hCont
       obtain⟨C,el,rfl,g2,_⟩:=hC0
       have hones:∀ v∈news,v.oneCell'=true:=by
        intro v hv
        obtain⟨j,hj,rfl⟩:=List.getElem_of_mem hv
        have hjm:j<m*al P e:=by rw[← hn.len];exact hj
        have hd:j / al P e<m:=Nat.div_lt_of_lt_mul (by rw[Nat.mul_comm];exact hjm)
        obtain⟨_,p2,_⟩:=hn.elt _ hd
        have hq':j / al P e*al P e+j % al P e=j:=by rw[Nat.mul_comm];exact Nat.div_add_mod j _
        exact p2 (j % al P e) _ (Nat.mod_lt _ (by omega)) (by dsimp only;rw[hq'];simp[hj])
       have hCs:(off+n)*al P e+news.length≤C.size:=by
        rw[hn.len,g2,← Nat.add_mul]
        exact Nat.mul_le_mul_right _ (by omega)
       have hst:=run_storeCells_at P b ((off+n)*al P e) el news 0 C c.w g1 (by omega) hones
       have hrun:=jr (P:=P) c.w t ty e i hT' hi (some ⟨b,off*al P e,none⟩) B n scap m cap news (by rw[← hsz];exact hn.first m cap) hroom
        (w':=c.w.setRow b (C.toList.take ((off+n)*al P e)++news++C.toList.drop ((off+n)*al P e+news.length)).toArray) (by
         dsimp only
         rw[← hsz,Addr.add_lit,← Nat.add_mul]
         simpa using hst)
       have hgetC:∀ j:Nat,(C.toList.take ((off+n)*al P e)++news++C.toList.drop ((off+n)*al P e+news.length)).toArray[j]? = if (off+n)*al P e≤j∧j-(off+n)*al P e<news.length then news[j-(off+n)*al P e]? else C[j]?:=fun j=>by
        rw[List.getElem?_toArray,ml _ _ _ _ (by simpa using hCs)]
        simp
       obtain⟨hs1,hle1⟩:=hs.set hlive trivial hr (.arr (al P e) (max n' (off+n+m)) (over (off+n) m g f)) (C.toList.take ((off+n)*al P e)++news++C.toList.drop ((off+n)*al P e+news.length)).toArray C el g1 (cap:=capr)
        (zcv hCont hn.len hn.elt hnn (by omega) (by simp;omega) hgetC)
       refine⟨_,_,_,_,hrun,hs1,hle1, ?_,hK1 hroom⟩
       simp only[VR]
       refine⟨_,_,rfl,⟨hroom,fun C h=>by cases h;rfl⟩,(fun h=>by cases h),e4, ?_⟩
       rw[hr]
       exact⟨e5,fun _=>rfl⟩
      ·omega
      ·exact e5.elim
    ·obtain⟨c',u,k1,k2,k3,k4⟩:=qg (P:=P) (ty:=ty) hT hz hb (sCap:=scap) hs ho hn (by omega) hfit nl fun h=>by have:=hA0 ((e4 true h).1 rfl);omega
     exact⟨c',_,u,_,k1,k2,k3,k4,hK2 (by omega)⟩
 ·exact h.elim
end
end Go.VM
end
section
namespace Go.VM
inductive PR (c:Ctx):List (Nat × V)→List (Nat × Value)→Prop where
 | nil:PR c [] []
 | cons {i:Nat} {v:V} {u:Value} {l:List (Nat × V)} {m:List (Nat × Value)}:VR c v u→PR c l m→PR c ((i,v)::l) ((i,u)::m)
theorem zhq (off:Nat):∀ (vs:List Value) (k:Nat) (cells:Array Value),off+k+vs.length≤cells.size →
  ((vs.zipIdx k).foldl (fun cs (x:Value × Nat)=>cs.setIfInBounds (off+x.2) x.1) cells).size=cells.size ∧
  ∀ i:Nat,((vs.zipIdx k).foldl (fun cs (x:Value × Nat)=>cs.setIfInBounds (off+x.2) x.1) cells)[i]? = if off+k≤i∧i-(off+k)<vs.length then vs[i-(off+k)]? else cells[i]?
 | [],k,cells,_=>by simp
 | v::vs,k,cells,h=>by
   have h':off+(k+1)+vs.length≤(cells.setIfInBounds (off+k) v).size:=by simp at h ⊢;omega
   obtain⟨h1,h2⟩:=zhq off vs (k+1) (cells.setIfInBounds (off+k) v) h'
   simp only[List.zipIdx_cons,List.foldl_cons]
   refine⟨by rw[h1];simp,fun i=>?_⟩
   rw[h2]
   have hk:off+k<cells.size:=by simp at h;omega
   by_cases hi:i=off+k
   ·subst hi
    rw[if_neg (by omega),if_pos ⟨by omega,by simp⟩]
    simp[Array.getElem?_setIfInBounds,hk]
   ·by_cases h3:off+(k+1)≤i∧i-(off+(k+1))<vs.length
    ·rw[if_pos h3,if_pos ⟨by omega,by simp;omega⟩]
     have:i-(off+k)=(i-(off+(k+1)))+1:=by omega
     rw[this,List.getElem?_cons_succ]
    ·rw[if_neg h3,if_neg (by simp;omega)]
     rw[Array.getElem?_setIfInBounds_ne (by omega)]
section
variable {P:Program} {F:Fr} {c:Ctx} {H:Heap}
theorem zgk {pl:Nat→Option (Nat × Nat)}:∀ {parts:List (Nat × V)} {vals:List (Nat × Value)} (hp:PR c parts vals) {cs cs':List V} {us:Array Value},
  us.size=cs.length→One cs.length (fun j=>us[j]?)→(VRs c cs fun j=>us[j]?)→rr pl cs parts=some cs' →
  ∃ us',Instr.fill pl us vals=some us'∧us'.size=cs'.length∧One cs'.length (fun j=>us'[j]?)∧(VRs c cs' fun j=>us'[j]?)∧cs'.length=cs.length:=by
 intro parts vals hp
 induction hp with
 | nil =>
   intro cs cs' us h1 h2 h3 h
   simp only[rr,Option.some.injEq] at h
   subst h
   exact⟨us,rfl,h1,h2,h3,rfl⟩
 | @cons i v u l m hv hp ih =>
   intro cs cs' us h1 h2 h3 h
   simp only[rr] at h
   split at h
   ·rename_i off n vs hpl hcv
    cases hb:band (Nat.beq (len vs) n) (Nat.ble (off+n) (len cs)) with
    | false=>rw[hb] at h;cases h
    | true =>
      rw[hb] at h
      dsimp only [cond] at h
      obtain⟨hb1,hb2⟩:=ax hb
      have hn:=be hb1
      rw[jm] at hn
      have hle:off+n≤cs.length:=by rw[← jm cs];exact Nat.le_of_ble_eq_true hb2
      obtain⟨k1,k2,k3⟩:=zbc hv hcv
      have hf:=zhq off u.cells.toList 0 us (by simp[k1];omega)
      obtain⟨f1,f2⟩:=hf
      have hfold:(u.cells.zipIdx.foldl (fun cs (x:Value × Nat)=>cs.setIfInBounds (off+x.2) x.1) us)=((u.cells.toList.zipIdx 0).foldl (fun cs (x:Value × Nat)=>cs.setIfInBounds (off+x.2) x.1) us):=by
       rw[← Array.foldl_toList,Array.toList_zipIdx]
      have f3:∀ j:Nat,(u.cells.zipIdx.foldl (fun cs (x:Value × Nat)=>cs.setIfInBounds (off+x.2) x.1) us)[j]? = if off≤j∧j-off<vs.length then u.cells[j-off]? else us[j]?:=fun j=>by
       rw[hfold,f2];simp[k1]
      have hsz:(u.cells.zipIdx.foldl (fun cs (x:Value × Nat)=>cs.setIfInBounds (off+x.2) x.1) us).size=(spl cs off vs).length:=by
       rw[hfold,f1,h1,fu]
      obtain⟨us',g1,g2,g3,g4,g5⟩:=ih hsz (by
       intro j y hj hy
       rw[fu] at hj
       replace hy:=(f3 j).symm.trans hy
       split at hy
       ·rename_i hc;exact k2 _ y hc.2 hy
       ·exact h2 j y hj hy) (by
       refine kz fun j w hj=>?_
       have hjl:j<cs.length:=by
        have:=(List.getElem?_eq_some_iff.1 hj).1
        rwa [fu] at this
       rw[zfi _ _ _ _ hjl] at hj
       simp only[f3]
       split at hj
       ·rename_i hc;rw[if_pos hc];exact de k3 hj
       ·rename_i hc;rw[if_neg hc];exact de h3 hj) h
      refine⟨us', ?_,g2,g3,g4,by rw[g5,fu]⟩
      simp only[Instr.fill,hpl]
      rw[if_neg (by simp[k1,hn];omega)]
      exact g1
   ·cases h
theorem zll (pl:List (Nat × Nat)) (k:Nat):pnth pl k=pl.toArray[k]?:=by
 rw[List.getElem?_toArray]
 induction pl generalizing k with
 | nil=>simp[pnth]
 | cons x xs ih=>cases k with
   | zero=>simp[pnth]
   | succ k=>simp[pnth];exact ih k
theorem zxz (a b:List V):rep.aps a b=a++b:=by induction a<;>simp_all [rep.aps]
theorem zkc (n:Nat) (z:List V):(rep n z).length=n*z.length:=by
 induction n with
 | zero=>simp[rep]
 | succ n ih=>simp[rep,zxz,ih,Nat.add_mul];omega
theorem z3j (n:Nat) (z:List V) (q:Nat) (h:q<n*z.length):(rep n z)[q]? = z[q % z.length]?:=by
 induction n generalizing q with
 | zero=>simp at h
 | succ n ih =>
   simp only[rep,zxz]
   by_cases hq:q<z.length
   ·rw[List.getElem?_append_left hq,Nat.mod_eq_of_lt hq]
   ·rw[List.getElem?_append_right (by omega),ih (q-z.length) (by rw[Nat.add_mul] at h;omega)]
    congr 1
    rw[← Nat.mod_eq_sub_mod (by omega)]
theorem zrx {T:Nat} {z cs:List V} {pl:List (Nat × Nat)} (hz:cq P T=some z) (hpl:dy P T=some pl) {parts:List (Nat × V)} {vals:Array (Nat × Value)} (hp:PR c parts vals.toList)
  (h:rr (pnth pl) z parts=some cs):∃ u,(Instr.build T vals).run P c.w = .ok u c.w∧VR c (.agg cs) u:=by
 obtain⟨i,v,hi,hv,rfl,h3,h4⟩:=my hz
 unfold dy at hpl
 split at hpl
 ·rename_i fs hT
  have hpn:∀ k,pnth pl k=pl.toArray[k]?:=zll pl
  have hl:(ofVs v.cells.toList).length=v.cells.size:=by rw[ta];simp
  obtain⟨us',g1,g2,g3,g4,_⟩:=zgk hp (us:=v.cells) hl.symm (fun j x hj hx=>h3 x (by
   have hx':v.cells[j]? = some x:=hx
   rw[← Array.getElem?_toList] at hx'
   exact List.mem_of_getElem? hx')) (by simpa using zan (c:=c) v.cells.toList) h
  refine⟨.agg us',run_build c.w T vals us' ?_,by simp only[VR];exact⟨us',rfl,g2,g3,g4⟩⟩
  unfold Program.built
  simp only[hi,hT,hv,hpl]
  rw[← g1]
  congr 1
  funext k
  exact (hpn k).symm
 ·cases hpl
theorem gd (hs:SR F c H) {T e n:Nat} (hT:da P T=some e) {parts:List (Nat × V)} {vals:Array (Nat × Value)} (hp:PR c parts vals.toList) {K:V→Heap→Prop}
  (h:ct (al P e) (cq P e) n parts H K):∃ c' H' r y,(Instr.buildSlice T n vals).run P c.w = .ok r c'.w∧SR F c' H'∧Le c c'∧VR c' y r∧K y H':=by
 obtain⟨hT',he⟩:=cr hT
 obtain⟨i,hi⟩:=bx he
 unfold ct at h
 split at h
 ·rename_i z hz
  split at h
  ·rename_i cs hf
   cases hb:Nat.ble (n*al P e) 16777216 with
   | false=>rw[hb] at h;exact h.elim
   | true =>
     rw[hb] at h
     dsimp only [cond] at h
     have hle:¬ (2 ^ 24<n*al P e):=by have:=Nat.le_of_ble_eq_true hb;omega
     obtain⟨u,z1,z2,z3,z4,z5⟩:=zaj (c:=c) hz
     have hz0:0<z.length:=by rw[z5];omega
     have hget:∀ q:Nat,q<n*al P e→((Array.range (n*al P e)).map (u.cells[· % u.cells.size]!))[q]? = u.cells[q % z.length]?:=by
      intro q hq
      have hm:q % z.length<u.cells.size:=by rw[z2];exact Nat.mod_lt _ hz0
      simp[hq,z2]
      rw[getElem!_pos u.cells (q % z.length) hm];simp[hm]
     have hlen:(rep n z).length=n*al P e:=by rw[zkc,z5]
     obtain⟨us',g1,g2,g3,g4,g5⟩:=zgk hp (us:=(Array.range (n*al P e)).map (u.cells[· % u.cells.size]!)) (by simp[hlen]) (by
      intro j y hj hy
      rw[hlen] at hj
      replace hy:=(hget j hj).symm.trans hy
      exact z3 _ y (Nat.mod_lt _ hz0) hy) (by
      refine kz fun j w hj=>?_
      have hjl:j<n*al P e:=by rw[← hlen];exact (List.getElem?_eq_some_iff.1 hj).1
      rw[z3j n z j (by rw[z5];exact hjl)] at hj
      simp only[hget j hjl]
      exact de z4 hj) hf
     have hcs:cs.length=n*al P e:=by rw[g5,hlen]
     have hrun:(Instr.buildSlice T n vals).run P c.w = .ok (.slice (some ⟨c.w.heap.size,0,none⟩) n n) (c.w.alloc (.cells us' e)):=by
      by_cases hn0:n*al P e=0
      ·have hfill:Instr.fill (fun i_1=>some (i_1*al P e,al P e)) #[] vals.toList=some us':=by
        have:(Array.range (n*al P e)).map (u.cells[· % u.cells.size]!) = #[]:=by rw[hn0];simp
        rw[this] at g1;exact g1
       simp[Instr.buildSlice,run_underlying hT',cf hi,hn0,Array.range_zero',hfill,newRow]
      ·simp[Instr.buildSlice,run_underlying hT',cf hi,hle,hn0,z1,g1,newRow]
     have hC:Cont c (.cells us' e) n (.arr (al P e) n (mb (al P e) n cs)):=by
      refine⟨_,_,rfl,by rw[g2,hcs],Nat.le_refl _,fun q hq=>?_⟩
      have hmk:mb (al P e) n cs q=(cs.drop (q*al P e)).take (al P e):=by
       unfold mb
       split
       ·have:q=0:=by omega
        subst this
        simp
        rw[List.take_of_length_le (by rw[hcs];omega)]
       ·show tk _ (dr _ cs)=_
        rw[zql,zqw]
      have hqn:q*al P e+al P e≤n*al P e:=by
       have:(q+1)*al P e≤n*al P e:=Nat.mul_le_mul_right _ hq
       rwa [Nat.add_mul,Nat.one_mul] at this
      rw[hmk]
      refine⟨by simp[hcs];omega,fun j y hj hy=>g3 (q*al P e+j) y (by omega) hy, ?_⟩
      exact rn (sa g4 _) _
     obtain⟨k1,k2⟩:=hs.new _ us' e n hC
     rw[bt,ex] at h
     refine⟨_,_,_,_,hrun,k1,k2, ?_,h⟩
     simp only[VR]
     refine⟨_,_,rfl,⟨Nat.le_refl _,fun C h=>by cases hn:Nat.beq n 0<;>rw[hn] at h<;>simp only[cond_true,cond_false] at h<;>cases h;rfl⟩,(fun _=>rfl),(fun b hb=>by cases hb;simp), ?_⟩
     have:(c.locs++[some (c.w.heap.size,n)])[H.length]? = some (some (c.w.heap.size,n)):=by
      rw[List.getElem?_append_right (by rw[hs.len];exact Nat.le_refl _)]
      simp[hs.len]
     rw[this]
     simp
  ·exact h.elim
 ·exact h.elim
end
end Go.VM
end
section
namespace Go.VM
section
variable {P:Program} {F:Fr} {c:Ctx} {H:Heap}
theorem zmk (hs:SR F c H) {nl:Option Bool} {r e off n n' k:Nat} {t:Tg} {f g:Nat→List V} {u:Value} (hx:VR c (.own nl r e off n t) u) (hblk:hget H r = .arr e n' f) (hk:k≤n) (hoff:off≤n')
  {news:List Value} (hl:news.length=k*e) (he:∀ i,i<k→(g i).length=e∧One e (fun j=>news[i*e+j]?)∧VRs c (g i) fun j=>news[i*e+j]?) (he0:e≠0) :
  ∃ A cap,u = .slice A n cap∧(A=none→cap=0)∧∃ c',(match A with|some a=>storeCells a news|none=>pure ()).run P c.w = .ok () c'.w∧SR F c' (hset H r (.arr e (max n' (off+k)) (over off k g f)))∧Le c c':=by
 simp only[VR] at hx
 obtain⟨A,cap,rfl,e2,e3,e4,e5⟩:=hx
 have hA0:A=none→cap=0:=fun hA=>by
  subst hA
  split at e5
  ·rcases Nat.eq_zero_or_pos cap with h0|h0
   ·exact h0
   ·have:=e5.2 h0;cases this
  ·exact e5
  ·exact e5.elim
 refine⟨A,cap,rfl,hA0, ?_⟩
 by_cases hk0:k=0
 ·subst hk0
  have hnews:news=[]:=by simpa using hl
  subst hnews
  have hov:over off 0 g f=f:=by funext q;exact if_neg (by omega)
  have hset0:hset H r (.arr e (max n' (off+0)) (over off 0 g f))=H:=by
   rw[hov,show max n' (off+0)=n' from by omega,← hblk]
   exact zbm H r
  refine⟨c, ?_,by rw[hset0];exact hs,Le.refl _⟩
  cases A<;>simp[storeCells]
 ·have hpos:0<cap:=by omega
  split at e5
  ·rename_i b capr hr
   obtain⟨e5,e6⟩:=e5
   obtain rfl:=e6 hpos
   have hlive:=eh hblk trivial
   obtain⟨_,g1,hCont,_⟩:=hs.blk r _ _ hlive hr trivial
   have hC0:=hCont
   obtain⟨C,el,rfl,g2,_⟩:=hC0
   have hones:∀ v∈news,v.oneCell'=true:=by
    intro v hv
    obtain⟨j,hj,rfl⟩:=List.getElem_of_mem hv
    have hjm:j<k*e:=by rw[← hl];exact hj
    have hd:j / e<k:=Nat.div_lt_of_lt_mul (by rw[Nat.mul_comm];exact hjm)
    obtain⟨_,p2,_⟩:=he _ hd
    have hq':j / e*e+j % e=j:=by rw[Nat.mul_comm];exact Nat.div_add_mod j _
    exact p2 (j % e) _ (Nat.mod_lt _ (by omega)) (by dsimp only;rw[hq'];simp[hj])
   have hCs:off*e+news.length≤C.size:=by
    rw[hl,g2,← Nat.add_mul]
    exact Nat.mul_le_mul_right _ (by omega)
   have hst:=run_storeCells_at P b (off*e) el news 0 C c.w g1 (by omega) hones
   have hgetC:∀ j:Nat,(C.toList.take (off*e)++news++C.toList.drop (off*e+news.length)).toArray[j]? = if off*e≤j∧j-off*e<news.length then news[j-off*e]? else C[j]?:=fun j=>by
    rw[List.getElem?_toArray,ml _ _ _ _ (by simpa using hCs)]
    simp
   obtain⟨hs1,hle1⟩:=hs.set hlive trivial hr (.arr e (max n' (off+k)) (over off k g f)) (C.toList.take (off*e)++news++C.toList.drop (off*e+news.length)).toArray C el g1 (cap:=capr)
    (zcv hCont hl he hoff (by omega) (by simp;omega) hgetC)
   refine⟨_, ?_,hs1,hle1⟩
   simpa using hst
  ·omega
  ·exact e5.elim
theorem ka (z:Array Value) (n i j:Nat) (hj:j<z.size) (hi:i<n):(Builtin.zeroCells z n).toList[i*z.size+j]? = z[j]?:=by
 have hlt:i*z.size+j<n*z.size:=by
  have:(i+1)*z.size≤n*z.size:=Nat.mul_le_mul_right _ hi
  rw[Nat.add_mul,Nat.one_mul] at this
  omega
 have hmod:(i*z.size+j) % z.size=j:=by
  rw[Nat.mul_comm,Nat.mul_add_mod]
  exact Nat.mod_eq_of_lt hj
 simp[Builtin.zeroCells,hlt,hmod,hj]
theorem zqf (hs:SR F c H) {t ty e:Nat} (hT:da P t=some e) {z:List V} (hz:cq P e=some z) {x:V} {u:Value} (hx:VR c x u) {K:Heap→Prop} (h:tw (al P e) z H x K) :
  ∃ c' H',(Builtin.clear_ #[t] ty #[u]).run P c.w = .ok (.tuple #[]) c'.w∧SR F c' H'∧Le c c'∧K H':=by
 obtain⟨hT',he⟩:=cr hT
 unfold tw at h
 split at h
 ·simp only[VR] at hx
  subst hx
  exact⟨c,H,by simp[Builtin.clear_,run_underlying hT'],hs,Le.refl _,h⟩
 ·rename_i nl r e' off n tg
  split at h
  ·rename_i e'' n' f hblk
   cases hbb:band (Nat.beq (al P e) e') (Nat.beq (al P e) e'') with
   | false=>rw[hbb] at h;exact h.elim
   | true =>
     rw[hbb] at h
     obtain⟨hb1,hb2⟩:=ax hbb
     obtain rfl:=be hb1
     obtain rfl:=be hb2
     obtain⟨hoff,hK⟩:=h
     obtain⟨zu,hzr,z1,z2,z3,z4⟩:=zaj (c:=c) hz
     have hzs:zu.cells.size=al P e:=by omega
     obtain⟨A,cap,rfl,hA0,c',k1,k2,k3⟩:=zmk (P:=P) hs (g:=fun _=>z) (k:=n) hx hblk (Nat.le_refl _) hoff (news:=(Builtin.zeroCells zu.cells n).toList) (by
       have:=ja zu.cells n
       simp only[Array.length_toList,this,hzs])
      (fun i hi=>⟨z4,by
       intro j x hj hx
       rw[← hzs] at hx hj
       have hx':=(ka zu.cells n i j hj hi).symm.trans hx
       exact z2 j x (by omega) hx',br z3 fun j hj=>by
       rw[← hzs]
       exact ka zu.cells n i j (by omega) hi⟩) he
     refine⟨c',_, ?_,k2,k3,hK⟩
     by_cases hn0:n=0
     ·subst hn0
      cases A with
      | none =>
        simp only[Sem.run_pure,Result.ok.injEq,true_and] at k1
        simp[Builtin.clear_,run_underlying hT',k1]
      | some a =>
        have:(Builtin.zeroCells zu.cells 0).toList=[]:=by simp[Builtin.zeroCells]
        rw[this] at k1
        simp only[storeCells,Sem.run_pure,Result.ok.injEq,true_and] at k1
        simp[Builtin.clear_,run_underlying hT',k1]
     ·cases A with
      | none =>
        have:=hA0 rfl
        simp only[VR] at hx
        obtain⟨A',cap',q1,q2,_⟩:=hx
        cases q1
        omega
      | some a =>
        cases n with
        | zero=>exact absurd rfl hn0
        | succ n=>simp[Builtin.clear_,run_underlying hT',hzr,k1]
  ·exact h.elim
 ·exact h.elim
theorem Rd.elt_le {e m k:Nat} {g:Nat→List V} {A:Option Addr} {news:List Value} (h:Rd c e m g A news) (hk:k≤m):Rd c e k g A (news.take (k*e)):=by
 have hle:k*e≤m*e:=Nat.mul_le_mul_right _ hk
 refine⟨by rw[List.length_take,h.len];omega,fun j v hj=>?_,fun i hi=>?_⟩
 ·rw[List.getElem?_take] at hj
  split at hj
  ·exact h.get j v hj
  ·cases hj
 ·obtain⟨p1,p2,p3⟩:=h.elt i (by omega)
  have key:∀ j,j<e→(news.take (k*e))[i*e+j]? = news[i*e+j]?:=fun j hj=>by
   have:(i+1)*e≤k*e:=Nat.mul_le_mul_right _ hi
   rw[Nat.add_mul,Nat.one_mul] at this
   rw[List.getElem?_take,if_pos (by omega)]
  exact⟨p1,p2.mono key,br p3 fun j hj=>key j (by omega)⟩
theorem zhz (hs:SR F c H) {es:Nat} (hes:es≠0) {x:V} {u:Value} (hx:VR c x u) {q:Nat→Prop} {m:Nat} {g:Nat→List V} (h:zfg es H x=some (q,m,g)) {k:Nat} (hk:k≤m) (hq:q k) :
  ∃ A cap news,u = .slice A m cap∧m≤cap∧Rd c es k g A news:=by
 unfold zfg at h
 split at h
 ·simp only[Option.some.injEq,Prod.mk.injEq] at h
  obtain⟨-,rfl,rfl⟩:=h
  obtain⟨A,cap,news,h1,h2,h3⟩:=fe hs hes hx (q:=True) (m:=0) (g:=fun _=>[]) rfl trivial
  exact⟨A,cap,_,h1,h2,h3.elt_le hk⟩
 ·rename_i nl t e' n f
  cases hb:Nat.beq es e' with
  | false=>rw[hb] at h;cases h
  | true =>
    rw[hb] at h
    simp only[cond,Option.some.injEq,Prod.mk.injEq] at h
    obtain⟨-,rfl,rfl⟩:=h
    obtain⟨A,cap,news,h1,h2,h3⟩:=fe hs hes hx (q:=True) (m:=n) (g:=f) (by simp[view,hb]) trivial
    exact⟨A,cap,_,h1,h2,h3.elt_le hk⟩
 ·rename_i nl r e' off n t
  split at h
  ·rename_i e'' m' f hb
   cases hbb:band (Nat.beq es e') (Nat.beq es e'') with
   | false=>rw[hbb] at h;cases h
   | true =>
     rw[hbb] at h
     obtain⟨hb1,hb2⟩:=ax hbb
     obtain rfl:=be hb1
     obtain rfl:=be hb2
     simp only[cond,Option.some.injEq,Prod.mk.injEq] at h
     obtain⟨rfl,rfl,rfl⟩:=h
     simp only[VR] at hx
     obtain⟨A,cap,rfl,h2,h3,h4,h5⟩:=hx
     cases hr:c.locs[r]? with
     | none=>rw[hr] at h5;exact h5.elim
     | some l =>
       rw[hr] at h5
       obtain⟨g1,g2⟩:=hs.get hr
       rw[hb] at g2
       cases l with
       | none =>
         dsimp only at h5
         obtain⟨news,hn⟩:=Rd.of (c:=c) (m:=k) (g:=fun i=>f (off+i)) (A:=A) hes (fun i hi=>by omega)
         exact⟨A,cap,news,rfl,h2.1,hn⟩
       | some l =>
         obtain⟨b,mm⟩:=l
         dsimp only at h5
         obtain⟨_,k1,⟨C,el,rfl,k2,k3,k4⟩,_⟩:=g2 trivial
         obtain⟨h5,h6⟩:=h5
         have hq:off+k≤m':=hq
         obtain⟨news,hn⟩:=Rd.of (c:=c) (m:=k) (g:=fun i=>f (off+i)) (A:=A) hes (fun i hi=>by
          obtain⟨p1,p2,p3⟩:=k4 (off+i) (by omega)
          have key:∀ j,c.w.cell? ((⟨b,off*es,none⟩:Addr).add (i*es+j))=C[(off+i)*es+j]?:=fun j=>by
           rw[Addr.add_lit,ez k1,Nat.add_mul,Nat.add_assoc]
          exact⟨_,h6 (by omega),p1,p2.mono fun j _=>key j,br p3 fun j _=>key j⟩)
         exact⟨A,cap,news,rfl,h2.1,hn⟩
  ·cases h
 ·cases h
theorem zvm (hs:SR F c H) {t t' ty e:Nat} (hT:da P t=some e) {d x:V} {u v:Value} (hd:VR c d u) (hx:VR c x v) {K:Nat→Heap→Prop} (h:zcw (al P e) H d x K) :
  ∃ c' H' k,(Builtin.copy_ #[t,t'] ty #[u,v]).run P c.w = .ok (.int .i64 (k:Nat)) c'.w∧SR F c' H'∧Le c c'∧K k H':=by
 obtain⟨hT',he⟩:=cr hT
 obtain⟨i,hi⟩:=bx he
 unfold zcw at h
 split at h
 case h_2=>exact h.elim
 rename_i q m g hv
 split at h
 ·obtain⟨hq,hK⟩:=h
  obtain⟨B,cap,news,rfl,hmc,hn⟩:=zhz hs he hx hv (Nat.zero_le _) hq
  simp only[VR] at hd
  subst hd
  refine⟨c,H,0, ?_,hs,Le.refl _,hK⟩
  have hf0:(Builtin.firstCells (al P e) 0 (.slice B m cap)).run P c.w = .ok #[] c.w:=by
   cases B with
   | none=>simp[Builtin.firstCells]
   | some a=>simp[Builtin.firstCells,loadCells,loadCellsFrom]
  simp[Builtin.copy_,run_underlying hT',Builtin.lenOf,cf hi,hf0,goInt]
 ·rename_i nl r e' off n tg
  split at h
  ·rename_i e'' n' f hblk
   cases hbb:band (Nat.beq (al P e) e') (Nat.beq (al P e) e'') with
   | false=>rw[hbb] at h;exact h.elim
   | true =>
     rw[hbb] at h
     obtain⟨hb1,hb2⟩:=ax hbb
     obtain rfl:=be hb1
     obtain rfl:=be hb2
     obtain⟨⟨hq,hoff⟩,hK⟩:=h
     obtain⟨B,cap,news,rfl,hmc,hk⟩:=zhz hs he hx hv (Nat.min_le_left m n) hq
     obtain⟨A,cap',rfl,hA0,c',k1,k2,k3⟩:=zmk (P:=P) hs (g:=g) (k:=min m n) hd hblk (by omega) hoff hk.len hk.elt he
     refine⟨c',_,min m n, ?_,k2,k3,hK⟩
     have hf:(Builtin.firstCells (al P e) (min m n) (.slice B m cap)).run P c.w = .ok news.toArray c.w:=by
      have:=hk.first (P:=P) (min m n) cap
      cases B with
      | none=>simpa [Builtin.firstCells] using this
      | some a=>simpa [Builtin.firstCells] using this
     have hf':(Builtin.firstCells (al P e) (Nat.min m n) (.slice B m cap)).run P c.w = .ok news.toArray c.w:=hf
     have hmm:m.min n=min m n:=rfl
     cases A with
     | none =>
       simp only[Sem.run_pure,Result.ok.injEq,true_and] at k1
       rw[← k1]
       simp[Builtin.copy_,run_underlying hT',Builtin.lenOf,cf hi,hf',goInt,hmm]
     | some a =>
       simp[Builtin.copy_,run_underlying hT',Builtin.lenOf,cf hi,hf',goInt,k1,hmm]
  ·exact h.elim
 ·exact h.elim
end
end Go.VM
end
section
namespace Go.VM
theorem fy {c c':Ctx} (h:Le c c') {E:Env} {a:Act} (H:ER c E a):ER c' E a:=fun t=>⟨fun hp=>qo h _ _ ((H t).1 hp),(H t).2⟩
section
variable {P:Program} {F:Fr} {c:Ctx} {E:Env} {H:Heap} {a:Act} {X:Nat→Bool} {k:Nat} {p:Path} {o:Oper} {Q:Exit→Act→World→Prop} {K:Env→Heap→Prop}
theorem gv (hs:St F c E H a X k) (hd:∀ x,o.dst=some x→x<F.nt) {c':Ctx} {H':Heap} (h1:SR F c' H') (h2:Le c c') {v:V} {u:Value} (h3:VR c' v u)
  (h:K (put E o.dst (k+1) [] v) H'):Nx F (k+1) K (a.put o.dst u) c'.w :=
 ox (c:=c') ⟨h1,fy h2 hs.er,hs.ki,hs.ao⟩ hd (p:=[]) (fun i b x h=>by simp at h) (fun _=>h3) (fun h=>absurd trivial h) h
theorem lg {s:Sem Value} (he:execOp a.eval o=(do pure (Next.value (← s)))) {c':Ctx} {u:Value} (hr:s.run P c.w = .ok u c'.w) {n:Act→World→Prop} (h:n (a.put o.dst u) c'.w):o.wp P a c.w n Q:=by
 simp only[Oper.wp,he,mo hr,Oper.upon]
 exact h
theorem zem {s:Sem Unit} (he:execOp a.eval o=(do s;pure Next.skip)) {c':Ctx} (hr:s.run P c.w = .ok () c'.w) {n:Act→World→Prop} (h:n (a.put o.dst undef) c'.w):o.wp P a c.w n Q:=by
 have:(execOp a.eval o).run P c.w = .ok .skip c'.w:=by rw[he];simp[Sem.run_bind,hr]
 simp only[Oper.wp,this,Oper.upon]
 exact h
theorem ob (hs:St F c E H a X k) (hd:∀ x,o.dst=some x→x<F.nt) (hp:KP X k p) {r:R} {s:Sem Value} (he:execOp a.eval o=(do pure (Next.value (← s))))
  (hrun:pc p→∀ v,r.has v→∃ u,s.run P c.w = .ok u c.w∧VR c v u) (h:rk p r fun v=>K (put E o.dst (k+1) p v) H):OpOk P F Q o k p a c K:=by
 refine jl hs hd hp (fun hpc v hv=>?_) h
 obtain⟨u,hu,hvu⟩:=hrun hpc v hv
 exact⟨u,by rw[he];exact mo hu,hvu⟩
theorem zjb (hs:St F c E H a X k) (hp:KP X k p) (hpc:pc p) {t:Operand} {b:Bool} (h:ev E p t = .bool b):KP X k (pk E p t b)∧pc (pk E p t b):=by
 unfold pk
 split
 ·rename_i t
  split
  ·rename_i i q v hg
   have hki:=(hs.ki t).2 i (by rw[hg])
   rw[hg] at hki
   have hv:v = .bool b:=by
    simp only[ev,evt,hg] at h
    cases hpp:ppre q p with
    | false=>rw[hpp] at h;cases h
    | true=>rw[hpp] at h;exact h
   rw[zgd]
   refine⟨fun i' b' x' hm=>?_, ?_⟩
   ·rcases List.mem_append.1 hm with hm|hm
    ·exact hp i' b' x' hm
    ·simp only[List.mem_singleton,Prod.mk.injEq] at hm
     obtain⟨rfl,rfl,rfl⟩:=hm
     exact⟨hki.2 _ hv,hki.1⟩
   ·rw[yn]
    intro i' b' x' hm
    rcases List.mem_append.1 hm with hm|hm
    ·exact (yn p).1 hpc i' b' x' hm
    ·simp only[List.mem_singleton,Prod.mk.injEq] at hm
     obtain⟨rfl,rfl,rfl⟩:=hm
     rfl
  ·exact⟨hp,hpc⟩
 ·exact⟨hp,hpc⟩
theorem rb (hs:St F c E H a X k) (hp:KP X k p) (hpc:pc p) (x:Option Operand):OR c (evo E p x) (x.map a.eval):=by
 cases x with
 | none=>trivial
 | some x=>exact pf hs.er hs.ki hp hpc x
theorem yv (hs:St F c E H a X k) (hp:KP X k p) (hpc:pc p) (l:List (Nat × Operand)):PR c (evp E p l) (l.map fun (i,x)=>(i,a.eval x)):=by
 induction l with
 | nil=>exact .nil
 | cons y l ih=>obtain⟨i,x⟩:=y;exact .cons (pf hs.er hs.ki hp hpc x) ih
theorem yw (a b:List V):app a b=a++b:=by induction a<;>simp_all [app]
theorem qz {g:Nat} (h:aw P g=true) (args:Array Value) (w:World):(callFunc g args).run P w = .ok (.enter g args) w:=by
 unfold aw at h
 split at h
 ·rename_i fn hf
  simp only[Bool.and_eq_true,bne_iff_ne,ne_eq] at h
  have hb:¬ (fn.body.isNone=true):=by
   have:=h.1
   cases hbb:fn.body<;>simp_all
  have hn:¬ ((fn.name == "runtime.NumGoroutine")=true):=by simpa using h.2
  unfold callFunc
  simp only[Sem.run_bind,run_program,Result.andThen_ok,hf,if_neg hn,if_neg hb,Sem.run_pure]
 ·cases h
theorem pm {xs ys:List V} {us vs:Array Value} (h1:us.size=xs.length) (hx:VRs c xs fun j=>us[j]?) (hy:VRs c ys fun j=>vs[j]?):VRs c (xs++ys) fun j=>(us++vs)[j]?:=by
 refine kz fun i v hi=>?_
 by_cases h:i<xs.length
 ·rw[List.getElem?_append_left h] at hi
  obtain⟨u,hu,hv⟩:=de hx hi
  exact⟨u,by rw[Array.getElem?_append_left (by omega)];exact hu,hv⟩
 ·rw[List.getElem?_append_right (by omega)] at hi
  obtain⟨u,hu,hv⟩:=de hy hi
  exact⟨u,by rw[Array.getElem?_append_right (by omega),h1];exact hu,hv⟩
theorem zqs (gt:GF P F) (hs:St F c E H a X k) (hp:KP X k p) (hpc:pc p) {cl:Call} (ho:o.op = .call cl) {f:Operand} (hf:cl.callee = .value f) {g:Nat} {first caps:List V} (hv:ev E p f = .fn g first caps)
  {KK:V→Heap→Prop} (h:cw P g (app first (app (evs E p cl.args.toList) caps)) H KK) {n:Act→World→Prop}
  (hn:∀ c' H' v u,SR F c' H'→Le c c'→VR c' v u→KK v H'→n (a.put o.dst u) c'.w):o.wp P a c.w n Q:=by
 have hx:=pf hs.er hs.ki hp hpc f
 rw[hv] at hx
 simp only[VR] at hx
 obtain⟨us,ws,e1,e2,e3,e4,e5⟩:=hx
 have hargs:=zif hs.er hs.ki hp hpc cl.args
 have hlen:(cl.args.map a.eval).size=(evs E p cl.args.toList).length:=by rw[xk];simp
 have hrun:∀ r w',(callFunc g (us++cl.args.map a.eval++ws)).run P c.w = .ok r w'→(execOp a.eval o).run P c.w = .ok r w':=fun r w' h=>by
  simp only[execOp,ho,resolve,hf,e1,Deferred.ofValue,Sem.run_bind,Sem.run_pure,Result.andThen_ok,invoke]
  exact h
 rw[yw,yw] at h
 rcases h F c gt hs.sr (us++cl.args.map a.eval++ws) (by simp[e2,e3,hlen,Nat.add_assoc]) (by rw[Array.append_assoc];exact pm e2 e4 (pm hlen hargs e5)) with ⟨hb,hc⟩ | ⟨r,w',h1,c',u,v,H',e,rfl,k1,k2,k3,k4⟩
 ·simp only[Oper.wp,hrun _ _ (qz hb _ _),Oper.upon]
  refine Calls.mono hc ?_
  rintro e w' ⟨c',u,v,H',rfl,rfl,k1,k2,k3,k4⟩
  exact hn c' H' v u k2 k1 k3 k4
 ·cases e
  simp only[Oper.wp,hrun _ _ h1,Oper.upon]
  exact hn c' H' v _ k2 k1 k3 k4
end
end Go.VM
end
section
open Go.MapKept
namespace Go.VM
section
variable {P:Program} {F:Fr} {c:Ctx} {H:Heap}
theorem js {w:World} {r:Nat} {es:Array MapEntry} {clock:Nat} (hb:w.heap[r]? = some (.map es clock)):(getObj r).run P w = .ok (.map es clock) w:=by simp[getObj,Sem.run,hb]
theorem ul {w:World} {r:Nat} {es:Array MapEntry} {clock:Nat} (o:Obj) (hb:w.heap[r]? = some (.map es clock)):(setObj r o).run P w = .ok () { w with heap:=w.heap.setIfInBounds r o }:=by simp[setObj,Sem.run,hb]
theorem rx {T e:Nat} (h:tmap P T=some e):∃ k,P.underlying T=some (.map k e)∧P.underlying k=some .string:=by
 unfold tmap at h
 split at h
 ·rename_i k e' hT
  split at h
  ·rename_i hk;cases h;exact⟨k,hT,hk⟩
  ·cases h
 ·cases h
theorem keq_iff {a b:List UInt8}:keq a b=true↔a=b:=by simp[keq]
theorem z2z {a b:List UInt8} (h:(⟨a.toArray⟩:ByteArray)=⟨b.toArray⟩):a=b:=by
 have:=congrArg (fun x:ByteArray=>x.data.toList) h
 simpa using this
theorem zaq {s:List UInt8}:∀ {es:List (List UInt8 × V)} {A:List MapEntry} (i:Nat),MR c es A →
  (mGet es s=none∧Instr.findNow .string (.string ⟨s.toArray⟩) A i=some none∧(∀ v,mSet es s v=es++[(s,v)])∧mDel es s=es) ∨
  ∃ n v e,mGet es s=some v∧A[n]? = some e∧e.key = .string ⟨s.toArray⟩∧VR c v e.val∧Instr.findNow .string (.string ⟨s.toArray⟩) A i=some (some (i+n,e.val)) ∧
   (∀ v,mSet es s v=es.set n (s,v))∧mDel es s=es.eraseIdx n
 | [],[],i,_=>.inl ⟨rfl,rfl,fun _=>rfl,rfl⟩
 | [],_::_,_,h=>h.elim
 | _::_,[],_,h=>h.elim
 | (k,v)::es,x::A,i,h=>by
   obtain⟨h1,h2,h3⟩:=h
   cases hk:keq k s with
   | true =>
     obtain rfl:=keq_iff.1 hk
     refine .inr ⟨0,v,x,by simp[mGet,hk],rfl,h1,h2, ?_,fun w=>by simp[mSet,hk],by simp[mDel,hk]⟩
     have:((⟨k.toArray⟩:ByteArray) == ⟨k.toArray⟩)=true:=(bytes_beq _ _).2 rfl
     simp[Instr.findNow,h1,Instr.sameNow,this]
   | false =>
     have hne:((⟨s.toArray⟩:ByteArray) == ⟨k.toArray⟩)=false:=by
      cases hb:((⟨s.toArray⟩:ByteArray) == ⟨k.toArray⟩) with
      | false=>rfl
      | true =>
        have:=z2z ((bytes_beq _ _).1 hb)
        rw[keq_iff.2 this.symm] at hk;cases hk
     rcases zaq (s:=s) (i+1) h3 with ⟨g1,g2,g3,g4⟩ | ⟨n,v',e,g1,g2,g3,g4,g5,g6,g7⟩
     ·exact .inl ⟨by simp[mGet,hk,g1],by simp[Instr.findNow,h1,Instr.sameNow,hne,g2],fun w=>by simp[mSet,hk,g3],by simp[mDel,hk,g4]⟩
     ·exact .inr ⟨n+1,v',e,by simp[mGet,hk,g1],by simpa using g2,g3,g4,by simp[Instr.findNow,h1,Instr.sameNow,hne,g5];omega,fun w=>by simp[mSet,hk,g6],by simp[mDel,hk,g7]⟩
theorem MR.push {es:List (List UInt8 × V)} {A:List MapEntry} {s:List UInt8} {v:V} {x:MapEntry} (h:MR c es A) (h1:x.key = .string ⟨s.toArray⟩) (h2:VR c v x.val):MR c (es++[(s,v)]) (A++[x]):=by
 induction es generalizing A with
 | nil=>cases A with
   | nil=>exact⟨h1,h2,trivial⟩
   | cons _ _=>exact h.elim
 | cons e es ih=>cases A with
   | nil=>exact h.elim
   | cons y A=>exact⟨h.1,h.2.1,ih h.2.2⟩
theorem MR.set {es:List (List UInt8 × V)} {A:List MapEntry} {s:List UInt8} {v:V} {x:MapEntry} (h:MR c es A) (h1:x.key = .string ⟨s.toArray⟩) (h2:VR c v x.val) (n:Nat):MR c (es.set n (s,v)) (A.set n x):=by
 induction es generalizing A n with
 | nil=>cases A with
   | nil=>exact trivial
   | cons _ _=>exact h.elim
 | cons e es ih=>cases A with
   | nil=>exact h.elim
   | cons y A=>cases n with
     | zero=>exact⟨h1,h2,h.2.2⟩
     | succ n=>exact⟨h.1,h.2.1,ih h.2.2 n⟩
theorem MR.erase {es:List (List UInt8 × V)} {A:List MapEntry} (h:MR c es A) (n:Nat):MR c (es.eraseIdx n) (A.eraseIdx n):=by
 induction es generalizing A n with
 | nil=>cases A with
   | nil=>exact trivial
   | cons _ _=>exact h.elim
 | cons e es ih=>cases A with
   | nil=>exact h.elim
   | cons y A=>cases n with
     | zero=>exact h.2.2
     | succ n=>exact⟨h.1,h.2.1,ih h.2.2 n⟩
theorem MR.length {es:List (List UInt8 × V)} {A:List MapEntry} (h:MR c es A):A.length=es.length:=by
 induction es generalizing A with
 | nil=>cases A with
   | nil=>rfl
   | cons _ _=>exact h.elim
 | cons e es ih=>cases A with
   | nil=>exact h.elim
   | cons y A=>simp[ih h.2.2]
theorem zhr (hs:SR F c H) {r:Nat} {u:Value} {es:List (List UInt8 × V)} (hx:VR c (.mp r) u) (hb:hget H r = .mp es) :
  ∃ b m A k,u = .map (some b)∧c.locs[r]? = some (some (b,m))∧H[r]? = some (.mp es)∧c.w.heap[b]? = some (.map A k)∧MR c es A.toList:=by
 simp only[VR] at hx
 split at hx
 ·rename_i b m hr
  subst hx
  have hlive:=eh hb trivial
  obtain⟨_,g1,⟨A,k,rfl,g2⟩,_⟩:=hs.blk r _ _ hlive hr trivial
  exact⟨b,m,A,k,rfl,hr,hlive,g1,g2⟩
 ·exact hx.elim
theorem zxh (hs:SR F c H) {T ty:Nat} {x z:V} {u:Value} (hx:VR c x u) (h:(lenV (bp P T) (tmap P T) H x).has z):∃ r,(∀ w,c.w.Extends w→(Builtin.len_ #[T] ty #[u]).run P w = .ok r w)∧VR c z r:=by
 unfold lenV at h
 split at h
 ·rename_i r
  split at h
  ·rename_i e es hT hb
   simp only[R.has] at h;subst h
   obtain⟨b,m,A,k,rfl,_,_,h4,h5⟩:=zhr hs hx hb
   obtain⟨kt,hT,_⟩:=rx hT
   refine⟨goInt A.size,fun w hw=>?_,by simp only[VR,goInt];rw[← h5.length];simp⟩
   have hb':w.heap[b]? = some (.map A k):=by
    rw[hw.block b (Array.getElem?_eq_some_iff.1 h4).1];exact h4
   simp[Builtin.len_,run_underlying hT,js hb']
  ·exact h.elim
 ·refine⟨(zc (P:=P) (w:=c.w) (ty:=ty) hx h).choose,fun w _=>?_,(zc (P:=P) (w:=c.w) (ty:=ty) hx h).choose_spec.2⟩
  obtain⟨r,h1,h2⟩:=zc (P:=P) (w:=w) (ty:=ty) hx h
  have h3:=(zc (P:=P) (w:=c.w) (ty:=ty) hx h).choose_spec.2
  generalize (zc (P:=P) (w:=c.w) (ty:=ty) hx h).choose=r' at h3
  have:r=r':=by
   unfold vlen at h
   split at h<;>first|exact h.elim|(simp only[R.has] at h;subst h;simp only[VR] at h2 h3;rw[h2,h3])
  rw[← this];exact h1
theorem zix (hs:SR F c H) (T:Nat):∃ c',(Instr.makeMap T none).run P c.w = .ok (.map (some c.w.heap.size)) c'.w∧SR F c' (H++[.mp []])∧Le c c'∧VR c' (.mp H.length) (.map (some c.w.heap.size)):=by
 obtain⟨a,b⟩:=hs.newO (.mp []) (.map #[] 0) 0 ⟨_,_,rfl,trivial⟩
 refine⟨_, ?_,a,b, ?_⟩
 ·simp[Instr.makeMap]
 ·simp only[VR]
  rw[List.getElem?_append_right (by rw[hs.len];exact Nat.le_refl _)]
  simp[hs.len]
theorem tt (hs:SR F c H) {T e r:Nat} (hT:tmap P T=some e) {s:List UInt8} {y:V} {u v:Value} {es:List (List UInt8 × V)} (hx:VR c (.mp r) u) (hb:hget H r = .mp es) (hy:VR c y v) :
  ∃ c',(Instr.mapUpdate T u (.string ⟨s.toArray⟩) v).run P c.w = .ok () c'.w∧SR F c' (hset H r (.mp (mSet es s y)))∧Le c c':=by
 obtain⟨kt,hT,hk⟩:=rx hT
 obtain⟨b,m,A,k,rfl,h2,h3,h4,h5⟩:=zhr hs hx hb
 have hck:=fun w=>run_checkKey (P:=P) (w:=w) (k:=.string ⟨s.toArray⟩) hk trivial false 9999
 rcases zaq (s:=s) 0 h5 with ⟨g1,g2,g3,g4⟩ | ⟨n,v',x,g1,g2,g3,g4,g5,g6,g7⟩
 ·obtain⟨k1,k2⟩:=hs.setO h3 trivial h2 (.mp (mSet es s y)) _ (.map (A.push { key:=.string ⟨s.toArray⟩,val:=v,born:=k }) (k+1)) h4 ⟨_,_,rfl,by
   rw[g3];simpa using h5.push (x:={ key:=.string ⟨s.toArray⟩,val:=v,born:=k }) rfl hy⟩
  refine⟨_, ?_,k1,k2⟩
  simp[Instr.mapUpdate,run_underlying hT,js h4,hck,run_findKey hk g2,ul _ h4,World.pobj]
 ·obtain⟨k1,k2⟩:=hs.setO h3 trivial h2 (.mp (mSet es s y)) _ (.map (A.modify n fun e=>{ e with key:=.string ⟨s.toArray⟩,val:=v }) k) h4 ⟨_,_,rfl,by
   rw[g6]
   have:(A.modify n fun e=>{ e with key:=.string ⟨s.toArray⟩,val:=v }).toList=A.toList.set n { x with key:=.string ⟨s.toArray⟩,val:=v }:=by
    apply List.ext_getElem?
    intro j
    simp only[Array.getElem?_toList,Array.getElem?_modify,List.getElem?_set]
    by_cases hj:n=j
    ·subst hj
     have hx:A[n]? = some x:=by simpa using g2
     have hn:=(Array.getElem?_eq_some_iff.1 hx).1
     have:=(Array.getElem?_eq_some_iff.1 hx).2
     simp[hn,this]
    ·simp[hj]
   rw[this]
   exact h5.set rfl hy n⟩
  refine⟨_, ?_,k1,k2⟩
  have hx:A[n]? = some x:=by simpa using g2
  have hks:=run_keyThatStays (P:=P) (w:=c.w) (d:=.string) (k:=.string ⟨s.toArray⟩) trivial
  simp only[Nat.zero_add] at g5
  simp[Instr.mapUpdate,run_underlying hT,js h4,hck,run_findKey hk g5,ul _ h4,World.pobj,hx,g3,hks]
theorem z0q {e:Nat} {z:V} (h:tzv P e=some z):∃ u,(∀ w,(zeroValue e).run P w = .ok u w)∧∀ c,VR c z u:=by
 unfold tzv at h
 split at h
 ·rename_i i hi
  split at h
  ·rename_i us hz
   split at h
   ·rename_i h1
    cases h
    refine⟨.agg us,fun w=>by simp[zeroValue,typeInfo,hi,hz],fun c=>?_⟩
    simp only[VR]
    refine⟨us,rfl,by rw[ta];simp,fun j x hj hx=>?_, ?_⟩
    ·simp only[List.all_eq_true] at h1
     exact h1 x (by have hx:us[j]? = some x:=hx;rw[← Array.getElem?_toList] at hx;exact List.mem_of_getElem? hx)
    ·rw[ta]
     refine kz fun i v hi=>?_
     simp only[List.getElem?_map,Option.map_eq_some_iff] at hi
     obtain⟨x,hx,rfl⟩:=hi
     exact⟨x,by simpa using hx,zhx c x⟩
   ·cases h
  ·rename_i v _ hz
   cases h
   exact⟨v,fun w=>by simp[zeroValue,typeInfo,hi,hz],fun c=>zhx c v⟩
  ·cases h
 ·cases h
theorem zgp (hs:SR F c H) {T e r:Nat} (hT:tmap P T=some e) {s:List UInt8} {u:Value} {z:V} {es:List (List UInt8 × V)} (hz:tzv P e=some z) (hx:VR c (.mp r) u) (hb:hget H r = .mp es) (ok:Bool) :
  ∃ v,(∀ w,c.w.Extends w→(Instr.lookup T u (.string ⟨s.toArray⟩) ok).run P w = .ok v w)∧VR c (zbz ok z es s) v:=by
 unfold zbz
 obtain⟨kt,hT,hk⟩:=rx hT
 obtain⟨b,m,A,k,rfl,h2,h3,h4,h5⟩:=zhr hs hx hb
 obtain⟨zu,hz1,hz2⟩:=z0q hz
 have hold:∀ w,c.w.Extends w→w.heap[b]? = some (.map A k):=fun w hw=>by
  rw[hw.block b (Array.getElem?_eq_some_iff.1 h4).1];exact h4
 have fin:∀ (a:V) (av:Value) (f:Bool),VR c a av→VR c (.tup [a,.bool f]) (.tuple #[av,.bool f]):=fun a av f h=>by
  simp only[VR]
  exact⟨_,rfl,rfl,by simp only[VRs,VR];exact⟨⟨av,rfl,h⟩,⟨.bool f,rfl,rfl⟩,trivial⟩⟩
 rcases zaq (s:=s) 0 h5 with ⟨g1,g2,g3,g4⟩ | ⟨n,v',x,g1,g2,g3,g4,g5,g6,g7⟩
 ·have e1:mVal z es s=z:=by simp[mVal,g1]
  have e2:mHas es s=false:=by simp[mHas,g1]
  rw[e1,e2]
  cases ok with
  | true =>
    refine⟨.tuple #[zu,.bool false],fun w hw=>?_,fin _ _ _ (hz2 c)⟩
    have hck:=fun em=>run_checkKey (P:=P) (w:=w) (k:=.string ⟨s.toArray⟩) hk trivial em 9999
    simp[Instr.lookup,run_underlying hT,js (hold w hw),hck,run_findKey hk g2,hz1]
  | false =>
    refine⟨zu,fun w hw=>?_,hz2 c⟩
    have hck:=fun em=>run_checkKey (P:=P) (w:=w) (k:=.string ⟨s.toArray⟩) hk trivial em 9999
    simp[Instr.lookup,run_underlying hT,js (hold w hw),hck,run_findKey hk g2,hz1]
 ·have e1:mVal z es s=v':=by simp[mVal,g1]
  have e2:mHas es s=true:=by simp[mHas,g1]
  rw[e1,e2]
  cases ok with
  | true =>
    refine⟨.tuple #[x.val,.bool true],fun w hw=>?_,fin _ _ _ g4⟩
    have hck:=fun em=>run_checkKey (P:=P) (w:=w) (k:=.string ⟨s.toArray⟩) hk trivial em 9999
    simp[Instr.lookup,run_underlying hT,js (hold w hw),hck,run_findKey hk g5]
  | false =>
    refine⟨x.val,fun w hw=>?_,g4⟩
    have hck:=fun em=>run_checkKey (P:=P) (w:=w) (k:=.string ⟨s.toArray⟩) hk trivial em 9999
    simp[Instr.lookup,run_underlying hT,js (hold w hw),hck,run_findKey hk g5]
theorem zpt (hs:SR F c H) {T e r ty:Nat} {ts:Array TypeId} (h0:ts[0]? = some T) (hT:tmap P T=some e) {s:List UInt8} {u:Value} {es:List (List UInt8 × V)} (hx:VR c (.mp r) u) (hb:hget H r = .mp es) :
  ∃ c',(Builtin.delete_ ts ty #[u,.string ⟨s.toArray⟩]).run P c.w = .ok (.tuple #[]) c'.w∧SR F c' (hset H r (.mp (mDel es s)))∧Le c c':=by
 obtain⟨kt,hT,hk⟩:=rx hT
 obtain⟨b,m,A,k,rfl,h2,h3,h4,h5⟩:=zhr hs hx hb
 have hck:=fun em=>run_checkKey (P:=P) (w:=c.w) (k:=.string ⟨s.toArray⟩) hk trivial em 9999
 rcases zaq (s:=s) 0 h5 with ⟨g1,g2,g3,g4⟩ | ⟨n,v',x,g1,g2,g3,g4,g5,g6,g7⟩
 ·obtain⟨k1,k2⟩:=hs.setO h3 trivial h2 (.mp (mDel es s)) _ (.map A k) h4 ⟨_,_,rfl,by rw[g4];exact h5⟩
  refine⟨_, ?_,k1,k2⟩
  simp[Builtin.delete_,h0,run_underlying hT,js h4,hck,run_findKey hk g2,ul _ h4,World.pobj]
 ·obtain⟨k1,k2⟩:=hs.setO h3 trivial h2 (.mp (mDel es s)) _ (.map (A.eraseIdxIfInBounds n) k) h4 ⟨_,_,rfl,by
   rw[g7]
   have hx:A[n]? = some x:=by simpa using g2
   have hn:=(Array.getElem?_eq_some_iff.1 hx).1
   have:(A.eraseIdxIfInBounds n).toList=A.toList.eraseIdx n:=by simp[Array.eraseIdxIfInBounds,hn]
   rw[this]
   exact h5.erase n⟩
  refine⟨_, ?_,k1,k2⟩
  simp only[Nat.zero_add] at g5
  simp[Builtin.delete_,h0,run_underlying hT,js h4,hck,run_findKey hk g5,ul _ h4,World.pobj]
end
end Go.VM
namespace Go.VM
section
variable {P:Program} {F:Fr} {c:Ctx} {H:Heap}
theorem zot {t:Nat} (h:tint P t=true):∃ k,P.underlying t=some (.int k):=by
 unfold tint at h
 split at h
 ·rename_i k hk;exact⟨k,hk⟩
 ·cases h
theorem z2n {n:Int} (h1 : -9223372036854775808≤n) (h2:n≤9223372036854775807):IntKind.i64.wrap n=n:=by
 simp[IntKind.wrap,IntKind.bits,IntKind.signed]
 split<;>omega
theorem ud (w:World) (t ti ty e:TypeId) (i:TypeInfo) (z:Value) (k k0:IntKind) (ht:P.underlying t=some (.slice e)) (hti:P.underlying ti=some (.int k0)) (hi:P.info? e=some i) (hz:i.zero=some z)
  (A:Option Addr) (sLen sCap n:Nat) (olds:List Value) (ho:(Builtin.firstCells i.size sLen (.slice A sLen sCap)).run P w.drew = .ok olds.toArray w.drew)
  (hg:sCap<sLen+n) (hn:0<n) (hsz:i.size≠0) (hb:0<i.bytes) (hfit:(sLen+n)*i.bytes≤140737488355328) :
  (Builtin.append_ #[t,ti] ty #[.slice A sLen sCap,.int k n]).run P w =
   .ok (.slice (some ⟨w.heap.size,0,none⟩) (sLen+n) (grownCap w (sLen+n) sCap e))
    (w.drew.alloc (.cells ((olds++(Builtin.zeroCells z.cells n).toList).toArray++Builtin.zeroCells z.cells (grownCap w (sLen+n) sCap e-(sLen+n))) e)):=by
 have hn':¬ (sLen+n≤sCap):=by omega
 have hle:sLen+n≤140737488355328:=Nat.le_trans (Nat.le_mul_of_pos_right _ hb) hfit
 have hwr:IntKind.i64.wrap (n:Int)=(n:Int):=z2n (by omega) (by omega)
 have h0:¬ ((n:Int)<0):=by omega
 have h63:¬ (9223372036854775807<((sLen:Int)+(n:Int))):=by omega
 have h48:¬ (281474976710656<Builtin.nextslicecap (sLen+n) sCap*i.bytes):=by
  have:=growslice_fits hg hfit;omega
 have h48b:¬ (281474976710656<(n:Int)*(i.bytes:Int)):=by
  have:n*i.bytes≤(sLen+n)*i.bytes:=Nat.mul_le_mul_right _ (by omega)
  have h2:n*i.bytes≤140737488355328:=Nat.le_trans this hfit
  have h3:((n*i.bytes:Nat):Int)≤140737488355328:=by omega
  simp only[Int.natCast_mul] at h3
  omega
 have hnz:¬ (n*i.size=0):=Nat.mul_ne_zero (by omega) hsz
 simp[Builtin.append_,run_underlying ht,run_underlying hti,sizeOf,typeInfo,zeroValue,hi,hz,asInt,asIntOf,hwr,h0,h48b,hn',h63,h48,Question.forced,ho,newRow,grownCap]
 rw[if_neg hnz]
 congr 3
 apply Array.ext'
 simp
theorem zkj {t ti ty e:Nat} (hT:da P t=some e) (hti:tint P ti=true) {z:List V} (hz:cq P e=some z) (hb:co P e≠0) (hs:SR F c H)
  {s x:V} {u v:Value} (hsv:VR c s u) (hx:VR c x v) {K:V→Heap→Prop} (h:ln (al P e) (co P e) z H s x K) :
  ∃ c' H' r y,(Builtin.append_ #[t,ti] ty #[u,v]).run P c.w = .ok r c'.w∧SR F c' H'∧Le c c'∧VR c' y r∧K y H':=by
 obtain⟨hT',he⟩:=cr hT
 obtain⟨i,hi⟩:=bx he
 have hsz:al P e=i.size:=by simp[al,hi]
 have hby:co P e=i.bytes:=by simp[co,hi]
 obtain⟨k0,hti⟩:=zot hti
 unfold ln at h
 split at h
 ·rename_i nl r e' off n C k0' kk
  split at h
  ·rename_i e'' n' f hblk
   cases hbb:band (Nat.beq (al P e) e') (Nat.beq (al P e) e'') with
   | false=>rw[hbb] at h;exact h.elim
   | true =>
     rw[hbb] at h
     obtain⟨hb1,hb2⟩:=ax hbb
     obtain rfl:=be hb1
     obtain rfl:=be hb2
     obtain⟨⟨hk,hnn,hC,hfit⟩,hK⟩:=h
     obtain⟨m,rfl⟩:∃ m:Nat,kk=(m:Int):=⟨kk.toNat,by omega⟩
     simp only[Int.toNat_natCast] at hC hfit hK
     have hself:view (al P e) H (.own nl r (al P e) off n (.exact C))=some (off+n≤n',n,fun i=>f (off+i)):=by
      have hq:band (Nat.beq (al P e) (al P e)) (Nat.beq (al P e) (al P e))=true:=hbb
      unfold view
      dsimp only
      rw[hblk]
      dsimp only
      rw[hq]
      rfl
     obtain⟨A,scap,olds,hu,hsc,ho⟩:=fe hs he hsv hself hnn
     subst hu
     simp only[VR] at hsv hx
     subst hx
     obtain⟨A',cap',e1,⟨e2,e2'⟩,e3,e4,e5⟩:=hsv
     simp only[Value.slice.injEq] at e1
     obtain⟨rfl,-,rfl⟩:=e1
     obtain rfl:scap=C:=e2' C rfl
     obtain⟨i',v,hi',hv,rfl,h3,h4⟩:=my hz
     obtain rfl:i=i':=Option.some.inj (hi.symm.trans hi')
     obtain⟨zu,hzr,z1,z2,z3,z4⟩:=zaj (c:=c) hz
     have hzu:zu=v:=by
      have:=hzr c.w
      simp[zeroValue,typeInfo,hi,hv] at this
      exact this.symm
     subst hzu
     obtain⟨hs1,hle1⟩:=hs.drew
     have ho1:=(ho.mono hle1 rfl).first n scap (P:=P)
     have hm:0<m:=by omega
     have hrun:=ud (P:=P) c.w t ti ty e i zu k0' k0 hT' hti hi hv A n scap m olds (by rw[← hsz];exact ho1) hC hm (by omega) (by omega) (by rw[← hby];exact hfit)
     have hgc:=wd c.w (n+m) scap e
     have hzl:(Builtin.zeroCells zu.cells m).toList.length=m*al P e:=by
      have:=ja zu.cells m
      simp only[Array.length_toList,this,h4,hsz]
     have hlen:(olds++(Builtin.zeroCells zu.cells m).toList).length=(n+m)*i.size:=by rw[List.length_append,ho.len,hzl,hsz,Nat.add_mul]
     have hcs:zu.cells.size=al P e:=by omega
     have hCo:=vt (c:={ c with w:=c.w.drew }) (m:=m) (g:=fun _=>ofVs zu.cells.toList) (ho.mono hle1 rfl) hzl
      (fun i hi=>⟨z4,by
       intro j x hj hx
       rw[← hcs] at hx hj
       have hx':=(ka zu.cells m i j hj hi).symm.trans hx
       exact z2 j x (by omega) hx',fa hle1 _ _ _ (fun _ _ h=>h) (br z3 fun j hj=>by
       rw[← hcs]
       exact ka zu.cells m i j (by omega) hi)⟩)
      (C:=(olds++(Builtin.zeroCells zu.cells m).toList).toArray++Builtin.zeroCells zu.cells (grownCap c.w (n+m) scap e-(n+m))) (cap:=grownCap c.w (n+m) scap e) (el:=e)
      (by
       rw[Array.size_append,ja,h4,List.size_toArray,hlen,hsz,← Nat.add_mul]
       congr 1
       omega) hgc (fun j hj=>by
       rw[Array.getElem?_append_left (by rw[List.size_toArray,hlen,← hsz];exact hj),List.getElem?_toArray])
     obtain⟨k1,k2⟩:=hs1.new _ _ e _ hCo
     rw[bt,ex] at hK
     refine⟨_,_,_,_,hrun,k1,hle1.trans k2,znn (b:=c.w.heap.size) ?_ ?_ hgc,hK⟩
     ·show (c.locs++[_])[H.length]? = _
      rw[List.getElem?_append_right (by rw[hs.len];exact Nat.le_refl _)]
      simp[hs.len]
     ·cases m with
      | zero=>omega
      | succ m=>simp[napp]
  ·exact h.elim
 ·exact h.elim
theorem zok {f:Nat} {fn:Func} {tS tR e:TypeId} (hf:P.funcs[f]? = some fn) (hname:(fn.name == "runtime.NumGoroutine")=false) (hb:fn.body.isNone=true) (hn:Extern.findNext fn=none)
  (he:Extern.find fn=some (Extern.SlicesOverlaps.overlaps #[tS,tS] #[tR])) (hT:da P tS=some e)
  {nl nl':Option Bool} {r r' e1 e2 off off' n n':Nat} {t t':Tg} {m m':Nat} {g g':Nat→List V} (h1:hget H r = .arr (al P e) m g) (h2:hget H r' = .arr (al P e) m' g') (hr:r≠r') (hm':0<m')
  {K:V→Heap→Prop} (hk:K (.bool false) H):cw P f [.own nl r e1 off n t,.own nl' r' e2 off' n' t'] H K:=by
 intro F c gt hs us hsz hus
 obtain⟨hT',he0⟩:=cr hT
 obtain⟨i,hi⟩:=bx he0
 have hzs:al P e=i.size:=by simp[al,hi]
 simp only[VRs,VR] at hus
 obtain⟨⟨u1,g1,A,cap,rfl,a2,a3,a4,a5⟩,⟨u2,g2,B,cap',rfl,b2,b3,b4,b5⟩,-⟩:=hus
 have hus:us = #[.slice A n cap,.slice B n' cap']:=by
  apply Array.ext'
  apply List.ext_getElem?
  intro j
  rcases j with _|_|j
  ·simpa using g1
  ·simpa using g2
  ·have:us.toList.length=2:=by simpa using hsz
   rw[List.getElem?_eq_none (by omega)]
   simp
 subst hus
 refine .inr ⟨.bool false,c.w, ?_,c,.bool false,.bool false,H,rfl,rfl,Le.refl _,hs,by simp only[VR],hk⟩
 rw[run_callFunc_extern hf hname hb hn he]
 have key:(Extern.SlicesOverlaps.overlaps #[tS,tS] #[tR] #[.slice A n cap,.slice B n' cap']).run P c.w = .ok (.bool false) c.w:=by
  have hsize:∀ w,(Go.sizeOf e).run P w = .ok i.size w:=fun w=>by rw[← hzs];exact cf hi
  by_cases h0:n=0∨n'=0
  ·change Sem.run P (α:=Value) (do
    let some t:=(#[tS,tS]:Array TypeId)[0]? | stuck "slices.overlaps: no parameter types"
    let .slice elem ← underlying t|stuck "slices.overlaps: slice type expected"
    let size ← sizeOf elem
    match A,B with
    | some a,some b =>
      if n=0∨n'=0∨size=0 then pure (Value.bool false)
      else if a.block != b.block && (← frozen a) && (← frozen b) then unsupported .addressObserved
      else do
       if a.block != b.block then do
        noView a;noView b
        if ← mayBeOne a b then return Value.bool ((← choose (.extern "sameAddr.stringBytes" 2)) == 1)
       pure (Value.bool (a.block == b.block && a.off<b.off+n'*size && b.off<a.off+n*size))
    | _,_=>pure (Value.bool false)) c.w=_
   have h0':n=0∨n'=0∨i.size=0:=by omega
   cases A<;>cases B<;>simp[run_underlying hT',hsize,h0']
  ·have hlive:=eh h1 trivial
   have hlive':=eh h2 trivial
   split at a5
   ·rename_i b mm hrr
    split at b5
    ·rename_i b' mm' hrr'
     obtain⟨_,p1,⟨C,el,rfl,p2,p3,p4⟩,_⟩:=hs.blk r _ _ hlive hrr trivial
     obtain⟨_,q1,⟨C',el',rfl,q2,q3,q4⟩,_⟩:=hs.blk r' _ _ hlive' hrr' trivial
     obtain rfl:=a5.2 (by omega)
     obtain rfl:=b5.2 (by omega)
     have hne:b≠b':=fun h=>by
      subst h
      exact hr (hs.inj r r' _ _ b mm mm' hlive hlive' trivial trivial hrr hrr')
     refine Lib.run_overlaps_apart c.w tS tR e hT' i.size hsize ⟨b,off*e1,none⟩ ⟨b',off'*e2,none⟩ n cap n' cap' hne el el' C.size C'.size ?_ ?_ ?_ ?_ ?_
     ·simp[World.shape?,p1]
     ·simp[World.shape?,q1]
     ·rw[q2]
      have:0<mm':=by omega
      exact Nat.mul_ne_zero (by omega) (by omega)
     ·simp[World.frozen?,p1]
     ·simp[World.frozen?,p1]
    ·have:=b2.1;omega
    ·exact b5.elim
   ·have:=a2.1;omega
   ·exact a5.elim
 rw[key]
 rfl
end
end Go.VM
end
section
namespace Go.VM
section
variable {P:Program} {F:Fr} {c:Ctx} {H:Heap}
theorem va {S D:Nat} {x z:V} (h:(zkq (uh P S) (bp P S) (bp P D) H x).has z) :
  (uh P S=true∧bp P D = .str∧(zwa H x).has z)∨(zef (bp P S) (bp P D) x).has z:=by
 unfold zkq at h
 split at h
 ·rename_i h1 h2
  exact .inl ⟨h1,h2,h⟩
 ·exact .inr h
theorem zjo {t:Nat} (h:uh P t=true):∃ e,P.underlying t=some (.slice e)∧P.underlying e=some (.int .u8)∧al P e=1:=by
 unfold uh at h
 split at h
 ·rename_i e he
  split at h
  ·rename_i hu
   exact⟨e,mq he,hu,be h⟩
  ·cases h
 ·cases h
def numV (cs:List V):Int:=match cs with | [.int _ n]=>n|_=>0
theorem zym {cs:List V} (h:isCh cs):chV cs=UInt8.ofNat (numV cs).toNat:=by
 obtain⟨n,rfl⟩:=h
 rfl
theorem zlr (hs:SR F c H) {S D:Nat} (hS:uh P S=true) (hD:bp P D = .str) {x z:V} {u:Value} (hx:VR c x u) (h:(zwa H x).has z) :
  ∃ r,(∀ w',c.w.Extends w'→(convert S D u).run P w' = .ok r w')∧VR c z r:=by
 obtain⟨e,h1,h2,h3⟩:=zjo hS
 have hDs:=nm hD
 unfold zwa at h
 split at h
 ·rename_i q n f hv
  obtain⟨⟨hq,hb⟩,rfl⟩:=h
  obtain⟨A,cap,news,rfl,hn,rd⟩:=fe hs (by decide) hx hv hq
  have hnews:news=((List.range n).map fun i=>numV (f i)).map (Value.int .u8):=by
   apply List.ext_getElem?
   intro i
   by_cases hi:i<n
   ·obtain⟨k,hk⟩:=hb i hi
    obtain⟨_,_,g3⟩:=rd.elt i hi
    rw[hk] at g3
    simp only[VRs,VR] at g3
    obtain⟨⟨v,hv1,rfl⟩,_⟩:=g3
    simp only[Nat.mul_one,Nat.add_zero] at hv1
    rw[hv1]
    simp[List.getElem?_range hi,hk,numV]
   ·rw[List.getElem?_eq_none (by rw[rd.len];omega),List.getElem?_eq_none (by simp;omega)]
  have hstr:(List.range n).map (fun i=>chV (f i))=((List.range n).map fun i=>numV (f i)).map fun k=>UInt8.ofNat k.toNat:=by
   rw[List.map_map]
   apply List.map_congr_left
   intro i hi
   exact zym (hb i (by simpa using hi))
  cases A with
  | none =>
    have hn0:n=0:=by
     rcases Nat.eq_zero_or_pos n with h0|h0
     ·exact h0
     ·obtain⟨v,hv⟩:∃ v,news[0]? = some v:=⟨_,List.getElem?_eq_getElem (by rw[rd.len];omega)⟩
      obtain⟨a,ha,_⟩:=rd.get 0 v hv
      cases ha
    subst hn0
    refine⟨.string ByteArray.empty,fun w' _=>run_convert_bytes_nil w' S e h1 h2 0 cap D hDs, ?_⟩
    simp only[VR]
    rfl
  | some a =>
    refine⟨.string (strOfNums ((List.range n).map fun i=>numV (f i))),fun w' hw=>?_, ?_⟩
    ·have hl:(loadCells a n).run P w' = .ok (((List.range n).map fun i=>numV (f i)).map (Value.int .u8)).toArray w':=by
      have:=run_loadCells_list (P:=P) w' a (((List.range n).map fun i=>numV (f i)).map (Value.int .u8)) (fun j v hj=>by
       rw[← hnews] at hj
       obtain⟨a',ha,hc⟩:=rd.get j v hj
       cases ha
       exact hw.cell_of hc)
      simpa using this
     rw[run_convert_bytes_string w' S D e _ n cap h1 h2 hDs,run_bytesToString w' a n cap _ hl,foldl_push_bytes]
     simp[strOfNums,ByteArray.empty,ByteArray.emptyWithCapacity]
     rfl
    ·simp only[VR]
     rw[hstr]
     rfl
 ·exact h.elim
end
end Go.VM
end
section
namespace Go.VM
section
variable {P:Program} {F:Fr} {c:Ctx} {E:Env} {H:Heap} {a:Act} {X:Nat→Bool} {k:Nat} {p:Path} {o:Oper} {Q:Exit→Act→World→Prop} {K:Env→Heap→Prop}
theorem zfx {S D:Nat} {x z:V} {u:Value} {w:World} (hx:VR c x u) (h:(zef (bp P S) (bp P D) x).has z):∃ r,(convert S D u).run P w = .ok r w∧VR c z r:=by
 unfold zef at h
 split at h
 ·rename_i k n k1 k2 h1 h2
  simp only[R.has] at h;subst h
  simp only[VR] at hx;subst hx
  refine⟨.int k2 (k2.wrap n), ?_,by simp only[VR]⟩
  simp[convert,run_underlying (zgr h1),run_underlying (zgr h2),Conv.intToInt]
 ·rename_i s h1 h2
  simp only[R.has] at h;subst h
  simp only[VR] at hx;subst hx
  refine⟨.string ⟨s.toArray⟩, ?_,by simp only[VR]⟩
  simp[convert,run_underlying (nm h1),run_underlying (nm h2)]
 ·exact h.elim
theorem ztc {T f k t:Nat} (hf:bg P T f=some (k,t)) {x z:V} {u:Value} {w:World} (hx:VR c x u) (h:(vi (some (k,t)) (ti P t) x).has z):∃ r,(Instr.field T u f).run P w = .ok r w∧VR c z r:=by
 obtain⟨fs,fld,hT,hfs,rfl,rfl,h0⟩:=ny hf
 unfold vi at h
 split at h
 ·rename_i k' t' cs heq
  cases heq
  simp only[VR] at hx
  obtain⟨us,rfl,g1,g2,g3⟩:=hx
  unfold vn at h
  dsimp only [ti] at h
  split at h
  ·rename_i hag
   cases hb:Nat.ble (fld.offset+al P fld.type) (len cs) with
   | false=>rw[hb] at h;exact h.elim
   | true =>
     rw[hb] at h
     simp only[cond,R.has] at h
     subst h
     obtain⟨i,hi⟩:=ma hag
     have hle:fld.offset+al P fld.type≤cs.length:=by rw[← jm];exact Nat.le_of_ble_eq_true hb
     refine⟨.agg (us.extract fld.offset (fld.offset+al P fld.type)), ?_, ?_⟩
     ·simp[Instr.field,run_underlying hT,hfs,asAgg,part,pp hag,cf hi]
     ·simp only[VR]
      rw[zqw,zql]
      have hget:∀ j,j<al P fld.type→(us.extract fld.offset (fld.offset+al P fld.type))[j]? = us[fld.offset+j]?:=fun j hj=>by
       rw[Array.getElem?_extract,if_pos (by rw[g1];omega)]
      have hl:((cs.drop fld.offset).take (al P fld.type)).length=al P fld.type:=by simp;omega
      refine⟨_,rfl,by simp[g1];omega, ?_, ?_⟩
      ·intro j y hj hy
       rw[hl] at hj
       exact g2 (fld.offset+j) y (by omega) ((hget j hj).symm.trans hy)
      ·exact br (rn (sa g3 _) _) fun j hj=>hget j (by omega)
  ·rename_i hag
   cases hb:Nat.blt fld.offset (len cs) with
   | false=>rw[hb] at h;exact h.elim
   | true =>
     rw[hb] at h
     simp only[cond,R.has] at h
     subst h
     have hlt:fld.offset<cs.length:=by rw[← jm];exact Nat.blt_eq ▸ hb
     obtain⟨u,hu,hv⟩:=de g3 (qu cs _ hlt)
     refine⟨u, ?_,hv⟩
     simp only[Instr.field,Sem.run_bind,run_underlying hT,Result.andThen_ok,hfs,asAgg,Sem.run_pure]
     exact nj hag us _ hu
  ·exact h.elim
 ·exact h.elim
theorem cap_ok {T ty:Nat} {x z:V} {u:Value} {w:World} (hx:VR c x u) (h:(capV (bp P T) x).has z):∃ r,(Builtin.cap_ #[T] ty #[u]).run P w = .ok r w∧VR c z r:=by
 unfold capV at h
 split at h
 ·rename_i hk
  simp only[R.has] at h;subst h
  obtain⟨e,hT⟩:=ee hk
  simp only[VR] at hx
  obtain⟨A,cap,rfl,e2,_⟩:=hx
  rw[← e2.2 _ rfl]
  exact⟨_,by simp[Builtin.cap_,run_underlying hT,goInt];rfl,by simp only[VR]⟩
 ·rename_i hk
  simp only[R.has] at h;subst h
  obtain⟨e,hT⟩:=ee hk
  simp only[VR] at hx
  obtain⟨A,cap,rfl,e2,e3,_⟩:=hx
  rw[← e3 trivial]
  exact⟨_,by simp[Builtin.cap_,run_underlying hT,goInt];rfl,by simp only[VR]⟩
 ·rename_i hk
  simp only[R.has] at h;subst h
  obtain⟨e,hT⟩:=ee hk
  simp only[VR] at hx
  subst hx
  exact⟨_,by simp[Builtin.cap_,run_underlying hT,goInt];rfl,by simp only[VR]⟩
 ·exact h.elim
theorem max_ok {ts:Array TypeId} {ty:Nat} {x y z:V} {u v:Value} {w:World} (hx:VR c x u) (hy:VR c y v) (h:(maxV x y).has z):∃ r,(Builtin.max_ ts ty #[u,v]).run P w = .ok r w∧VR c z r:=by
 unfold maxV at h
 split at h
 ·rename_i k a l b
  cases hb:Nat.beq (ikn k) (ikn l) with
  | false=>rw[hb] at h;exact h.elim
  | true =>
    rw[hb] at h
    simp only[cond,R.has] at h;subst h
    simp only[VR] at hx hy
    subst hx hy
    exact⟨_,by simp[Builtin.max_,Builtin.max2];rfl,by simp only[VR]⟩
 ·exact h.elim
theorem min_ok {ts:Array TypeId} {ty:Nat} {x y z:V} {u v:Value} {w:World} (hx:VR c x u) (hy:VR c y v) (h:(minV x y).has z):∃ r,(Builtin.min_ ts ty #[u,v]).run P w = .ok r w∧VR c z r:=by
 unfold minV at h
 split at h
 ·rename_i k a l b
  cases hb:Nat.beq (ikn k) (ikn l) with
  | false=>rw[hb] at h;exact h.elim
  | true =>
    rw[hb] at h
    simp only[cond,R.has] at h;subst h
    simp only[VR] at hx hy
    subst hx hy
    exact⟨_,by simp[Builtin.min_,Builtin.min2];rfl,by simp only[VR]⟩
 ·exact h.elim
theorem xr {x1:V} {E:Env} {p:Path} {l:List Operand} (h:evs E p l=[x1]):∃ y,l=[y]∧x1=ev E p y:=by
 rw[xk] at h
 cases l with
 | nil=>simp at h
 | cons y l=>cases l with
   | nil=>simp at h;exact⟨y,rfl,h.symm⟩
   | cons=>simp at h
theorem pw {x1 x2:V} {E:Env} {p:Path} {l:List Operand} (h:evs E p l=[x1,x2]):∃ y z,l=[y,z]∧x1=ev E p y∧x2=ev E p z:=by
 rw[xk] at h
 cases l with
 | nil=>simp at h
 | cons y l=>cases l with
   | nil=>simp at h
   | cons z l=>cases l with
     | nil=>simp at h;exact⟨y,z,rfl,h.1.symm,h.2.symm⟩
     | cons=>simp at h
theorem nk (gt:GF P F) (hs:St F c E H a X k) (hd:∀ x,o.dst=some x→x<F.nt) (hp:KP X k p) (h:xo P k o p E H K):OpOk P F Q o k p a c K:=by
 unfold xo at h
 have hev:=fun hpc x=>pf hs.er hs.ki hp hpc x (a:=a)
 split at h
 ·
  rename_i x ho
  exact ob hs hd hp (r:=.ok (ev E p x)) (s:=pure (a.eval x)) (by simp[execOp,ho]) (fun hpc v hv=>⟨_,rfl,by cases hv;exact hev hpc x⟩) h
 ·rename_i x ho
  exact ob hs hd hp (r:=.ok (ev E p x)) (s:=pure (a.eval x)) (by simp[execOp,ho]) (fun hpc v hv=>⟨_,rfl,by cases hv;exact hev hpc x⟩) h
 ·
  rename_i cc x y ho
  refine jl hs hd hp (fun hpc v hv=>?_) (kg h)
  have:=zqt (P:=P) (c:=c) (w:=c.w) hv (hev hpc cc) (au:=a.eval x) (bu:=a.eval y)
   (fun hb=>by obtain⟨h1,h2⟩:=zjb hs hp hpc hb;exact pf hs.er hs.ki h1 h2 x)
   (fun hb=>by obtain⟨h1,h2⟩:=zjb hs hp hpc hb;exact pf hs.er hs.ki h1 h2 y)
  simpa [execOp,ho] using this
 ·
  rename_i op T x y yt ho
  exact ob hs hd hp (s:=do eqGuard op T x y (a.eval x) (a.eval y);binOp op T (a.eval x) (a.eval y)) (by simp[execOp,ho]) (fun hpc v hv=>zqe (hev hpc x) (hev hpc y) hv) (kg h)
 ·
  rename_i op T x ho
  exact ob hs hd hp (s:=Op.unary op (a.eval x)) (by simp[execOp,ho]) (fun hpc v hv=>z3q (hev hpc x) hv) (kg h)
 ·
  rename_i x i ho
  exact ob hs hd hp (s:=Instr.extract (a.eval x) i) (by simp[execOp,ho]) (fun hpc v hv=>zjr (hev hpc x) hv) h
 ·
  rename_i x ho
  have hrun:∀ A,a.eval x = .pointer (some A)→(execOp a.eval o).run P c.w = .ok (.value (.pointer (some A))) c.w:=fun A hA=>by simp[execOp,ho,hA]
  split at h
  ·rename_i r off hv
   refine jl hs hd hp (r:=.ok (.ptr r off)) (fun hpc v hv'=>?_) h
   cases hv'
   have hx:=hev hpc x
   rw[hv] at hx
   have hx':=hx
   simp only[VR] at hx'
   split at hx'
   ·exact⟨_,hrun _ hx',by rw[← hx'];exact hx⟩
   ·exact hx'.elim
  ·rename_i r e i off hv
   refine jl hs hd hp (r:=.ok (.eptr r e i off)) (fun hpc v hv'=>?_) h
   cases hv'
   have hx:=hev hpc x
   rw[hv] at hx
   have hx':=hx
   simp only[VR] at hx'
   split at hx'
   ·exact⟨_,hrun _ hx',by rw[← hx'];exact hx⟩
   ·exact hx'.elim
  ·rename_i cs off hv
   refine jl hs hd hp (r:=.ok (.iptr cs off)) (fun hpc v hv'=>?_) h
   cases hv'
   have hx:=hev hpc x
   rw[hv] at hx
   have hx':=hx
   simp only[VR] at hx'
   obtain⟨b,o',hx',_⟩:=hx'
   exact⟨_,hrun _ hx',by rw[← hx'];exact hx⟩
  ·exact h.elim
 ·
  rename_i T x f ho
  exact ob hs hd hp (s:=Instr.fieldAt T (a.eval x) f) (by simp[execOp,ho]) (fun hpc v hv=>zde (hev hpc x) hv) h
 ·
  rename_i T x i ho
  exact ob hs hd hp (s:=Instr.index T (a.eval x) (a.eval i)) (by simp[execOp,ho]) (fun hpc v hv=>wu (hev hpc x) (hev hpc i) hv) (kg h)
 ·
  rename_i T x i ho
  split at h
  ·rename_i e hT
   exact ob hs hd hp (s:=Instr.indexAt T (a.eval x) (a.eval i)) (by simp[execOp,ho]) (fun hpc v hv=>zbh hT (hev hpc x) (hev hpc i) hv) h
  ·exact h.elim
 ·
  rename_i T x ho
  exact ob hs hd hp (s:=Instr.loadAt T (a.eval x)) (by simp[execOp,ho]) (fun hpc v hv=>zpd hs.sr (hev hpc x) hv) h
 ·
  rename_i T x lo hi mx ho
  exact ob hs hd hp (s:=Instr.sliceAt T (a.eval x) (lo.map a.eval) (hi.map a.eval) (mx.map a.eval)) (by simp[execOp,ho])
   (fun hpc v hv=>by
    refine znk (hev hpc x) (rb hs hp hpc lo) (rb hs hp hpc hi) (rb hs hp hpc mx) (fun e' he' h0=>?_) hv
    unfold zk at h0 ⊢
    cases hte:da P T with
    | none=>rw[hte] at h0;exact absurd rfl h0
    | some e =>
      have:=mq hte
      rw[this] at he'
      cases he'
      exact⟨rfl,rfl⟩) h
 ·
  rename_i S D x ho
  exact ob hs hd hp (s:=convert S D (a.eval x)) (by simp[execOp,ho]) (fun hpc v hv=>by
   rcases va hv with ⟨h1,h2,hv⟩|hv
   ·obtain⟨r,hr,hz⟩:=zlr (P:=P) hs.sr h1 h2 (hev hpc x) hv
    exact⟨r,hr _ (World.Extends.refl _),hz⟩
   ·exact zfx (hev hpc x) hv) (kg h)
 ·
  rename_i T x f ho
  split at h
  ·rename_i k' t hf
   exact ob hs hd hp (s:=Instr.field T (a.eval x) f) (by simp[execOp,ho]) (fun hpc v hv=>ztc hf (hev hpc x) hv) h
  ·exact h.elim
 ·
  rename_i f first caps ho
  refine jl hs hd hp (r:=.ok (.fn f (evs E p first.toList) (evs E p caps.toList))) (fun hpc v hv=>?_) h
  cases hv
  refine⟨.func (.func f) (first.map a.eval) (caps.map a.eval),by simp[execOp,ho,Instr.makeFunc], ?_⟩
  simp only[VR]
  exact⟨_,_,rfl,by rw[xk];simp,by rw[xk];simp,zif hs.er hs.ki hp hpc first,zif hs.er hs.ki hp hpc caps⟩
 ·
  rename_i T ho
  split at h
  ·rename_i z hz
   obtain⟨c',k1,k2,k3,k4⟩:=zab (P:=P) hs.sr hz
   rw[bt,ex] at h
   exact⟨fun _=>lg (s:=Instr.alloc T true (.tuple #[])) (by simp[execOp,ho]) k1 (gv hs hd k2 k3 k4 h),fun hn=>absurd trivial hn⟩
  ·exact h.elim
 ·
  rename_i T x ho
  split at h
  ·rename_i cs hb
   obtain⟨c',k1,k2,k3,k4⟩:=zpo (P:=P) hs.sr (hev trivial x) hb
   rw[bt,ex] at h
   exact⟨fun _=>lg (s:=Instr.box T (a.eval x)) (by simp[execOp,ho]) k1 (gv hs hd k2 k3 k4 h),fun hn=>absurd trivial hn⟩
  ·exact h.elim
 ·
  rename_i T x y ho
  split at h
  ·obtain⟨c',H',k1,k2,k3,k4⟩:=zuf (P:=P) hs.sr (hev trivial x) (hev trivial y) h
   exact⟨fun _=>zem (s:=Instr.storeAt T (a.eval x) (a.eval y)) (by simp[execOp,ho]) k1 (gv hs hd k2 k3 (v:=.bad) (by simp only[VR]) k4),fun hn=>absurd trivial hn⟩
  ·exact h.elim
 ·
  rename_i T ho
  split at h
  ·obtain⟨c',k1,k2,k3,k4⟩:=zix (P:=P) hs.sr T
   rw[bt,ex] at h
   exact⟨fun _=>lg (s:=Instr.makeMap T none) (by simp[execOp,ho]) k1 (gv hs hd k2 k3 k4 h),fun hn=>absurd trivial hn⟩
  ·exact h.elim
 ·
  rename_i T m x y ho
  split at h
  ·rename_i e r s hT hm hx
   split at h
   ·rename_i es hb
    have hxs:=hev trivial x
    rw[hx] at hxs
    simp only[VR] at hxs
    have hms:=hev trivial m
    rw[hm] at hms
    obtain⟨c',k1,k2,k3⟩:=tt (P:=P) hs.sr hT (s:=s) hms hb (hev trivial y)
    rw[← hxs] at k1
    exact⟨fun _=>zem (s:=Instr.mapUpdate T (a.eval m) (a.eval x) (a.eval y)) (by simp[execOp,ho]) k1 (gv hs hd k2 k3 (v:=.bad) (by simp only[VR]) h),fun hn=>absurd trivial hn⟩
   ·exact h.elim
  ·exact h.elim
 ·
  rename_i T m x y ho
  split at h
  ·rename_i e r s hT hm hx
   split at h
   ·rename_i es hb
    have hxs:=hev trivial x
    rw[hx] at hxs
    simp only[VR] at hxs
    have hms:=hev trivial m
    rw[hm] at hms
    obtain⟨c',k1,k2,k3⟩:=tt (P:=P) hs.sr hT (s:=s) hms hb (hev trivial y)
    rw[← hxs] at k1
    exact⟨fun _=>zem (s:=Instr.mapUpdate T (a.eval m) (a.eval x) (a.eval y)) (by simp[execOp,ho]) k1 (gv hs hd k2 k3 (v:=.bad) (by simp only[VR]) h),fun hn=>absurd trivial hn⟩
   ·exact h.elim
  ·exact h.elim
 ·
  rename_i T m x b ho
  split at h
  ·rename_i e r s hT hm hx
   split at h
   ·rename_i es z hb hz
    refine jl hs hd hp (r:=.ok (zbz b z es s)) (fun hpc v hv=>?_) h
    cases hv
    have hxs:=hev hpc x
    rw[hx] at hxs
    simp only[VR] at hxs
    have hms:=hev hpc m
    rw[hm] at hms
    obtain⟨u,h1,h2⟩:=zgp (P:=P) hs.sr hT (s:=s) hz hms hb b
    have h1:=h1 c.w (.refl _)
    rw[← hxs] at h1
    exact⟨u,by rw[show execOp a.eval o=(do pure (Next.value (← Instr.lookup T (a.eval m) (a.eval x) b))) from by simp[execOp,ho]];exact mo h1,h2⟩
   ·exact h.elim
  ·exact h.elim
 ·
  rename_i T n parts ho
  split at h
  ·rename_i e hT
   obtain⟨c',H',r,y,k1,k2,k3,k4,k5⟩:=gd (P:=P) hs.sr hT (n:=n) (vals:=parts.map fun (i,x)=>(i,a.eval x)) (by rw[Array.toList_map];exact yv hs hp trivial _) h
   exact⟨fun _=>lg (s:=Instr.buildSlice T n (parts.map fun (i,x)=>(i,a.eval x))) (by simp[execOp,ho]) k1 (gv hs hd k2 k3 k4 k5),fun hn=>absurd trivial hn⟩
  ·exact h.elim
 ·
  rename_i T parts ho
  split at h
  ·rename_i z pl hz hpl
   split at h
   ·rename_i cs hf
    refine jl hs hd hp (r:=.ok (.agg cs)) (fun hpc v hv=>?_) h
    cases hv
    obtain⟨u,h1,h2⟩:=zrx (P:=P) (c:=c) hz hpl (vals:=parts.map fun (i,x)=>(i,a.eval x)) (by rw[Array.toList_map];exact yv hs hp hpc _) hf
    exact⟨u,by rw[show execOp a.eval o=(do pure (Next.value (← Instr.build T (parts.map fun (i,x)=>(i,a.eval x))))) from by simp[execOp,ho]];exact mo h1,h2⟩
   ·exact h.elim
  ·exact h.elim
 ·
  rename_i cl ho
  split at h
  ·rename_i b hb
   unfold xb at h
   split at h
   ·rename_i t x hts hxs
    obtain⟨y,hy,rfl⟩:=xr hxs
    refine jl hs hd hp (fun hpc v hv=>?_) h
    obtain⟨u,h1,h2⟩:=zxh (P:=P) (ty:=o.type) hs.sr (hev hpc y) hv
    have h1:=h1 c.w (.refl _)
    refine⟨u, ?_,h2⟩
    have ea:cl.args = #[y]:=by apply Array.ext';simpa using hy
    have et:cl.argTypes = #[t]:=by apply Array.ext';simpa using hts
    simp[execOp,ho,resolve,hb,invoke,builtin,ea,et,h1]
   ·rename_i t ts' r s hts hxs
    split at h
    ·rename_i e es hT hb'
     obtain⟨y1,y2,hy,hy1,hy2⟩:=pw hxs
     have hms:=hev trivial y1
     rw[← hy1] at hms
     have hss:=hev trivial y2
     rw[← hy2] at hss
     simp only[VR] at hss
     obtain⟨c',k1,k2,k3⟩:=zpt (P:=P) (ty:=o.type) (ts:=cl.argTypes) hs.sr (T:=t) (by rw[← Array.getElem?_toList,hts];rfl) hT (s:=s) hms hb'
     rw[← hss] at k1
     have ea:cl.args = #[y1,y2]:=by apply Array.ext';simpa using hy
     refine⟨fun _=>?_,fun hn=>absurd trivial hn⟩
     have hrun:(execOp a.eval o).run P c.w = .ok (.value (.tuple #[])) c'.w:=by
      simp[execOp,ho,resolve,hb,invoke,builtin,ea,k1]
     simp only[Oper.wp,hrun,Oper.upon]
     exact gv hs hd k2 k3 (v:=.tup []) (by simp only[VR];exact⟨#[],rfl,rfl,by simp only[VRs]⟩) h
    ·exact h.elim
   ·rename_i t t' x1 x2 hts hxs
    split at h
    ·obtain⟨y1,y2,hy,rfl,rfl⟩:=pw hxs
     cases hbb:Nat.beq t t' with
     | false =>
       rw[hbb] at h
       dsimp only [cond] at h
       split at h
       ·rename_i e hti hT
        split at h
        ·rename_i z hz
         cases hb0:Nat.beq (co P e) 0 with
         | true=>rw[hb0] at h;exact h.elim
         | false =>
           rw[hb0] at h
           dsimp only [cond] at h
           have hb1:co P e≠0:=by intro h0;rw[h0] at hb0;simp at hb0
           obtain⟨c',H',r,y,k1,k2,k3,k4,k5⟩:=zkj (P:=P) (ty:=o.type) hT hti hz hb1 hs.sr (hev trivial y1) (hev trivial y2) h
           have ea:cl.args = #[y1,y2]:=by apply Array.ext';simpa using hy
           have et:cl.argTypes = #[t,t']:=by apply Array.ext';simpa using hts
           refine⟨fun _=>?_,fun hn=>absurd trivial hn⟩
           have hrun:(execOp a.eval o).run P c.w = .ok (.value r) c'.w:=by
            simp[execOp,ho,resolve,hb,invoke,builtin,ea,et,k1]
           simp only[Oper.wp,hrun,Oper.upon]
           exact gv hs hd k2 k3 k4 k5
        ·exact h.elim
       ·exact h.elim
     | true =>
       rw[hbb] at h
       obtain rfl:=be hbb
       dsimp only [cond] at h
       split at h
       ·rename_i e hT
        split at h
        ·rename_i z hz
         cases hb0:Nat.beq (co P e) 0 with
         | true=>rw[hb0] at h;exact h.elim
         | false =>
           rw[hb0] at h
           dsimp only [cond] at h
           have hb1:co P e≠0:=by intro h0;rw[h0] at hb0;simp at hb0
           obtain⟨c',H',r,y,k1,k2,k3,k4,k5⟩:=zkl (P:=P) (ty:=o.type) hT hz hb1 hs.sr (hev trivial y1) (hev trivial y2) h
           have ea:cl.args = #[y1,y2]:=by apply Array.ext';simpa using hy
           have et:cl.argTypes = #[t,t]:=by apply Array.ext';simpa using hts
           refine⟨fun _=>?_,fun hn=>absurd trivial hn⟩
           have hrun:(execOp a.eval o).run P c.w = .ok (.value r) c'.w:=by
            simp[execOp,ho,resolve,hb,invoke,builtin,ea,et,k1]
           simp only[Oper.wp,hrun,Oper.upon]
           exact gv hs hd k2 k3 k4 k5
        ·exact h.elim
       ·exact h.elim
    ·exact h.elim
   ·rename_i t x1 hts hxs
    split at h
    ·obtain⟨y,hy,rfl⟩:=xr hxs
     split at h
     ·rename_i e hT
      split at h
      ·rename_i z hz
       obtain⟨c',H',k1,k2,k3,k4⟩:=zqf (P:=P) (ty:=o.type) hs.sr hT hz (hev trivial y) h
       have ea:cl.args = #[y]:=by apply Array.ext';simpa using hy
       have et:cl.argTypes = #[t]:=by apply Array.ext';simpa using hts
       refine⟨fun _=>?_,fun hn=>absurd trivial hn⟩
       have hrun:(execOp a.eval o).run P c.w = .ok (.value (.tuple #[])) c'.w:=by
        simp[execOp,ho,resolve,hb,invoke,builtin,ea,et,k1]
       simp only[Oper.wp,hrun,Oper.upon]
       exact gv hs hd k2 k3 (v:=.tup []) (by simp only[VR];exact⟨#[],rfl,rfl,by simp only[VRs]⟩) k4
      ·exact h.elim
     ·exact h.elim
    ·exact h.elim
   ·rename_i t t' x1 x2 hts hxs
    split at h
    ·obtain⟨y1,y2,hy,rfl,rfl⟩:=pw hxs
     split at h
     ·rename_i e hT
      obtain⟨c',H',kk,k1,k2,k3,k4⟩:=zvm (P:=P) (t':=t') (ty:=o.type) hs.sr hT (hev trivial y1) (hev trivial y2) h
      have ea:cl.args = #[y1,y2]:=by apply Array.ext';simpa using hy
      have et:cl.argTypes = #[t,t']:=by apply Array.ext';simpa using hts
      refine⟨fun _=>?_,fun hn=>absurd trivial hn⟩
      have hrun:(execOp a.eval o).run P c.w = .ok (.value (.int .i64 (kk:Nat))) c'.w:=by
       simp[execOp,ho,resolve,hb,invoke,builtin,ea,et,k1]
      simp only[Oper.wp,hrun,Oper.upon]
      exact gv hs hd k2 k3 (v:=.int .i64 (kk:Nat)) (by simp only[VR]) k4
     ·exact h.elim
    ·exact h.elim
   ·rename_i t x1 hts hxs
    obtain⟨y,hy,rfl⟩:=xr hxs
    refine jl hs hd hp (fun hpc v hv=>?_) h
    obtain⟨u,h1,h2⟩:=cap_ok (P:=P) (w:=c.w) (ty:=o.type) (hev hpc y) hv
    refine⟨u, ?_,h2⟩
    have ea:cl.args = #[y]:=by apply Array.ext';simpa using hy
    have et:cl.argTypes = #[t]:=by apply Array.ext';simpa using hts
    simp[execOp,ho,resolve,hb,invoke,builtin,ea,et,h1]
   ·rename_i x1 x2 hts hxs
    obtain⟨y1,y2,hy,rfl,rfl⟩:=pw hxs
    refine jl hs hd hp (fun hpc v hv=>?_) h
    obtain⟨u,h1,h2⟩:=max_ok (P:=P) (w:=c.w) (ts:=cl.argTypes) (ty:=o.type) (hev hpc y1) (hev hpc y2) hv
    refine⟨u, ?_,h2⟩
    have ea:cl.args = #[y1,y2]:=by apply Array.ext';simpa using hy
    simp[execOp,ho,resolve,hb,invoke,builtin,ea,h1]
   ·rename_i x1 x2 hts hxs
    obtain⟨y1,y2,hy,rfl,rfl⟩:=pw hxs
    refine jl hs hd hp (fun hpc v hv=>?_) h
    obtain⟨u,h1,h2⟩:=min_ok (P:=P) (w:=c.w) (ts:=cl.argTypes) (ty:=o.type) (hev hpc y1) (hev hpc y2) hv
    refine⟨u, ?_,h2⟩
    have ea:cl.args = #[y1,y2]:=by apply Array.ext';simpa using hy
    simp[execOp,ho,resolve,hb,invoke,builtin,ea,h1]
   ·exact h.elim
  ·rename_i f hf
   split at h
   ·rename_i g first caps hv
    split at h
    ·exact⟨fun _=>zqs gt hs hp trivial ho hf hv h fun c' H' v u k1 k2 k3 k4=>gv hs hd k1 k2 k3 k4,fun hn=>absurd trivial hn⟩
    ·rename_i y q
     obtain⟨v,hv1,hv2⟩:=h
     refine⟨fun hpc=>zqs gt hs hp hpc ho hf hv (hv1 hpc) fun c' H' v' u k1 k2 k3 k4=>?_,fun hn=>ox hs hd hp (fun h=>absurd h hn) (fun _=>rfl) hv2⟩
     obtain⟨rfl,rfl⟩:=k4
     exact ox (c:=c') ⟨k1,fy k2 hs.er,hs.ki,hs.ao⟩ hd hp (fun _=>k3) (fun h=>absurd hpc h) hv2
   ·exact h.elim
  ·exact h.elim
 ·exact h.elim
end
end Go.VM
end
section
namespace Go.VM
theorem ga (ops:List Oper) (i:Nat):onth ops i=ops[i]?:=by
 induction ops generalizing i with
 | nil=>simp[onth]
 | cons o os ih=>cases i with
   | zero=>simp[onth]
   | succ i=>simp[onth];exact ih i
section
variable {P:Program} {F:Fr} {c:Ctx} {E:Env} {H:Heap} {a:Act} {X:Nat→Bool} {k:Nat} {p:Path} {o:Oper}
theorem gp_ok {ops:List Oper} (hE:ER c E a) (hK:KI X k E) {g:Option (Nat × Bool)} (hg:o.guard=g) (h:gp ops E g=some p):KP X k p∧(Region.wanted o (yielded ops.toArray a.tmps)=true↔pc p):=by
 cases g with
 | none =>
   simp only[gp,Option.some.injEq] at h
   subst h
   exact⟨fun i b x h=>by simp at h,by simp[Region.wanted,hg,pc]⟩
 | some ib =>
   obtain⟨i,b⟩:=ib
   simp only[gp] at h
   split at h
   ·rename_i oi hoi
    split at h
    ·rename_i t ht
     split at h
     ·rename_i s q x hget
      cases hb:Nat.beq s (i+1) with
      | false=>rw[hb] at h;cases h
      | true =>
        rw[hb] at h
        have hs:=be hb
        subst hs
        simp only[cond,Option.some.injEq] at h
        subst h
        have h1:=hE t
        have h2:=hK t
        rw[hget] at h1 h2
        dsimp only at h1 h2
        obtain⟨h3,h4⟩:=h2.2 i rfl
        rw[zgd]
        refine⟨fun i' b' x' hm=>?_, ?_⟩
        ·rcases List.mem_append.1 hm with hm|hm
         ·exact h2.1 i' b' x' hm
         ·simp only[List.mem_singleton,Prod.mk.injEq] at hm
          obtain⟨rfl,rfl,rfl⟩:=hm
          exact⟨h4 _ rfl,h3⟩
        ·have hpc:pc (q++[(i,b,x)])↔pc q∧x=b:=by
          rw[yn,yn]
          constructor
          ·intro h
           exact⟨fun i' b' x' hm=>h i' b' x' (List.mem_append.2 (.inl hm)),h i b x (by simp)⟩
          ·rintro⟨h5,h6⟩ i' b' x' hm
           rcases List.mem_append.1 hm with hm|hm
           ·exact h5 i' b' x' hm
           ·simp only[List.mem_singleton,Prod.mk.injEq] at hm
            obtain⟨rfl,rfl,rfl⟩:=hm
            exact h6
         rw[hpc]
         have hoi':ops.toArray[i]? = some oi:=by rw[List.getElem?_toArray,← ga];exact hoi
         have hy:yielded ops.toArray a.tmps i=match a.tmps[t]? with|some (.bool b)=>some b|_=>none:=by
          unfold yielded
          rw[hoi']
          show (match (oi.dst).bind (a.tmps[·]?) with|some (.bool b)=>some b|_=>none)=_
          rw[ht]
          rfl
         have hw:Region.wanted o (yielded ops.toArray a.tmps)=(yielded ops.toArray a.tmps i == some b):=by simp[Region.wanted,hg]
         rw[hw,hy]
         by_cases hq:pc q
         ·have:=h1.1 hq
          simp only[VR] at this
          have ht2:a.tmps[t]? = some (.bool x):=by
           rw[km,Array.getD_eq_getD_getElem?] at this
           cases hh:a.tmps[t]? with
           | none=>rw[hh] at this;cases this
           | some v=>rw[hh] at this;simp at this;rw[this]
          simp[ht2,hq]
         ·have:=h1.2 hq
          have ht2:∀ y,a.tmps[t]?≠some (.bool y):=by
           intro y hy'
           rw[km,Array.getD_eq_getD_getElem?,hy'] at this
           cases this
          constructor
          ·intro hh
           exfalso
           split at hh
           ·rename_i y hy';exact ht2 y hy'
           ·cases hh
          ·rintro⟨h5,_⟩;exact absurd h5 hq
     ·cases h
    ·cases h
   ·cases h
theorem zpk {ro:Option Nat} {P:Program} {row:String} {args:Array Value} {w:World} {R:Value→World→Prop} (h:Rows P row args w R):RowsIn (fR ro) 0 P row args w R :=
 fun c cs _=>let ⟨v,w',r,s⟩:=h c cs;⟨v,w',r,(stepsIn_wide (P:=P)).2 s⟩
theorem znf {ro:Option Nat} {P:Program} {o:Oper} {a:Act} {K:Act→World→Prop} {Q:Exit→Act→World→Prop} {r:Result Next} (h:o.upon P a K Q r):o.uponIn (fR ro) 0 P a K Q r:=by
 cases r with
 | ok x w' =>
   cases x with
   | value v=>exact h
   | skip=>exact h
   | defer d=>exact h
   | enter f args=>exact⟨fun hh=>by simp[fR,Fence.wide] at hh,(callsIn_wide (n:=0)).2 h⟩
   | row r args=>exact⟨fun hh=>by simp[fR,Fence.wide] at hh,zpk h⟩
   | round l f tmps x y=>exact h.elim
   | _=>exact h.elim
 | halt x w'=>cases x<;>exact h
theorem zre {ro:Option Nat} {P:Program} {o:Oper} {a:Act} {w:World} {K:Act→World→Prop} {Q:Exit→Act→World→Prop} (hd:zfo o.op=true) (h:o.wp P a w K Q):o.wpIn (fR ro) 0 P a w K Q:=by
 refine⟨fun _ _=>trivial, ?_⟩
 rw[Oper.semAt_eq _ _ _ (fun c hc=>by rw[hc] at hd;simp[zfo] at hd)]
 exact znf h
theorem zhv {ro:Option Nat} {P:Program} {ops:Array Oper} {Q:Exit→Act→World→Prop} (hQ:¬ LetsOut Q) (hd:∀ o,o∈ops.toList→zfo o.op=true) (l:List Nat) :
  ∀ (a:Act) (w:World),wpOps P ops Q l a w→wpOpsIn (fR ro) 0 P ops Q l a w:=by
 induction l with
 | nil=>exact fun a w h=>h
 | cons i rest ih =>
   intro a w h
   simp only[wpOps] at h
   simp only[wpOpsIn]
   cases ho:ops[i]? with
   | none=>simp only[ho] at h ⊢;exact ih a w h
   | some o =>
     simp only[ho] at h ⊢
     split
     ·rename_i hw
      rw[if_pos hw] at h
      rcases h with h|h
      ·exact zre (hd o (by have:=Array.mem_of_getElem? ho;simpa using this)) (Oper.wp_mono ih h)
      ·exact absurd h.2 hQ
     ·rename_i hw
      rw[if_neg hw] at h
      exact⟨fun _ _=>trivial,ih _ _ h⟩
theorem og {F:Fr} {K:VM.X→Env→Heap→Prop}:¬ LetsOut (df F K):=by
 rintro⟨a,w,h⟩
 exact h
theorem zhb {ro:Option Nat} {P:Program} {ops:Array Oper} {id:Nat} {Q:Exit→Act→World→Prop} {a:Act} {w:World} (hQ:¬ LetsOut Q) (hd:∀ o,o∈ops.toList→zfo o.op=true) (h:wpList P ops Q ops.toList a w) :
  (Code.region id ops false).wpIn (fR ro) 0 P Q a w :=
 wpIn_region (zhv hQ hd _ _ _ (by rw[List.range_eq_range',← Array.length_toList,wpOps_eq_wpList ops.toList 0 (by simp)];exact h))
theorem oz {ro:Option Nat} {P:Program} {ops:Array Oper} {id:Nat} {Q:Exit→Act→World→Prop} {a:Act} {w:World} (hm:P.follows .mixedOrders=true) (hQ:¬ LetsOut Q) (hd:∀ o,o∈ops.toList→zfo o.op=true)
  (h:wpAny P .any ops Q ops.size (Array.replicate ops.size false) a { w with drawn:=w.drawn+1 }):(Code.region id ops true).wpIn (fR ro) 0 P Q a w :=
 wpIn_region_draw fun t=>by
  simp only[Region.schedule,hm,Bool.true_or,if_true]
  exact zhv hQ hd _ _ _ (wpAny_sound ops.size t _ a _ h)
theorem zsp (gt:GF P F) {ops:List Oper} {K:Env→Heap→Prop} {KX:VM.X→Env→Heap→Prop} (hKX:∀ E H,K E H→KX .normal E H) :
  ∀ (os:List Oper) (k:Nat) (c:Ctx) (E:Env) (H:Heap) (a:Act) (X:Nat→Bool),(∀ o∈os,∀ x,o.dst=some x→x<F.nt)→St F c E H a X k→xs P ops k os K E H →
   wpList P ops.toArray (df F KX) os a c.w:=by
 intro os
 induction os with
 | nil =>
   intro k c E H a X hnt hs h
   exact wpList_nil ⟨c,E,H,rfl,hs.sr,hs.er,hs.ao,hKX E H h⟩
 | cons o os ih =>
   intro k c E H a X hnt hs h
   simp only[xs] at h
   split at h
   ·rename_i p hg
    obtain⟨hp,hw⟩:=gp_ok hs.er hs.ki rfl hg
    have hok:=nk (Q:=df F KX) gt hs (hnt o (.head _)) hp h
    have hnx:∀ a w,Nx F (k+1) (xs P ops (k+1) os K) a w→wpList P ops.toArray (df F KX) os a w:=by
     rintro a' w' ⟨c',E',H',X',rfl,hs',hk⟩
     exact ih (k+1) c' E' H' a' X' (fun o ho=>hnt o (.tail _ ho)) hs' hk
    refine wpList_step fun K' hK'=>?_
    by_cases hpc:pc p
    ·rw[if_pos (hw.2 hpc)]
     exact Oper.wp_mono (fun a w h=>hK' a w (hnx a w h)) (hok.1 hpc)
    ·rw[if_neg (fun h=>hpc (hw.1 h))]
     exact hK' _ _ (hnx _ _ (hok.2 hpc))
   ·exact h.elim
theorem mr {n:Nat} {r:Bool} {id:Nat} {ops:Array Oper} {d:Bool} (h:okq n r (.region id ops d)=true):∀ o∈ops.toList,∀ x,o.dst=some x→x<n:=by
 simp only[okq,List.all_eq_true,Bool.and_eq_true] at h
 intro o ho x hx
 have:=(h o ho).1
 rw[hx] at this
 simpa using this
theorem pd {n:Nat} {r:Bool} {id:Nat} {ops:Array Oper} {d:Bool} (h:okq n r (.region id ops d)=true):∀ o∈ops.toList,zfo o.op=true:=by
 simp only[okq,List.all_eq_true,Bool.and_eq_true] at h
 exact fun o ho=>(h o ho).2
theorem zvw {n:Nat}:∀ (code:Code) (E:Env) (H:Heap) (K:VM.X→Env→Heap→Prop) (F:Fr) (c:Ctx) (a:Act),FN P n F→SR F c H→ER c E a→AO F a→okq F.nt F.ro.isSome code=true→xc P n code E H K →
  code.wpIn (fR F.ro) 0 P (lift F K) a c.w:=by
 intro code
 induction code with
 | skip=>intro E H K F c a hn hs he ha _ h;exact wpIn_skip <| ou ⟨c,E,H,rfl,hs,he,ha,h⟩
 | region id ops d =>
   intro E H K F c a hn hs he ha hok h
   simp only[xc] at h
   cases d with
   | false =>
     exact wpIn_mono (zhb og (pd hok) (zsp hn.gt (K:=K .normal) (fun _ _ h=>h) ops.toList 0 c (gl E) H a _ (mr hok) ⟨hs,lh he,lc E,ha⟩ h)) fun _ _ _=>ou
   | true=>exact h F c a hn hs he ha hok
 | seq x y ihx ihy =>
   intro E H K F c a hn hs he ha hok h
   simp only[okq,Bool.and_eq_true] at hok
   refine wpIn_seq (wpIn_mono (ihx E H _ F c a hn hs he ha hok.1 h) fun e a' w' hq=>?_)
   obtain⟨F',fx,hq⟩:=hq
   cases e with
   | normal=>obtain⟨c',E',H',rfl,h1,h2,h3,h4⟩:=hq;exact cx.go (fun F c a hn hs he ha hok=>ihy E' H' K F c a hn hs he ha hok h4) fx hn h1 h2 h3 hok.2
   | exit i=>obtain⟨c',E',H',rfl,h1,h2,h3,h4⟩:=hq;exact⟨F',fx,c',E',H',rfl,h1,h2,h3,h4⟩
   | ret=>obtain⟨c',E',H',rfl,h1,h2,h3,h4⟩:=hq;exact⟨F',fx,c',E',H',rfl,h1,h2,h3,h4⟩
   | goto l=>exact hq.elim
   | panic ch=>exact hq.elim
   | outgrown=>exact hq.elim
 | cond cc x y ihx ihy =>
   intro E H K F c a hn hs he ha hok h
   simp only[okq,Bool.and_eq_true] at hok
   simp only[xc] at h
   split at h
   ·rename_i b hb
    have hv:=pf (lh he) (lc E) (p:=[]) (fun i b x h=>by simp at h) trivial cc
    rw[hb] at hv
    simp only[VR] at hv
    cases b with
    | true=>exact wpIn_cond_true hv (ihx E H K F c a hn hs he ha hok.1 (h.1 rfl))
    | false=>exact wpIn_cond_false hv (ihy E H K F c a hn hs he ha hok.2 (h.2 rfl))
   ·exact h.elim
 | block id x ih =>
   intro E H K F c a hn hs he ha hok h
   refine wpIn_block (wpIn_mono (ih E H _ F c a hn hs he ha hok h) fun e a' w' hq=>?_)
   obtain⟨F',fx,hq⟩:=hq
   cases e with
   | normal=>obtain⟨c',E',H',rfl,h1,h2,h3,h4⟩:=hq;exact⟨F',fx,c',E',H',rfl,h1,h2,h3,h4⟩
   | exit i =>
     obtain⟨c',E',H',rfl,h1,h2,h3,h4⟩:=hq
     dsimp only at h4
     simp only[Exit.inBlock]
     by_cases hi:i=id
     ·subst hi
      rw[if_pos rfl]
      rw[Nat.beq_refl] at h4
      exact⟨F',fx,c',E',H',rfl,h1,h2,h3,h4⟩
     ·rw[if_neg hi]
      have hb:Nat.beq i id=false:=by
       cases hh:Nat.beq i id with
       | false=>rfl
       | true=>exact absurd (be hh) hi
      rw[hb] at h4
      exact⟨F',fx,c',E',H',rfl,h1,h2,h3,h4⟩
   | ret=>obtain⟨c',E',H',rfl,h1,h2,h3,h4⟩:=hq;exact⟨F',fx,c',E',H',rfl,h1,h2,h3,h4⟩
   | goto l=>exact hq.elim
   | panic ch=>exact hq.elim
   | outgrown=>exact hq.elim
 | loop x ih=>intro E H K F c a hn hs he ha hok h;exact h F c a hn hs he ha hok
 | exit i=>intro E H K F c a hn hs he ha _ h;exact wpIn_exit <| ou ⟨c,E,H,rfl,hs,he,ha,h⟩
 | ret=>intro E H K F c a hn hs he ha _ h;exact wpIn_ret <| ou ⟨c,E,H,rfl,hs,he,ha,h⟩
 | rangeFunc f ps x y ihx ihy=>intro E H K F c a hn hs he ha _ h;exact h.elim
 | scope x ih=>intro E H K F c a hn hs he ha _ h;exact h.elim
 | label l=>intro E H K F c a hn hs he ha _ h;exact h.elim
 | goto l=>intro E H K F c a hn hs he ha _ h;exact h.elim
 | refuse w=>intro E H K F c a hn hs he ha _ h;exact h.elim
end
end Go.VM
end
section
namespace Go.VM
mutual
def ltr (n:Nat):V→Bool
 | .own _ r _ _ _ _=>Nat.blt r n
 | .ptr r _=>Nat.blt r n
 | .eptr r _ _ _=>Nat.blt r n
 | .mp r=>Nat.blt r n
 | .agg cs=>ltrs n cs
 | .tup cs=>ltrs n cs
 | .fn _ a b=>band (ltrs n a) (ltrs n b)
 | _=>true
def ltrs (n:Nat):List V→Bool
 | []=>true
 | v::vs=>band (ltr n v) (ltrs n vs)
end
abbrev Ctx.cut (c:Ctx) (n:Nat):Ctx:={ c with locs:=c.locs.take n }
theorem xi {c:Ctx} {n r:Nat} (h:r<n):(c.cut n).locs[r]? = c.locs[r]?:=by
 show (c.locs.take n)[r]? = _
 rw[List.getElem?_take,if_pos h]
mutual
theorem zmx {c:Ctx} {n:Nat}:∀ (v:V) (u:Value),ltr n v=true→VR c v u→VR (c.cut n) v u
 | .bad,_,_,_=>by simp only[VR]
 | .nil,_,_,H=>by simpa only [VR] using H
 | .bool _,_,_,H=>by simpa only [VR] using H
 | .int _ _,_,_,H=>by simpa only [VR] using H
 | .str _,_,_,H=>by simpa only [VR] using H
 | .lst nl t e n f,u,_,H=>by simpa only [VR] using H
 | .iptr cs off,u,_,H=>by simpa only [VR] using H
 | .own nl r e off m t,u,h,H=>by
   have hr:r<n:=by simpa [ltr,Nat.blt_eq] using h
   simp only[VR] at H ⊢
   rw[xi hr];exact H
 | .ptr r off,u,h,H=>by
   have hr:r<n:=by simpa [ltr,Nat.blt_eq] using h
   simp only[VR] at H ⊢
   rw[xi hr];exact H
 | .mp r,u,h,H=>by
   have hr:r<n:=by simpa [ltr,Nat.blt_eq] using h
   simp only[VR] at H ⊢
   rw[xi hr];exact H
 | .eptr r e i off,u,h,H=>by
   have hr:r<n:=by simpa [ltr,Nat.blt_eq] using h
   simp only[VR] at H ⊢
   rw[xi hr];exact H
 | .agg cs,u,h,H=>by
   simp only[VR] at H ⊢
   obtain⟨us,e1,e2,e0,e3⟩:=H
   exact⟨us,e1,e2,e0,lr cs _ (by simpa [ltr] using h) e3⟩
 | .tup cs,u,h,H=>by
   simp only[VR] at H ⊢
   obtain⟨us,e1,e2,e3⟩:=H
   exact⟨us,e1,e2,lr cs _ (by simpa [ltr] using h) e3⟩
 | .fn f first caps,u,h,H=>by
   simp only[VR] at H ⊢
   obtain⟨us,ws,e1,e2,e3,e4,e5⟩:=H
   simp only[ltr] at h
   exact⟨us,ws,e1,e2,e3,lr first _ (ax h).1 e4,lr caps _ (ax h).2 e5⟩
theorem lr {c:Ctx} {n:Nat}:∀ (vs:List V) (g:Nat→Option Value),ltrs n vs=true→VRs c vs g→VRs (c.cut n) vs g
 | [],_,_,_=>by simp only[VRs]
 | v::vs,g,h,H=>by
   simp only[VRs] at H ⊢
   simp only[ltrs] at h
   obtain⟨⟨u,e1,e2⟩,e3⟩:=H
   exact⟨⟨u,e1,zmx v u (ax h).1 e2⟩,lr vs _ (ax h).2 e3⟩
end
def mLtr (n:Nat) (es:List (List UInt8 × V)):Prop:=∀ x∈es,ltr n x.2=true
def ltb (n:Nat):Blk→Prop
 | .box cs=>ltrs n cs=true
 | .arr _ m f=>∀ i,i<m→ltrs n (f i)=true
 | .mp es=>mLtr n es
 | .dead=>True
def hpre (n:Nat):Heap→Heap→Prop
 | [],_=>True
 | _::_,[]=>False
 | b::H,b'::H'=>b=b'∧ltb n b∧hpre n H H'
def subE (n:Nat):Env→Env→Prop
 | [],_=>True
 | e::r,E=>evt E [] e.t=e.v∧e.p=[]∧ltr n e.v=true∧subE n r E
def sub (E':Env) (H':Heap) (E:Env) (H:Heap):Prop:=subE (hlen H') E' E∧hpre (hlen H') H' H
theorem zsc {n:Nat} {H' H:Heap} (h:hpre n H' H):H'.length≤H.length∧∀ (r:Nat) x,H'[r]? = some x→H[r]? = some x∧ltb n x:=by
 induction H' generalizing H with
 | nil=>exact⟨Nat.zero_le _,fun r x h=>by simp at h⟩
 | cons b H' ih =>
   cases H with
   | nil=>exact h.elim
   | cons b' H =>
     obtain⟨rfl,h2,h3⟩:=h
     obtain⟨g1,g2⟩:=ih h3
     refine⟨by simpa using g1,fun r x hr=>?_⟩
     cases r with
     | zero=>simp at hr;subst hr;exact⟨by simp,h2⟩
     | succ r=>simpa using g2 r x (by simpa using hr)
theorem MR.map {c c':Ctx}:∀ {es:List (List UInt8 × V)} {A:List MapEntry},(∀ x∈es,∀ u,VR c x.2 u→VR c' x.2 u)→MR c es A→MR c' es A
 | [],[],_,_=>trivial
 | (k,v)::es,x::A,h,H=>⟨H.1,h (k,v) (by simp) _ H.2.1,MR.map (fun y hy=>h y (by simp[hy])) H.2.2⟩
 | [],_::_,_,H=>H.elim
 | _::_,[],_,H=>H.elim
theorem MR.mapM {c c':Ctx} {g:V→V}:∀ {es:List (List UInt8 × V)} {A:List MapEntry},(∀ x∈es,∀ u,VR c x.2 u→VR c' (g x.2) u)→MR c es A→MR c' (mMap g es) A
 | [],[],_,_=>trivial
 | (k,v)::es,x::A,h,H=>⟨H.1,h (k,v) (by simp) _ H.2.1,MR.mapM (es:=es) (fun y hy=>h y (by simp[hy])) H.2.2⟩
 | [],_::_,_,H=>H.elim
 | _::_,[],_,H=>H.elim
theorem zvu {c:Ctx} {n:Nat} {C:Obj} {cap:Nat} {x:Blk} (hl:ltb n x) (h:Cont c C cap x):Cont (c.cut n) C cap x:=by
 cases x with
 | box cs=>obtain⟨_,_,rfl,h⟩:=h;exact⟨_,_,rfl,h.1,h.2.1,lr cs _ hl h.2.2⟩
 | arr e m f=>obtain⟨_,_,rfl,h⟩:=h;exact⟨_,_,rfl,h.1,h.2.1,fun i hi=>⟨(h.2.2 i hi).1,(h.2.2 i hi).2.1,lr _ _ (hl i hi) (h.2.2 i hi).2.2⟩⟩
 | mp es=>obtain⟨_,_,rfl,h⟩:=h;exact⟨_,_,rfl,h.map fun x hx u hu=>zmx _ _ (hl x hx) hu⟩
 | dead=>trivial
theorem SR.cut {F:Fr} {c:Ctx} {H H':Heap} (h:SR F c H) (hF:F.c0.locs.length≤H'.length) (hp:hpre (hlen H') H' H):SR F (c.cut H'.length) H':=by
 rw[bt] at hp
 obtain⟨g1,g2⟩:=zsc hp
 have hloc:∀ (r:Nat) l,(c.cut H'.length).locs[r]? = some l→c.locs[r]? = some l:=fun r l hl=>by
  change (c.locs.take H'.length)[r]? = some l at hl
  rw[List.getElem?_take] at hl
  split at hl
  ·exact hl
  ·cases hl
 refine⟨h.fr,⟨fun r x e=>?_,h.le.I,h.le.heap⟩, ?_, ?_, ?_,h.imm,h.old⟩
 ·rw[xi (Nat.lt_of_lt_of_le (List.getElem?_eq_some_iff.1 e).1 hF)]
  exact h.le.locs r x e
 ·show (c.locs.take H'.length).length=_
  simp[h.len,Nat.min_eq_left g1]
 ·intro r x l hr hl
  obtain⟨k1,k2⟩:=g2 r x hr
  have hb:=h.blk r x l k1 (hloc r l hl)
  cases l with
  | none=>exact hb
  | some l =>
    obtain⟨b,m⟩:=l
    intro hlive
    obtain⟨C,e1,e2,e3⟩:=hb hlive
    exact⟨C,e1,zvu k2 e2,e3⟩
 ·intro r r' x x' b m m' hr hr' hx hx' hl hl'
  exact h.inj r r' x x' b m m' (g2 r x hr).1 (g2 r' x' hr').1 hx hx' (hloc _ _ hl) (hloc _ _ hl')
theorem oq {c:Ctx} {E:Env} {a:Act} (hE:ER c E a) (t:Nat):VR c (evt E [] t) (km a t):=by
 unfold evt
 have h1:=hE t
 generalize get E t=g at *
 obtain⟨s,q,v⟩:=g
 dsimp only at *
 cases q with
 | nil=>exact h1.1 trivial
 | cons y q=>simp[ppre,VR]
section
variable {P:Program} {n:Nat}
theorem up {code:Code} {E:Env} {H:Heap} {K:X→Env→Heap→Prop} (h:xc P n code E H K):cx P n code E H K :=
 fun F c a hF hs he ha hok=>zvw code E H K F c a hF hs he ha hok h
theorem fp {code:Code} {E:Env} {H:Heap} {K:X→Env→Heap→Prop} (t e:Nat) (f:Nat→List V) (ht:evt E [] t = .nil)
  (h:cx P n code (⟨t,0,[],.own (some true) (hlen H) e 0 0 .loose⟩::E) (hadd H (.arr e 0 f)) K):cx P n code E H K :=
 fun F c a hF hs he ha hok=>by
  obtain⟨h1,h2⟩:=hs.virt e f
  rw[bt,ex] at h
  refine h F { c with locs:=c.locs++[none] } a hF h1 (fun t'=>?_) ha hok
  rw[gr]
  split
  ·rename_i htt
   have htt':t=t':=htt
   subst htt'
   refine⟨fun _=>?_,fun h=>absurd trivial h⟩
   have hv:=oq he t
   rw[ht] at hv
   simp only[VR] at hv
   rw[hv]
   simp only[VR]
   refine⟨none,0,rfl,⟨Nat.le_refl _,fun C h=>by cases h⟩,(fun h=>by cases h),(fun b hb=>by cases hb;simp), ?_⟩
   show match (c.locs++[none])[H.length]? with|some (some (b,m))=>_|some none=>_|none=>_
   rw[List.getElem?_append_right (by rw[hs.len];exact Nat.le_refl _)]
   simp[hs.len]
  ·exact fy h2 he t'
end
end Go.VM
end
