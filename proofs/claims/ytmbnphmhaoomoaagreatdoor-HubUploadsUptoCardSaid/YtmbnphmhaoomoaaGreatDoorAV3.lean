import Derived.Test.YtmbnphmhaoomoaaGreatDoorAV2
import Derived.OrdersHeld
import Derived.Extends
set_option linter.unusedVariables false
set_option linter.unusedSimpArgs false
set_option linter.unnecessarySimpa false
set_option maxHeartbeats 4000000
section
namespace Go.VM
def idx:List Nat→Nat→Option Nat
 | [],_=>none
 | s::l,r=>bif Nat.beq s r then some 0 else (match idx l r with|some i=>some (i+1)|none=>none)
section
variable (top:Bool) (g:List V→List V) (ok:List V→Prop) (σ:List Nat) (H:Heap)
mutual
def frW:V→V
 | .own nl r e off n t=>(match idx σ r with
   | some i=>(match top with|true=>.own nl i e off n t|false=>.bad)
   | none=>(match hget H r with
     | .arr e' m f=>bif Nat.beq e e' then .lst nl t e n (fun i=>g (f (off+i))) else .bad
     | _=>.bad))
 | .ptr r off=>(match idx σ r with
   | some i=>(match top with|true=>.ptr i off|false=>.bad)
   | none=>(match hget H r with
     | .box cs=>.iptr (g cs) off
     | _=>.bad))
 | .eptr r e i off=>(match idx σ r with
   | some j=>(match top with|true=>.eptr j e i off|false=>.bad)
   | none=>(match hget H r with
     | .arr e' m f=>bif Nat.beq e e' then .iptr (g (f i)) off else .bad
     | _=>.bad))
 | .mp r=>(match idx σ r with
   | some i=>(match top with|true=>.mp i|false=>.bad)
   | none=>.bad)
 | .agg cs=>.agg (frWs cs)
 | .tup cs=>.tup (frWs cs)
 | .fn f a b=>.fn f (frWs a) (frWs b)
 | v=>v
def frWs:List V→List V
 | []=>[]
 | v::vs=>frW v::frWs vs
end
mutual
def okW:V→Prop
 | .own _ r e off n _=>(match idx σ r with
   | some _=>True
   | none=>(match hget H r with
     | .arr e' m f=>off+n≤m∧∀ i,i<n→ok (f (off+i))
     | _=>True))
 | .ptr r _=>(match idx σ r with
   | some _=>True
   | none=>(match hget H r with
     | .box cs=>ok cs
     | _=>True))
 | .eptr r e i _=>(match idx σ r with
   | some _=>True
   | none=>(match hget H r with
     | .arr e' m f=>i<m∧ok (f i)
     | _=>True))
 | .agg cs=>okWs cs
 | .tup cs=>okWs cs
 | .fn _ a b=>okWs a∧okWs b
 | _=>True
def okWs:List V→Prop
 | []=>True
 | v::vs=>okW v∧okWs vs
end
def frB:Blk→Blk
 | .box cs=>.box (frWs top g σ H cs)
 | .arr e n f=>.arr e n fun i=>frWs top g σ H (f i)
 | .mp es=>.mp (mMap (frW top g σ H) es)
 | .dead=>.dead
def okB:Blk→Prop
 | .box cs=>okWs ok σ H cs
 | .arr e n f=>∀ i,i<n→okWs ok σ H (f i)
 | .mp es=>mAll (okW ok σ H) es
 | .dead=>True
end
def bads:List V→List V
 | []=>[]
 | _::vs=>.bad::bads vs
def frD (σ:List Nat) (H:Heap):Nat→List V→List V
 | 0=>bads
 | d+1=>fun cs=>frWs false (frD σ H d) σ H cs
def okD (σ:List Nat) (H:Heap):Nat→List V→Prop
 | 0=>fun _=>True
 | d+1=>fun cs=>okWs (okD σ H d) σ H cs
def FzI (c:Ctx) (σ:List Nat) (H:Heap) (b:Nat):Prop:=c.I b∨∃ r cap x,idx σ r=none∧H[r]? = some x∧Live x∧c.locs[r]? = some (some (b,cap))
def Ctx.fz (c:Ctx) (σ:List Nat) (H:Heap):Ctx:=⟨c.w,FzI c σ H,σ.map fun r=>(match c.locs[r]? with|some l=>l|none=>none)⟩
theorem zx {σ:List Nat} {r i:Nat} (h:idx σ r=some i):σ[i]? = some r:=by
 induction σ generalizing i with
 | nil=>cases h
 | cons s l ih =>
   simp only[idx] at h
   cases hb:Nat.beq s r with
   | true=>rw[hb] at h;cases h;simp[be hb]
   | false =>
     rw[hb] at h
     dsimp only [cond] at h
     split at h
     ·rename_i j hj;cases h;simpa using ih hj
     ·cases h
theorem zq {σ:List Nat} {r:Nat} (h:idx σ r=none):r ∉ σ:=by
 induction σ with
 | nil=>simp
 | cons s l ih =>
   simp only[idx] at h
   cases hb:Nat.beq s r with
   | true=>rw[hb] at h;cases h
   | false =>
     rw[hb] at h
     dsimp only [cond] at h
     split at h
     ·cases h
     ·rename_i hj
      simp only[List.mem_cons,not_or]
      refine⟨?_,ih hj⟩
      rintro rfl
      simp at hb
theorem dp (top:Bool) (g:List V→List V) (σ:List Nat) (H:Heap) (cs:List V):(frWs top g σ H cs).length=cs.length:=by
 induction cs with
 | nil=>simp[frWs]
 | cons v vs ih=>simp[frWs,ih]
theorem zep (cs:List V):(bads cs).length=cs.length:=by induction cs<;>simp_all [bads]
theorem gk (σ:List Nat) (H:Heap) (d:Nat) (cs:List V):(frD σ H d cs).length=cs.length:=by
 cases d with
 | zero=>exact zep cs
 | succ d=>exact dp _ _ _ _ cs
section
variable {top:Bool} {F:Fr} {c:Ctx} {H:Heap} {σ:List Nat} {g:List V→List V} {ok:List V→Prop}
mutual
theorem zpz (hs:SR F c H) {L:List (Option (Nat × Nat))} (hL:top=true→∀ r i,idx σ r=some i→L[i]? = c.locs[r]?∨c.locs[r]? = none) {I:Nat→Prop} (hI:∀ b,FzI c σ H b→I b)
  (hg:∀ cs gt,VRs c cs gt→ok cs→VRs ⟨c.w,I,[]⟩ (g cs) gt) (hgl:∀ cs,(g cs).length=cs.length) :
  ∀ (v:V) (u:Value),okW ok σ H v→VR c v u→VR ⟨c.w,I,L⟩ (frW top g σ H v) u
 | .bad,_,_,_=>by simp only[frW,VR]
 | .nil,_,_,h=>by simpa only [frW,VR] using h
 | .bool _,_,_,h=>by simpa only [frW,VR] using h
 | .int _ _,_,_,h=>by simpa only [frW,VR] using h
 | .str _,_,_,h=>by simpa only [frW,VR] using h
 | .lst nl t e n f,u,_,h=>by
   simp only[frW,VR] at h ⊢
   obtain⟨A,cap,e1,e2,e3,e4,e5,e6⟩:=h
   refine⟨A,cap,e1,e2,e3,e4,e5,fun i hi=>?_⟩
   obtain⟨a,ea,ia,el,ho,hss⟩:=e6 i hi
   exact⟨a,ea,hI _ (.inl ia),el,ho,fa (c:=⟨c.w,c.I,[]⟩) (c':=⟨c.w,I,[]⟩) ⟨fun r x e=>by simp at e,fun b hb=>hI b (.inl hb),fun _ _=>rfl⟩ _ _ _ (fun _ _ h=>h) hss⟩
 | .iptr cs off,u,_,h=>by
   simp only[frW,VR] at h ⊢
   obtain⟨b,o,e1,e2,e0,e3⟩:=h
   exact⟨b,o,e1,hI _ (.inl e2),e0,fa (c:=⟨c.w,c.I,[]⟩) (c':=⟨c.w,I,[]⟩) ⟨fun r x e=>by simp at e,fun b hb=>hI b (.inl hb),fun _ _=>rfl⟩ _ _ _ (fun _ _ h=>h) e3⟩
 | .own nl r e off n t,u,hok,h=>by
   simp only[frW,VR,okW] at h hok ⊢
   obtain⟨A,cap,e1,e2,e3,e4,e5⟩:=h
   cases hi:idx σ r with
   | some i =>
     dsimp only
     cases htop:top with
     | false=>simp only[VR]
     | true =>
       simp only[VR]
       refine⟨A,cap,e1,e2,e3,e4, ?_⟩
       rcases hL htop r i hi with h1|h1
       ·rw[h1];exact e5
       ·rw[h1] at e5;exact e5.elim
   | none =>
     rw[hi] at hok
     dsimp only at hok ⊢
     split
     ·rename_i e' m f hb
      rw[hb] at hok
      cases hbb:Nat.beq e e' with
      | false=>simp only[cond,VR]
      | true =>
        obtain rfl:=be hbb
        simp only[cond,VR]
        obtain⟨hle,hok⟩:=hok
        have hlive:=eh hb trivial
        have hA:A=none→cap=0:=fun hA=>by
         subst hA
         split at e5
         ·rcases Nat.eq_zero_or_pos cap with h0|h0
          ·exact h0
          ·have:=e5.2 h0;cases this
         ·exact e5
         ·exact e5.elim
        refine⟨A,cap,e1,e2.1,e3,e4,hA,fun i hin=>?_⟩
        split at e5
        ·rename_i b mm hr
         obtain⟨h5,h6⟩:=e5
         obtain rfl:=h6 (by omega)
         obtain⟨_,k1,⟨C,el,rfl,k2,k3,k4⟩,k5,k6⟩:=hs.blk r _ _ hlive hr trivial
         obtain⟨p1,p2,p3⟩:=k4 (off+i) (by omega)
         have key:∀ j,c.w.cell? ((⟨b,off*e,none⟩:Addr).add (i*e+j))=C[(off+i)*e+j]?:=fun j=>by
          rw[Addr.add_lit,ez k1,Nat.add_mul,Nat.add_assoc]
         refine⟨_,rfl,hI _ (.inr ⟨r,mm,_,hi,hlive,trivial,hr⟩),by rw[hgl];exact p1,p2.mono fun j _=>key j, ?_⟩
         exact br (hg _ _ p3 (hok i hin)) fun j _=>key j
        ·omega
        ·exact e5.elim
     ·simp only[VR]
 | .ptr r off,u,hok,h=>by
   simp only[frW,VR,okW] at h hok ⊢
   cases hi:idx σ r with
   | some i =>
     dsimp only
     cases htop:top with
     | false=>simp only[VR]
     | true =>
       simp only[VR]
       rcases hL htop r i hi with h1|h1
       ·rw[h1];exact h
       ·rw[h1] at h;exact h.elim
   | none =>
     rw[hi] at hok
     dsimp only at hok ⊢
     split
     ·rename_i cs hb
      rw[hb] at hok
      have hlive:=eh hb trivial
      simp only[VR]
      split at h
      ·rename_i b mm hr
       obtain⟨_,k1,⟨C,el,rfl,k2,k3,k4⟩,k5,k6⟩:=hs.blk r _ _ hlive hr trivial
       have key:∀ j,c.w.cell? ⟨b,0+j,none⟩=C[j]?:=fun j=>by rw[Nat.zero_add,ez k1]
       refine⟨b,0,by rw[h];simp,hI _ (.inr ⟨r,mm,_,hi,hlive,trivial,hr⟩), ?_, ?_⟩
       ·rw[hgl];exact k3.mono fun j _=>key j
       ·exact br (hg _ _ k4 hok) fun j _=>key j
      ·exact h.elim
     ·simp only[VR]
 | .mp r,u,hok,h=>by
   simp only[frW,VR,okW] at h hok ⊢
   cases hi:idx σ r with
   | some i =>
     dsimp only
     cases htop:top with
     | false=>simp only[VR]
     | true =>
       simp only[VR]
       rcases hL htop r i hi with h1|h1
       ·rw[h1];exact h
       ·rw[h1] at h;exact h.elim
   | none=>simp only[VR]
 | .eptr r e i off,u,hok,h=>by
   simp only[frW,VR,okW] at h hok ⊢
   cases hi:idx σ r with
   | some j =>
     dsimp only
     cases htop:top with
     | false=>simp only[VR]
     | true =>
       simp only[VR]
       rcases hL htop r j hi with h1|h1
       ·rw[h1];exact h
       ·rw[h1] at h;exact h.elim
   | none =>
     rw[hi] at hok
     dsimp only at hok ⊢
     split
     ·rename_i e' m f hb
      rw[hb] at hok
      have hlive:=eh hb trivial
      cases hbb:Nat.beq e e' with
      | false=>simp only[cond,VR]
      | true =>
        obtain rfl:=be hbb
        simp only[cond,VR]
        split at h
        ·rename_i b mm hr
         obtain⟨_,k1,⟨C,el,rfl,k2,k3,k4⟩,k5,k6⟩:=hs.blk r _ _ hlive hr trivial
         obtain⟨p1,p2,p3⟩:=k4 i hok.1
         have key:∀ j,c.w.cell? ⟨b,i*e+j,none⟩=C[i*e+j]?:=fun j=>by rw[ez k1]
         refine⟨b,i*e,h,hI _ (.inr ⟨r,mm,_,hi,hlive,trivial,hr⟩), ?_, ?_⟩
         ·rw[hgl,p1];exact p2.mono fun j _=>key j
         ·exact br (hg _ _ p3 hok.2) fun j _=>key j
        ·exact h.elim
     ·simp only[VR]
 | .agg cs,u,hok,h=>by
   simp only[frW,VR,okW] at h hok ⊢
   obtain⟨us,e1,e2,e0,e3⟩:=h
   exact⟨us,e1,by rw[dp];exact e2,by rw[dp];exact e0,kj hs hL hI hg hgl cs _ hok e3⟩
 | .tup cs,u,hok,h=>by
   simp only[frW,VR,okW] at h hok ⊢
   obtain⟨us,e1,e2,e3⟩:=h
   exact⟨us,e1,by rw[dp];exact e2,kj hs hL hI hg hgl cs _ hok e3⟩
 | .fn f first caps,u,hok,h=>by
   simp only[frW,VR,okW] at h hok ⊢
   obtain⟨us,ws,e1,e2,e3,e4,e5⟩:=h
   exact⟨us,ws,e1,by rw[dp];exact e2,by rw[dp];exact e3,kj hs hL hI hg hgl first _ hok.1 e4,kj hs hL hI hg hgl caps _ hok.2 e5⟩
theorem kj (hs:SR F c H) {L:List (Option (Nat × Nat))} (hL:top=true→∀ r i,idx σ r=some i→L[i]? = c.locs[r]?∨c.locs[r]? = none) {I:Nat→Prop} (hI:∀ b,FzI c σ H b→I b)
  (hg:∀ cs gt,VRs c cs gt→ok cs→VRs ⟨c.w,I,[]⟩ (g cs) gt) (hgl:∀ cs,(g cs).length=cs.length) :
  ∀ (vs:List V) (gt:Nat→Option Value),okWs ok σ H vs→VRs c vs gt→VRs ⟨c.w,I,L⟩ (frWs top g σ H vs) gt
 | [],_,_,_=>by simp only[frWs,VRs]
 | v::vs,gt,hok,h=>by
   simp only[frWs,VRs,okWs] at h hok ⊢
   obtain⟨⟨u,e1,e2⟩,e3⟩:=h
   exact⟨⟨u,e1,zpz hs hL hI hg hgl v u hok.1 e2⟩,kj hs hL hI hg hgl vs _ hok.2 e3⟩
end
theorem zzw {c:Ctx} {vs:List V} {gt:Nat→Option Value} (h:VRs c vs gt) {c':Ctx}:VRs c' (bads vs) gt:=by
 induction vs generalizing gt with
 | nil=>simp only[bads,VRs]
 | cons v vs ih =>
   simp only[bads,VRs] at h ⊢
   obtain⟨⟨u,e1,_⟩,e3⟩:=h
   exact⟨⟨u,e1,by simp only[VR]⟩,ih e3⟩
theorem tr (hs:SR F c H) {I:Nat→Prop} (hI:∀ b,FzI c σ H b→I b):∀ (d:Nat) (cs:List V) (gt:Nat→Option Value),VRs c cs gt→okD σ H d cs→VRs ⟨c.w,I,[]⟩ (frD σ H d cs) gt
 | 0,cs,gt,h,_=>zzw h
 | d+1,cs,gt,h,hok=>kj (top:=false) hs (fun h=>by cases h) hI (tr hs hI d) (gk σ H d) cs gt hok h
abbrev frV (d:Nat) (σ:List Nat) (H:Heap) (v:V):V:=frW true (frD σ H d) σ H v
def frH (d:Nat) (σ:List Nat) (H:Heap):List Nat→Heap
 | []=>[]
 | r::l=>frB true (frD σ H d) σ H (hget H r)::frH d σ H l
def okH (d:Nat) (σ:List Nat) (H:Heap):List Nat→Prop
 | []=>True
 | r::l=>okB (okD σ H d) σ H (hget H r)∧okH d σ H l
def okσ (n:Nat):List Nat→Bool
 | []=>true
 | r::l=>(match idx l r with|some _=>false|none=>band (Nat.blt r n) (okσ n l))
theorem ru {n:Nat} {σ:List Nat} (h:okσ n σ=true):σ.Nodup∧∀ r∈σ,r<n:=by
 induction σ with
 | nil=>simp
 | cons r l ih =>
   simp only[okσ] at h
   split at h
   ·cases h
   ·rename_i hi
    obtain⟨h1,h2⟩:=ax h
    obtain⟨h3,h4⟩:=ih h2
    refine⟨List.nodup_cons.2 ⟨zq hi,h3⟩,fun x hx=>?_⟩
    rcases List.mem_cons.1 hx with rfl|hx
    ·exact Nat.blt_eq ▸ h1
    ·exact h4 x hx
theorem zgl {d:Nat} {σ:List Nat} {H:Heap} (l:List Nat) (i:Nat):(frH d σ H l)[i]? = (l[i]?).map fun r=>frB true (frD σ H d) σ H (hget H r):=by
 induction l generalizing i with
 | nil=>simp[frH]
 | cons r l ih=>cases i<;>simp[frH,ih]
theorem z3y {d:Nat} {σ:List Nat} {H:Heap} {l:List Nat} (h:okH d σ H l) {r:Nat} (hr:r∈l):okB (okD σ H d) σ H (hget H r):=by
 induction l with
 | nil=>simp at hr
 | cons x l ih =>
   rcases List.mem_cons.1 hr with rfl|hr
   ·exact h.1
   ·exact ih h.2 hr
theorem zhp {x:Blk} {top:Bool} {g:List V→List V} {σ:List Nat} {H:Heap} (h:Live (frB top g σ H x)):Live x:=by cases x<;>simp_all [frB,Live]
theorem SR.fz (hs:SR F c H) (h0:F.c0.locs=[]) (hX:∀ b,¬ F.X b) {d:Nat} (hσ:okσ H.length σ=true) (hok:okH d σ H σ) :
  SR F (c.fz σ H) (frH d σ H σ)∧(∀ v u,okW (okD σ H d) σ H v→VR c v u→VR (c.fz σ H) (frV d σ H v) u):=by
 obtain⟨hnd,hlt⟩:=ru hσ
 have hL:∀ r i,idx σ r=some i→(c.fz σ H).locs[i]? = c.locs[r]?∨c.locs[r]? = none:=by
  intro r i hi
  have:=zx hi
  simp only[Ctx.fz,List.getElem?_map,this,Option.map_some]
  cases c.locs[r]? with
  | none=>exact .inr rfl
  | some l=>exact .inl rfl
 have hloc:∀ (i:Nat) (l:Option (Nat × Nat)),(c.fz σ H).locs[i]? = some l→∃ r,σ[i]? = some r∧c.locs[r]? = some l:=by
  intro i l hl
  simp only[Ctx.fz,List.getElem?_map,Option.map_eq_some_iff] at hl
  obtain⟨r,hr,hl⟩:=hl
  refine⟨r,hr, ?_⟩
  have:r<c.locs.length:=by rw[hs.len];exact hlt r (List.mem_of_getElem? hr)
  rw[List.getElem?_eq_getElem this] at hl ⊢
  simp only at hl
  rw[hl]
 have hI:∀ b,FzI c σ H b→(c.fz σ H).I b:=fun _ h=>h
 have hnotI:∀ r x b m,r∈σ→H[r]? = some x→Live x→c.locs[r]? = some (some (b,m))→¬ c.I b→¬ FzI c σ H b:=by
  rintro r x b m hr hx hl hlr hb (h | ⟨r',cap',x',h1,h2,h3,h4⟩)
  ·exact hb h
  ·have:=hs.inj r r' x x' b m cap' hx h2 hl h3 hlr h4
   subst this
   exact zq h1 hr
 refine⟨⟨hs.fr,⟨fun r x e=>by rw[h0] at e;simp at e,fun b hb=>.inl (hs.le.I b hb),hs.le.heap⟩, ?_, ?_, ?_, ?_, ?_⟩,fun v u hv h=>?_⟩
 ·simp only[Ctx.fz,List.length_map]
  apply Eq.symm
  have:∀ l:List Nat,(frH d σ H l).length=l.length:=fun l=>by induction l<;>simp_all [frH]
  exact this σ
 ·intro i x l hi hl
  rw[zgl] at hi
  obtain⟨r,hr,hlr⟩:=hloc i l hl
  rw[hr] at hi
  simp only[Option.map_some,Option.some.injEq] at hi
  subst hi
  obtain⟨g1,g2⟩:=hs.get hlr
  have hmem:=List.mem_of_getElem? hr
  have hokr:=z3y hok hmem
  cases l with
  | none =>
    cases hx:hget H r with
    | box cs=>rw[hx] at g2;exact g2.elim
    | arr e n f=>rw[hx] at g2;exact g2
    | mp es=>rw[hx] at g2;exact g2.elim
    | dead=>trivial
  | some l =>
    obtain⟨b,m⟩:=l
    intro hlive
    obtain⟨C,k1,k2,k3,k4⟩:=g2 (zhp hlive)
    refine⟨C,k1, ?_,hnotI r _ b m hmem g1 (zhp hlive) hlr k3,k4⟩
    cases hx:hget H r with
    | box cs =>
      rw[hx] at k2 hokr
      obtain⟨_,_,rfl,k2⟩:=k2
      exact⟨_,_,rfl,by rw[dp];exact k2.1,by rw[dp];exact k2.2.1,kj (top:=true) hs (fun _=>hL) hI (tr hs hI d) (gk σ H d) cs _ hokr k2.2.2⟩
    | arr e n f =>
      rw[hx] at k2 hokr
      obtain⟨_,_,rfl,k2⟩:=k2
      refine⟨_,_,rfl,k2.1,k2.2.1,fun i hi=>?_⟩
      obtain⟨p1,p2,p3⟩:=k2.2.2 i hi
      exact⟨by rw[dp];exact p1,p2,kj (top:=true) hs (fun _=>hL) hI (tr hs hI d) (gk σ H d) _ _ (hokr i hi) p3⟩
    | mp es =>
      rw[hx] at k2 hokr
      obtain⟨A,k,rfl,k2⟩:=k2
      exact⟨A,k,rfl,k2.mapM fun x hx' u hu=>zpz (top:=true) hs (fun _=>hL) hI (tr hs hI d) (gk σ H d) x.2 u (hokr x hx') hu⟩
    | dead=>trivial
 ·intro i i' x x' b m m' hi hi' hx hx' hl hl'
  obtain⟨r,hr,hlr⟩:=hloc i _ hl
  obtain⟨r',hr',hlr'⟩:=hloc i' _ hl'
  rw[zgl,hr] at hi
  rw[zgl,hr'] at hi'
  simp only[Option.map_some,Option.some.injEq] at hi hi'
  subst hi hi'
  have:=hs.inj r r' _ _ b m m' (hs.get hlr).1 (hs.get hlr').1 (zhp hx) (zhp hx') hlr hlr'
  subst this
  exact (List.getElem?_inj (List.getElem?_eq_some_iff.1 hr).1 hnd).1 (hr.trans hr'.symm)
 ·rintro b (h | ⟨r,cap,x,h1,h2,h3,h4⟩)
  ·exact hs.imm b h
  ·obtain⟨C,k1,_⟩:=hs.blk r x _ h2 h4 h3
   exact (Array.getElem?_eq_some_iff.1 k1).1
 ·rintro b (h | ⟨r,cap,x,h1,h2,h3,h4⟩)
  ·exact hs.old b h
  ·obtain⟨C,k1,_,_,h5|h5⟩:=hs.blk r x _ h2 h4 h3
   ·exact .inr h5
   ·exact absurd h5 (hX b)
 ·exact zpz (top:=true) hs (fun _=>hL) hI (tr hs hI d) (gk σ H d) v u hv h
end
end Go.VM
end
section
namespace Go.VM
def Meets (P:Program) (f:Nat) (args:List V) (v:V) (H1:Heap):Prop :=
 aw P f=true∧∀ (w:World) (I:Nat→Prop),GT P w→(∀ b,I b→b<w.heap.size)→∀ us:Array Value,us.size=args.length→(VRs ⟨w,I,[]⟩ args fun j=>us[j]?) →
  Calls P f us w fun e w'=>∃ c' u,e = .returned u∧c'.w=w'∧SR ⟨⟨w,I,[]⟩,fun _=>False,0,none,[]⟩ c' H1∧VR c' v u
mutual
def shV (n:Nat):V→V
 | .own nl r e off m t=>.own nl (n+r) e off m t
 | .ptr r off=>.ptr (n+r) off
 | .eptr r e i off=>.eptr (n+r) e i off
 | .mp r=>.mp (n+r)
 | .agg cs=>.agg (shVs n cs)
 | .tup cs=>.tup (shVs n cs)
 | .fn f a b=>.fn f (shVs n a) (shVs n b)
 | v=>v
def shVs (n:Nat):List V→List V
 | []=>[]
 | v::vs=>shV n v::shVs n vs
end
def shH (n:Nat):Heap→Heap
 | []=>[]
 | .box cs::H=>.box (shVs n cs)::shH n H
 | .arr e m f::H=>.arr e m (fun i=>shVs n (f i))::shH n H
 | .mp es::H=>.mp (mMap (shV n) es)::shH n H
 | .dead::H=>.dead::shH n H
def happ:Heap→Heap→Heap
 | [],l=>l
 | b::H,l=>b::happ H l
theorem zav (a b:Heap):happ a b=a++b:=by induction a<;>simp_all [happ]
theorem fm (n:Nat) (vs:List V):(shVs n vs).length=vs.length:=by
 induction vs with
 | nil=>simp[shVs]
 | cons v vs ih=>simp[shVs,ih]
theorem ziv (n:Nat) (H:Heap):(shH n H).length=H.length:=by
 induction H with
 | nil=>simp[shH]
 | cons b H ih=>cases b<;>simp[shH,ih]
def shB (n:Nat):Blk→Blk
 | .box cs=>.box (shVs n cs)
 | .arr e m f=>.arr e m fun i=>shVs n (f i)
 | .mp es=>.mp (mMap (shV n) es)
 | .dead=>.dead
theorem z0v (n:Nat) (H:Heap) (r:Nat):(shH n H)[r]? = (H[r]?).map (shB n):=by
 induction H generalizing r with
 | nil=>simp[shH]
 | cons b H ih=>cases b<;>cases r<;>simp[shH,shB,ih]
section
variable {c c':Ctx} {n:Nat}
mutual
theorem zpc (hw:c'.w=c.w) (hI:∀ b,c.I b→c'.I b) (hl:∀ (r:Nat) l,c.locs[r]? = some l→c'.locs[n+r]? = some l):∀ (v:V) (u:Value),VR c v u→VR c' (shV n v) u
 | .bad,_,_=>by simp only[shV,VR]
 | .nil,_,h=>by simpa only [shV,VR] using h
 | .bool _,_,h=>by simpa only [shV,VR] using h
 | .int _ _,_,h=>by simpa only [shV,VR] using h
 | .str _,_,h=>by simpa only [shV,VR] using h
 | .lst nl t e m f,u,h=>by
   simp only[shV]
   exact qo (c:=⟨c.w,c.I,[]⟩) (c':=c') ⟨fun r x e=>by simp at e,hI,fun _ _=>by rw[hw]⟩ _ _ (by simpa only [VR] using h)
 | .iptr cs off,u,h=>by
   simp only[shV]
   exact qo (c:=⟨c.w,c.I,[]⟩) (c':=c') ⟨fun r x e=>by simp at e,hI,fun _ _=>by rw[hw]⟩ _ _ (by simpa only [VR] using h)
 | .own nl r e off m t,u,h=>by
   simp only[shV,VR] at h ⊢
   obtain⟨A,cap,e1,e2,e3,e4,e5⟩:=h
   refine⟨A,cap,e1,e2,e3,e4, ?_⟩
   cases hr:c.locs[r]? with
   | none=>rw[hr] at e5;exact e5.elim
   | some l=>rw[hl r l hr];rw[hr] at e5;exact e5
 | .ptr r off,u,h=>by
   simp only[shV,VR] at h ⊢
   cases hr:c.locs[r]? with
   | none=>rw[hr] at h;exact h.elim
   | some l=>rw[hl r l hr];rw[hr] at h;exact h
 | .mp r,u,h=>by
   simp only[shV,VR] at h ⊢
   cases hr:c.locs[r]? with
   | none=>rw[hr] at h;exact h.elim
   | some l=>rw[hl r l hr];rw[hr] at h;exact h
 | .eptr r e i off,u,h=>by
   simp only[shV,VR] at h ⊢
   cases hr:c.locs[r]? with
   | none=>rw[hr] at h;exact h.elim
   | some l=>rw[hl r l hr];rw[hr] at h;exact h
 | .agg cs,u,h=>by
   simp only[shV,VR] at h ⊢
   obtain⟨us,e1,e2,e0,e3⟩:=h
   exact⟨us,e1,by rw[fm];exact e2,by rw[fm];exact e0,vy hw hI hl cs _ e3⟩
 | .tup cs,u,h=>by
   simp only[shV,VR] at h ⊢
   obtain⟨us,e1,e2,e3⟩:=h
   exact⟨us,e1,by rw[fm];exact e2,vy hw hI hl cs _ e3⟩
 | .fn f first caps,u,h=>by
   simp only[shV,VR] at h ⊢
   obtain⟨us,ws,e1,e2,e3,e4,e5⟩:=h
   exact⟨us,ws,e1,by rw[fm];exact e2,by rw[fm];exact e3,vy hw hI hl first _ e4,vy hw hI hl caps _ e5⟩
theorem vy (hw:c'.w=c.w) (hI:∀ b,c.I b→c'.I b) (hl:∀ (r:Nat) l,c.locs[r]? = some l→c'.locs[n+r]? = some l):∀ (vs:List V) (g:Nat→Option Value),VRs c vs g→VRs c' (shVs n vs) g
 | [],_,_=>by simp only[shVs,VRs]
 | v::vs,g,h=>by
   simp only[shVs,VRs] at h ⊢
   obtain⟨⟨u,e1,e2⟩,e3⟩:=h
   exact⟨⟨u,e1,zpc hw hI hl v u e2⟩,vy hw hI hl vs _ e3⟩
end
theorem z3k (hw:c'.w=c.w) (hI:∀ b,c.I b→c'.I b) (hl:∀ (r:Nat) l,c.locs[r]? = some l→c'.locs[n+r]? = some l) {C:Obj} {cap:Nat} {x:Blk} (h:Cont c C cap x):Cont c' C cap (shB n x):=by
 cases x with
 | box cs=>obtain⟨_,_,rfl,h⟩:=h;exact⟨_,_,rfl,by rw[fm];exact h.1,by rw[fm];exact h.2.1,vy hw hI hl _ _ h.2.2⟩
 | arr e m f=>obtain⟨_,_,rfl,h⟩:=h;exact⟨_,_,rfl,h.1,h.2.1,fun i hi=>⟨by rw[fm];exact (h.2.2 i hi).1,(h.2.2 i hi).2.1,vy hw hI hl _ _ (h.2.2 i hi).2.2⟩⟩
 | mp es=>obtain⟨A,k,rfl,h⟩:=h;exact⟨A,k,rfl,h.mapM fun x _ u hu=>zpc hw hI hl x.2 u hu⟩
 | dead=>trivial
end
theorem Live_sh {n:Nat} {x:Blk}:Live (shB n x)↔Live x:=by cases x<;>simp[shB,Live]
section
variable {P:Program} {F:Fr} {c:Ctx} {H:Heap}
theorem SR.call (hs:SR F c H) {c':Ctx} {H1:Heap} (h1:SR ⟨⟨c.w,c.I,[]⟩,fun _=>False,0,none,[]⟩ c' H1) :
  SR F ⟨c'.w,c'.I,c.locs++c'.locs⟩ (H++shH H.length H1)∧Le c ⟨c'.w,c'.I,c.locs++c'.locs⟩:=by
 have hJ:∀ b,c.I b→c'.I b:=h1.le.I
 have hJ1:∀ b,c'.I b→c.I b∨c.w.heap.size≤b:=h1.old
 have hsame:∀ b,b<c.w.heap.size→c'.w.heap[b]? = c.w.heap[b]?:=fun b hb=>h1.fr.block b hb (fun h=>h)
 have hle:Le c ⟨c'.w,c'.I,c.locs++c'.locs⟩:=⟨fun r x e=>by rw[List.getElem?_append_left (List.getElem?_eq_some_iff.1 e).1];exact e,hJ,fun b hb=>hsame b (hs.imm b hb)⟩
 have hsz:=h1.fr.size
 dsimp only at hsz
 have hlen:=hs.len
 have key:∀ (r:Nat) (y:Blk) (l:Option (Nat × Nat)),(H++shH H.length H1)[r]? = some y→(c.locs++c'.locs)[r]? = some l →
   (H[r]? = some y∧c.locs[r]? = some l∧r<H.length)∨(∃ q x,r=H.length+q∧H1[q]? = some x∧y=shB H.length x∧c'.locs[q]? = some l):=by
  intro r y l hr hl
  by_cases hlt:r<H.length
  ·rw[List.getElem?_append_left hlt] at hr
   rw[List.getElem?_append_left (by omega)] at hl
   exact .inl ⟨hr,hl,hlt⟩
  ·rw[List.getElem?_append_right (by omega),z0v] at hr
   rw[List.getElem?_append_right (by omega),hlen] at hl
   cases hx:H1[r-H.length]? with
   | none=>rw[hx] at hr;cases hr
   | some x =>
     rw[hx] at hr
     simp only[Option.map_some,Option.some.injEq] at hr
     exact .inr ⟨r-H.length,x,by omega,hx,hr.symm,hl⟩
 have holdlt:∀ (r:Nat) (y:Blk) (b m:Nat),H[r]? = some y→Live y→c.locs[r]? = some (some (b,m))→b<c.w.heap.size:=by
  intro r y b m hr hy hl
  obtain⟨O',h1,_⟩:=hs.blk r y _ hr hl hy
  exact (Array.getElem?_eq_some_iff.1 h1).1
 have hnewge:∀ (r:Nat) (y:Blk) (b m:Nat),H1[r]? = some y→Live y→c'.locs[r]? = some (some (b,m))→c.w.heap.size≤b:=by
  intro r y b m hr hy hl
  obtain⟨O',_,_,_,h5|h5⟩:=h1.blk r y _ hr hl hy
  ·exact h5
  ·exact h5.elim
 refine⟨⟨?_,hs.le.trans hle,by simp[hlen,h1.len,ziv], ?_, ?_, ?_, ?_⟩,hle⟩
 ·refine⟨h1.fr.os.trans hs.fr.os,h1.fr.tape.trans hs.fr.tape,h1.fr.output.trans hs.fr.output,Nat.le_trans hs.fr.size hsz,fun k hk hx=>?_⟩
  show c'.w.heap[k]? = _
  rw[hsame k (Nat.lt_of_lt_of_le hk hs.fr.size)]
  exact hs.fr.block k hk hx
 ·intro r y l hr hl
  rcases key r y l hr hl with ⟨a1,a2,_⟩ | ⟨q,x,rfl,a2,rfl,a4⟩
  ·refine (hs.blk r y l a1 a2).mono hle fun b m e hlive=>?_
   subst e
   obtain⟨O',g1,_,g3,_⟩:=hs.blk r y _ a1 a2 hlive
   have hb:=holdlt r y b m a1 hlive a2
   refine⟨hsame b hb,fun hj=>?_⟩
   rcases hJ1 b hj with h|h
   ·exact g3 h
   ·omega
  ·have hb:=h1.blk q x l a2 a4
   cases l with
   | none=>cases x<;>first|exact hb|exact hb.elim
   | some l =>
     obtain⟨b,m⟩:=l
     intro hlive
     obtain⟨C,g1,g2,g3,g4⟩:=hb (Live_sh.1 hlive)
     refine⟨C,g1,z3k (c:=c') (c':=⟨c'.w,c'.I,c.locs++c'.locs⟩) rfl (fun _ h=>h) ?_ g2,g3,.inl ?_⟩
     ·intro r l hr
      show (c.locs++c'.locs)[H.length+r]? = _
      rw[List.getElem?_append_right (by omega),hlen]
      simpa using hr
     ·exact Nat.le_trans hs.fr.size (hnewge q x b m a2 (Live_sh.1 hlive) a4)
 ·intro r r' y y' b m m' hr hr' hy hy' hl hl'
  rcases key r y _ hr hl with ⟨a1,a2,a3⟩ | ⟨q,x,rfl,a2,rfl,a4⟩<;>rcases key r' y' _ hr' hl' with ⟨b1,b2,b3⟩ | ⟨q',x',rfl,b2,rfl,b4⟩
  ·exact hs.inj r r' y y' b m m' a1 b1 hy hy' a2 b2
  ·have:=holdlt r y b m a1 hy a2
   have:=hnewge q' x' b m' b2 (Live_sh.1 hy') b4
   omega
  ·have:=holdlt r' y' b m' b1 hy' b2
   have:=hnewge q x b m a2 (Live_sh.1 hy) a4
   omega
  ·rw[h1.inj q q' x x' b m m' a2 b2 (Live_sh.1 hy) (Live_sh.1 hy') a4 b4]
 ·intro b hb
  exact h1.imm b hb
 ·intro b hb
  rcases hJ1 b hb with h|h
  ·exact hs.old b h
  ·exact .inr (Nat.le_trans hs.fr.size h)
theorem zvj {f:Nat} {args:List V} {v:V} {H1:Heap} (h:Meets P f args v H1) (hnr:ltrs 0 args=true) {K:V→Heap→Prop} (hk:K (shV (hlen H) v) (happ H (shH (hlen H) H1))):cw P f args H K:=by
 refine fun F c gt hs us hsz hus=>.inl ⟨h.1, ?_⟩
 have hus':VRs ⟨c.w,c.I,[]⟩ args fun j=>us[j]?:=by
  have:=lr args _ hnr hus
  simpa [Ctx.cut] using this
 refine Calls.mono (h.2 c.w c.I (gt c H hs) hs.imm us hsz hus') ?_
 rintro e w' ⟨c',u,rfl,rfl,h1,h2⟩
 obtain⟨k1,k2⟩:=hs.call h1
 rw[bt,zav] at hk
 have key:=zpc (c:=c') (c':=⟨c'.w,c'.I,c.locs++c'.locs⟩) (n:=H.length) rfl (fun _ h=>h) (fun r l hr=>by
  show (c.locs++c'.locs)[H.length+r]? = _
  rw[List.getElem?_append_right (by rw[hs.len];omega),hs.len]
  simpa using hr) v u h2
 exact⟨⟨c'.w,c'.I,c.locs++c'.locs⟩,u,_,_,rfl,rfl,k2,k1,key,hk⟩
theorem SR.after (hs:SR F c H) {w':World} (h:FR ⟨c,fun _=>False,0,none,[]⟩ w'):SR F { c with w:=w' } H∧Le c { c with w:=w' }:=by
 have hsame:∀ b,b<c.w.heap.size→w'.heap[b]? = c.w.heap[b]?:=fun b hb=>h.block b hb (fun h=>h)
 have hle:Le c { c with w:=w' }:=⟨fun _ _ e=>e,fun _ h=>h,fun b hb=>hsame b (hs.imm b hb)⟩
 refine⟨⟨⟨h.os.trans hs.fr.os,h.tape.trans hs.fr.tape,h.output.trans hs.fr.output,Nat.le_trans hs.fr.size h.size,fun k hk hx=>?_⟩,hs.le.trans hle,hs.len, ?_,hs.inj,fun b hb=>Nat.lt_of_lt_of_le (hs.imm b hb) h.size,hs.old⟩,hle⟩
 ·rw[hsame k (Nat.lt_of_lt_of_le hk hs.fr.size)]
  exact hs.fr.block k hk hx
 ·intro r y l hr hl
  refine (hs.blk r y l hr hl).mono hle fun b m e hlive=>?_
  subst e
  obtain⟨O',g1,_,g3,_⟩:=hs.blk r y _ hr hl hlive
  exact⟨hsame b (Array.getElem?_eq_some_iff.1 g1).1,g3⟩
mutual
def flat:V→Bool
 | .bool _=>true
 | .int _ _=>true
 | .str _=>true
 | .nil=>true
 | .agg cs=>zac cs
 | .tup cs=>zac cs
 | _=>false
def zac:List V→Bool
 | []=>true
 | v::vs=>band (flat v) (zac vs)
end
mutual
theorem zer {c c':Ctx}:∀ (v:V) (u:Value),flat v=true→VR c v u→VR c' v u
 | .bool _,_,_,h=>by simpa only [VR] using h
 | .int _ _,_,_,h=>by simpa only [VR] using h
 | .str _,_,_,h=>by simpa only [VR] using h
 | .nil,_,_,h=>by simpa only [VR] using h
 | .agg cs,u,hf,h=>by
   simp only[VR] at h ⊢
   obtain⟨us,e1,e2,e0,e3⟩:=h
   exact⟨us,e1,e2,e0,zah cs _ (by simpa [flat] using hf) e3⟩
 | .tup cs,u,hf,h=>by
   simp only[VR] at h ⊢
   obtain⟨us,e1,e2,e3⟩:=h
   exact⟨us,e1,e2,zah cs _ (by simpa [flat] using hf) e3⟩
 | .bad,_,hf,_ | .lst _ _ _ _ _,_,hf,_ | .own _ _ _ _ _ _,_,hf,_ | .ptr _ _,_,hf,_ | .mp _,_,hf,_ | .eptr _ _ _ _,_,hf,_ | .iptr _ _,_,hf,_ | .fn _ _ _,_,hf,_=>by simp[flat] at hf
theorem zah {c c':Ctx}:∀ (vs:List V) (g:Nat→Option Value),zac vs=true→VRs c vs g→VRs c' vs g
 | [],_,_,_=>by simp only[VRs]
 | v::vs,g,hf,h=>by
   simp only[VRs] at h ⊢
   simp only[zac] at hf
   obtain⟨⟨u,e1,e2⟩,e3⟩:=h
   exact⟨⟨u,e1,zer v u (ax hf).1 e2⟩,zah vs _ (ax hf).2 e3⟩
end
theorem z2y (d:Nat) {f:Nat} {args:List V} {v:V} {H1:Heap} (h:Meets P f (frWs true (frD [] H d) [] H args) v H1) (hv:flat v=true) (hok:okWs (okD [] H d) [] H args) {K:V→Heap→Prop} (hk:K v H):cw P f args H K:=by
 refine fun F c gt hs us hsz hus=>.inl ⟨h.1, ?_⟩
 have himm:∀ b,FzI c [] H b→b<c.w.heap.size:=by
  rintro b (h | ⟨r,cap,x,h1,h2,h3,h4⟩)
  ·exact hs.imm b h
  ·obtain⟨C,k1,_⟩:=hs.blk r x _ h2 h4 h3
   exact (Array.getElem?_eq_some_iff.1 k1).1
 have hus':VRs ⟨c.w,FzI c [] H,[]⟩ (frWs true (frD [] H d) [] H args) fun j=>us[j]? :=
  kj (top:=true) (σ:=[]) hs (fun _ r i h=>by cases h) (fun _ h=>h) (tr hs (fun _ h=>h) d) (gk [] H d) args _ hok hus
 refine Calls.mono (h.2 c.w (FzI c [] H) (gt c H hs) himm us (by rw[dp];exact hsz) hus') ?_
 rintro e w' ⟨c',u,rfl,rfl,h1,h2⟩
 have hfr:FR ⟨c,fun _=>False,0,none,[]⟩ c'.w:=⟨h1.fr.os,h1.fr.tape,h1.fr.output,h1.fr.size,h1.fr.block⟩
 obtain⟨k1,k2⟩:=hs.after hfr
 exact⟨{ c with w:=c'.w },u,v,H,rfl,rfl,k2,k1,zer v u hv h2,hk⟩
theorem Meets.freeze {f:Nat} {args:List V} {v:V} {H1:Heap} (h:Meets P f args v H1) (d:Nat) (hok:okW (okD [] H1 d) [] H1 v):Meets P f args (frV d [] H1 v) []:=by
 refine⟨h.1,fun w I gt hI us hsz hus=>Calls.mono (h.2 w I gt hI us hsz hus) ?_⟩
 rintro e w' ⟨c',u,rfl,rfl,h1,h2⟩
 obtain⟨k1,k2⟩:=h1.fz rfl (fun _ h=>h) (d:=d) (σ:=[]) rfl trivial
 exact⟨c'.fz [] H1,u,rfl,rfl,k1,k2 v u hok h2⟩
end
end Go.VM
end
section
namespace Go.VM
def argE (k:Nat):List V→Env
 | []=>[]
 | v::vs=>⟨k,0,[],v⟩::argE (k+1) vs
def resV (P:Program) (E:Env) (H:Heap):List ResultVar→List V→(List V→Prop)→Prop
 | [],acc,K=>K acc
 | .tmp t::r,acc,K=>resV P E H r (app acc [ev E [] (.tmp t)]) K
 | .cell t T::r,acc,K=>(match load (ti P T) H (ev E [] (.tmp t)) with
   | .ok v=>resV P E H r (app acc [v]) K
   | _=>False)
def one:List V→V
 | [v]=>v
 | vs=>.tup vs
def fin (d:Nat) (σ:List Nat) (v:V) (H1:Heap) (x:V) (H:Heap):Prop :=
 okσ (hlen H) σ=true∧okH d σ H σ∧okW (okD σ H d) σ H x∧frV d σ H x=v∧frH d σ H σ=H1
def retK (P:Program) (rs:List ResultVar) (K:V→Heap→Prop):X→Env→Heap→Prop
 | .exit _,_,_=>False
 | .normal,E,H=>resV P E H rs [] fun vs=>K (one vs) H
 | .ret,E,H=>resV P E H rs [] fun vs=>K (one vs) H
section
variable {P:Program}
theorem zgv (vs:List V) (k t:Nat):get (argE k vs) t=(0,[],if t<k then .bad else (vs[t-k]?).getD .bad):=by
 induction vs generalizing k with
 | nil=>simp[argE,get]
 | cons v vs ih =>
   simp only[argE,gr]
   by_cases h:k=t
   ·subst h;simp
   ·rw[if_neg h,ih]
    by_cases h1:t<k
    ·rw[if_pos (by omega),if_pos h1]
    ·rw[if_neg (by omega),if_neg h1]
     have:t-k=(t-(k+1))+1:=by omega
     rw[this,List.getElem?_cons_succ]
theorem zus {c:Ctx} {vs:List V} {us:Array Value} (hsz:us.size=vs.length) (h:VRs c vs fun j=>us[j]?):VR c (one vs) (if h:us.size=1 then us[0] else .tuple us):=by
 unfold one
 split
 ·rename_i v
  simp only[VRs] at h
  obtain⟨⟨u,e1,e2⟩,_⟩:=h
  have h1:us.size=1:=by simpa using hsz
  rw[dif_pos h1]
  have:us[0]? = some us[0]:=by simp[h1]
  rw[this] at e1
  cases e1
  exact e2
 ·rename_i hne
  have h1:¬ us.size=1:=by
   intro h1
   rw[hsz] at h1
   cases vs with
   | nil=>simp at h1
   | cons v vs=>cases vs with
     | nil=>exact hne v rfl
     | cons=>simp at h1
  rw[dif_neg h1]
  simp only[VR]
  exact⟨us,rfl,hsz,h⟩
def rsem (tmps:Array Value):ResultVar→Sem Value
 | .tmp t=>pure (tmps.getD t undef)
 | .cell x t=>do loadVar t (← asAddr (tmps.getD x undef))
theorem zio (fn:Func) (tmps:Array Value):results fn tmps=(do let vs ← fn.results.mapM (rsem tmps);pure (if h:vs.size=1 then vs[0] else .tuple vs)):=by
 unfold results
 have:(fun r=>rsem tmps r)=rsem tmps:=rfl
 rw[← this]
 rfl
theorem zji {T:TypeId} {x u:Value} {w w':World} (h:(Instr.loadAt T x).run P w = .ok u w'):(do loadVar T (← asAddr x):Sem Value).run P w = .ok u w':=by
 cases x with
 | pointer A =>
   cases A with
   | none=>simp[Instr.loadAt,Instr.sureAddr,Sem.run_bind] at h
   | some A=>simpa [Instr.loadAt,Instr.sureAddr,asAddr,Sem.run_bind] using h
 | _=>simp[Instr.loadAt,Instr.sureAddr,asAddr,Sem.run_bind] at h
theorem zei {F:Fr} {c:Ctx} {E:Env} {H:Heap} {a:Act} (hs:SR F c H) (he:ER c E a) {K:List V→Prop} :
  ∀ (rs:List ResultVar) (acc:List V) (us:List Value),us.length=acc.length→(VRs c acc fun j=>us[j]?)→resV P E H rs acc K →
   ∃ vs ws,(rs.mapM (rsem a.tmps)).run P c.w = .ok ws c.w∧(us++ws).length=vs.length∧(VRs c vs fun j=>(us++ws)[j]?)∧K vs
 | [],acc,us,h1,h2,h=>⟨acc,[],by simp,by simpa using h1,by simpa using h2,h⟩
 | .tmp t::r,acc,us,h1,h2,h=>by
   simp only[resV,yw] at h
   have hv:VR c (ev E [] (.tmp t)) (a.tmps.getD t undef):=oq he t
   obtain⟨vs,ws,k1,k2,k3,k4⟩:=zei hs he r (acc++[ev E [] (.tmp t)]) (us++[a.tmps.getD t undef]) (by simp[h1]) (by
    refine kz fun i v hi=>?_
    by_cases hlt:i<acc.length
    ·rw[List.getElem?_append_left hlt] at hi
     obtain⟨u,e1,e2⟩:=de h2 hi
     exact⟨u,by rw[List.getElem?_append_left (by omega)];exact e1,e2⟩
    ·rw[List.getElem?_append_right (by omega)] at hi
     have:i-acc.length=0:=by
      have:=(List.getElem?_eq_some_iff.1 hi).1
      simpa using this
     rw[this] at hi
     simp only[List.getElem?_cons_zero,Option.some.injEq] at hi
     subst hi
     refine⟨_, ?_,hv⟩
     rw[List.getElem?_append_right (by omega),h1,this]
     simp) h
   refine⟨vs,a.tmps.getD t undef::ws, ?_,by simpa using k2,by simpa using k3,k4⟩
   simp only[List.mapM_cons,rsem,Sem.run_bind,Sem.run_pure,Result.andThen_ok,k1]
 | .cell t T::r,acc,us,h1,h2,h=>by
   simp only[resV,yw] at h
   split at h
   ·rename_i v hv
    obtain⟨u,hu,hvu⟩:=zpd (P:=P) (z:=v) hs (oq he t:VR c (ev E [] (.tmp t)) (a.tmps.getD t undef)) (by show (load (ti P T) H (ev E [] (.tmp t))).has v;rw[hv];rfl)
    have hld:(do loadVar T (← asAddr (a.tmps.getD t undef)):Sem Value).run P c.w = .ok u c.w:=by
     exact zji hu
    obtain⟨vs,ws,k1,k2,k3,k4⟩:=zei hs he r (acc++[v]) (us++[u]) (by simp[h1]) (by
     refine kz fun i x hi=>?_
     by_cases hlt:i<acc.length
     ·rw[List.getElem?_append_left hlt] at hi
      obtain⟨u,e1,e2⟩:=de h2 hi
      exact⟨u,by rw[List.getElem?_append_left (by omega)];exact e1,e2⟩
     ·rw[List.getElem?_append_right (by omega)] at hi
      have:i-acc.length=0:=by
       have:=(List.getElem?_eq_some_iff.1 hi).1
       simpa using this
      rw[this] at hi
      simp only[List.getElem?_cons_zero,Option.some.injEq] at hi
      subst hi
      refine⟨_, ?_,hvu⟩
      rw[List.getElem?_append_right (by omega),h1,this]
      simp) h
    refine⟨vs,u::ws, ?_,by simpa using k2,by simpa using k3,k4⟩
    have hr0:(rsem a.tmps (.cell t T)).run P c.w = .ok u c.w:=hld
    simp only[List.mapM_cons,Sem.run_bind,hr0,Sem.run_pure,Result.andThen_ok,k1]
   ·exact h.elim
theorem td {F:Fr} {c:Ctx} {E:Env} {H:Heap} {a:Act} (hs:SR F c H) (he:ER c E a) {K:V→Heap→Prop} {fn:Func} (h:resV P E H fn.results.toList [] fun vs=>K (one vs) H) :
  ∃ v u,(results fn a.tmps).run P c.w = .ok u c.w∧VR c v u∧K v H:=by
 obtain⟨vs,ws,k1,k2,k3,k4⟩:=zei (P:=P) hs he fn.results.toList [] [] rfl (by simp only[VRs]) h
 refine⟨one vs,_, ?_,zus (us:=ws.toArray) (by simpa using k2) (by simpa using k3),k4⟩
 rw[zio,Array.mapM_eq_mapM_toList]
 simp only[Sem.run_bind,Sem.run_map,Sem.run_pure,Result.andThen_ok,k1,List.nil_append]
theorem SR.turn {F:Fr} {c:Ctx} {H:Heap} (hs:SR F c H) {D:Nat} (O:Obj) (h0:F.c0.w.heap.size≤D) (hI:¬ c.I D) (hl:∀ (r m:Nat) x,H[r]? = some x→Live x→c.locs[r]?≠some (some (D,m))) :
  SR F { c with w:=c.w.putObj D O } H∧Le c { c with w:=c.w.putObj D O }:=by
 have hle:Le c { c with w:=c.w.putObj D O }:=⟨fun _ _ h=>h,fun _ h=>h,fun b hb=>World.putObj_heap_other (fun e=>hI (e ▸ hb))⟩
 have hsz:(c.w.putObj D O).heap.size=c.w.heap.size:=by simp[World.putObj]
 refine⟨⟨⟨hs.fr.os,hs.fr.tape,hs.fr.output,by rw[hsz];exact hs.fr.size,fun k hk hx=>?_⟩,hs.le.trans hle,hs.len,fun r b l hr hll=>?_,hs.inj,fun b hb=>by rw[hsz];exact hs.imm b hb,hs.old⟩,hle⟩
 ·show (c.w.putObj D O).heap[k]? = _
  rw[World.putObj_heap_other (by omega)]
  exact hs.fr.block k hk hx
 ·cases l with
  | none=>exact hs.blk r b _ hr hll
  | some l =>
    obtain⟨bb,m⟩:=l
    intro hlive
    obtain⟨C,h1,h2,h3,h4⟩:=hs.blk r b _ hr hll hlive
    have hne:bb≠D:=fun e=>by subst e;exact hl r m b hr hlive hll
    exact⟨C,by show (c.w.putObj D O).heap[bb]? = _;rw[World.putObj_heap_other hne];exact h1,h2.mono hle,h3,h4⟩
theorem zjm {fn:Func} {tmps:Array Value} {R:Ending→World→Prop} {F:Fr} {H:Heap}:∀ (ms:List Nat) (c:Ctx),SR F c H→ms.Nodup →
  (∀ D,D∈ms→F.c0.w.heap.size≤D∧c.w.heap[D]? = some (.deferred (some []))∧¬ c.I D∧∀ (r m:Nat) x,H[r]? = some x→Live x→c.locs[r]?≠some (some (D,m))) →
  (∀ c',SR F c' H→Le c c'→∃ u,(results fn tmps).run P c'.w = .ok u c'.w∧R (.returned u) c'.w)→LeavesInM (fR none) 0 P fn tmps R (ms.map zgb) .returning c.w:=by
 intro ms
 induction ms with
 | nil=>exact fun c hs _ _ hR=>hR c hs (.refl c)
 | cons D ms ih =>
   intro c hs nd hd hR
   obtain⟨g1,g2,g3,g4⟩:=hd D (.head _)
   obtain⟨k1,k2⟩:=hs.turn (.deferred none) g1 g3 g4
   obtain⟨n1,n2⟩:=List.nodup_cons.1 nd
   refine⟨(fun h=>by cases h),.inl ⟨D,_,rfl,run_takeDeferred g2,ih { c with w:=c.w.putObj D (.deferred none) } k1 n2 (fun D' hD'=>?_) fun c' hs' hle=>hR c' hs' (k2.trans hle)⟩⟩
   obtain⟨e1,e2,e3,e4⟩:=hd D' (.tail _ hD')
   refine⟨e1, ?_,e3,e4⟩
   show (c.w.putObj D (.deferred none)).heap[D']? = _
   rw[World.putObj_heap_other (fun e:D'=D=>n1 (by rw[← e];exact hD'))]
   exact e2
theorem me {fn:Func} {a:Act} {R:Ending→World→Prop} {F F':Fr} {c:Ctx} {H:Heap} (h0:F.ds=[]) (fx:Fx F F') (hs:SR F' c H) (ha:AO F' a)
  (hR:∀ c',SR F c' H→Le c c'→∃ u,(results fn a.tmps).run P c'.w = .ok u c'.w∧R (.returned u) c'.w):LeavesInM (fR none) 0 P fn a.tmps R a.defers .returning c.w:=by
 obtain⟨ms,e,nd,hd⟩:=fx.ds
 rw[ha.defers,e,h0,List.append_nil]
 exact zjm ms c (fx.sr c H hs) nd (fun D hD=>⟨(hd D hD).1,(hd D hD).2.2 c H hs⟩) hR
theorem lu {f:Nat} {fn:Func} {code:Code} {args:Array Value} {w:World} {R:Ending→World→Prop} (hf:P.funcs[f]? = some fn) (hb:fn.body=some code)
  (h:code.wpIn (fR none) 0 P (bodyPostM (fR none) 0 P fn R) { tmps:=args++Array.replicate (fn.ntmps-args.size) undef,defers:=[] } w):Calls P f args w R :=
 (callsIn_wide (n:=0)).1 (callsIn_of_wp_marks hf hb trivial h)
theorem meets_cx {f:Nat} {fn:Func} {body:Code} {args:List V} {v:V} {H1:Heap} (hf:P.funcs[f]? = some fn) (hb:fn.body=some body) (hname:aw P f=true)
  (hok:okc fn.ntmps body=true) (hnt:args.length≤fn.ntmps) (d:Nat) (σ:List Nat)
  (h:cx P 0 body (argE 0 args) [] (retK P fn.results.toList (fin d σ v H1))):Meets P f args v H1:=by
 refine⟨hname,fun w I gt hI us hsz hus=>lu hf hb ?_⟩
 have hs:SR ⟨⟨w,I,[]⟩,fun _=>False,fn.ntmps,none,[]⟩ ⟨w,I,[]⟩ [] :=
  ⟨⟨rfl,rfl,rfl,Nat.le_refl _,fun _ _ _=>rfl⟩,Le.refl _,rfl,fun r b l h=>by simp at h,fun r r' x x' b m m' h=>by simp at h,hI,fun b h=>.inl h⟩
 have he:ER ⟨w,I,[]⟩ (argE 0 args) { tmps:=us++Array.replicate (fn.ntmps-us.size) undef,defers:=[] }:=by
  intro t
  rw[zgv]
  refine⟨fun _=>?_,fun h=>absurd trivial h⟩
  simp only[Nat.not_lt_zero,if_false,Nat.sub_zero]
  cases ht:args[t]? with
  | none=>simp only[Option.getD_none,VR]
  | some v =>
    simp only[Option.getD_some]
    obtain⟨u,e1,e2⟩:=de hus ht
    have hlt:t<us.size:=(Array.getElem?_eq_some_iff.1 e1).1
    have:km { tmps:=us++Array.replicate (fn.ntmps-us.size) undef,defers:=[] } t=u:=by
     simp only[km,Array.getD_eq_getD_getElem?]
     rw[Array.getElem?_append_left hlt,e1]
     rfl
    rw[this]
    exact e2
 have ha:AO ⟨⟨w,I,[]⟩,fun _=>False,fn.ntmps,none,[]⟩ { tmps:=us++Array.replicate (fn.ntmps-us.size) undef,defers:=[] }:=⟨rfl,by simp;omega⟩
 have hw:=h ⟨⟨w,I,[]⟩,fun _=>False,fn.ntmps,none,[]⟩ ⟨w,I,[]⟩ _ (FN.start gt) hs he ha hok
 refine wpIn_mono hw fun e a' w' hq=>?_
 have key:∀ c E H,SR ⟨⟨w,I,[]⟩,fun _=>False,fn.ntmps,none,[]⟩ c H→ER c E a'→(resV P E H fn.results.toList [] fun vs=>fin d σ v H1 (one vs) H) →
   ∃ u,(results fn a'.tmps).run P c.w = .ok u c.w∧∃ c' u',Ending.returned u = .returned u'∧c'.w=c.w∧SR ⟨⟨w,I,[]⟩,fun _=>False,0,none,[]⟩ c' H1∧VR c' v u':=by
  intro c E H h1 h2 h3
  obtain⟨x,u,k1,k2,k3⟩:=td (K:=fin d σ v H1) h1 h2 h3
  obtain⟨f1,f2,f3,f4,f5⟩:=k3
  rw[bt] at f1
  obtain⟨s1,s2⟩:=h1.fz rfl (fun _ h=>h) f1 f2
  have s3:=s2 x u f3 k2
  rw[f5] at s1
  rw[f4] at s3
  exact⟨u,k1,c.fz σ H,u,rfl,rfl,⟨⟨s1.fr.os,s1.fr.tape,s1.fr.output,s1.fr.size,s1.fr.block⟩,s1.le,s1.len,s1.blk,s1.inj,s1.imm,s1.old⟩,s3⟩
 obtain⟨F',fx,hq⟩:=hq
 cases e with
 | normal =>
   obtain⟨c,E,H,rfl,h1,h2,h3,h4⟩:=hq
   exact me rfl fx h1 h3 fun c' s le=>key c' E H s (fy le h2) h4
 | ret =>
   obtain⟨c,E,H,rfl,h1,h2,h3,h4⟩:=hq
   exact me rfl fx h1 h3 fun c' s le=>key c' E H s (fy le h2) h4
 | exit i=>obtain⟨c,E,H,rfl,h1,h2,h3,h4⟩:=hq;exact h4.elim
 | goto l=>exact hq.elim
 | panic ch=>exact hq.elim
 | outgrown=>exact hq.elim
theorem zmp {c:Ctx} {us:Array Value} {args:List V} {nt:Nat} (hus:VRs c args fun j=>us[j]?):ER c (argE 0 args) { tmps:=us++Array.replicate (nt-us.size) undef,defers:=[] }:=by
 intro t
 rw[zgv]
 refine⟨fun _=>?_,fun h=>absurd trivial h⟩
 simp only[Nat.not_lt_zero,if_false,Nat.sub_zero]
 cases ht:args[t]? with
 | none=>simp only[Option.getD_none,VR]
 | some v =>
   simp only[Option.getD_some]
   obtain⟨u,e1,e2⟩:=de hus ht
   have hlt:t<us.size:=(Array.getElem?_eq_some_iff.1 e1).1
   have:km { tmps:=us++Array.replicate (nt-us.size) undef,defers:=[] } t=u:=by
    simp only[km,Array.getD_eq_getD_getElem?]
    rw[Array.getElem?_append_left hlt,e1]
    rfl
   rw[this]
   exact e2
def Fr.here (F:Fr) (c:Ctx) (H:Heap) (nt:Nat):Fr:=⟨c,fun b=>∃ (r:Nat) (x:Blk) (m:Nat),H[r]? = some x∧Live x∧c.locs[r]? = some (some (b,m)),nt,none,[]⟩
theorem SR.here {F:Fr} {c:Ctx} {H:Heap} (hs:SR F c H) (nt:Nat):SR (F.here c H nt) c H :=
 ⟨⟨rfl,rfl,rfl,Nat.le_refl _,fun _ _ _=>rfl⟩,Le.refl _,hs.len,fun r b l hr hl=>by
  cases l with
  | none=>exact hs.blk r b _ hr hl
  | some l =>
    obtain⟨bb,m⟩:=l
    intro hlive
    obtain⟨C,h1,h2,h3,_⟩:=hs.blk r b _ hr hl hlive
    exact⟨C,h1,h2,h3,.inr ⟨r,b,m,hr,hlive,hl⟩⟩,hs.inj,hs.imm,fun b h=>.inl h⟩
theorem SR.back {F:Fr} {c c':Ctx} {H H':Heap} {nt:Nat} (hs:SR F c H) (h:SR (F.here c H nt) c' H'):SR F c' H':=by
 have hw:∀ b,Wr (F.here c H nt) b→Wr F b:=by
  rintro b (hb | ⟨r,x,m,hr,hx,hl⟩)
  ·exact .inl (Nat.le_trans hs.fr.size hb)
  ·obtain⟨C,_,_,_,h4⟩:=hs.blk r x _ hr hl hx
   exact h4
 refine⟨⟨h.fr.os.trans hs.fr.os,h.fr.tape.trans hs.fr.tape,h.fr.output.trans hs.fr.output,Nat.le_trans hs.fr.size h.fr.size,fun k hk hx=>?_⟩,hs.le.trans h.le,h.len,fun r b l hr hl=>?_,h.inj,h.imm,fun b hb=>?_⟩
 ·refine (h.fr.block k (Nat.lt_of_lt_of_le hk hs.fr.size) fun hh=>?_).trans (hs.fr.block k hk hx)
  rcases hw k (.inr hh) with h1|h1
  ·omega
  ·exact hx h1
 ·cases l with
  | none=>exact h.blk r b _ hr hl
  | some l =>
    obtain⟨bb,m⟩:=l
    intro hlive
    obtain⟨C,h1,h2,h3,h4⟩:=h.blk r b _ hr hl hlive
    exact⟨C,h1,h2,h3,hw _ h4⟩
 ·rcases h.old b hb with h1|h1
  ·exact hs.old b h1
  ·exact .inr (Nat.le_trans hs.fr.size h1)
theorem cw_cx {f:Nat} {fn:Func} {body:Code} {args:List V} {H:Heap} {K:V→Heap→Prop} (hf:P.funcs[f]? = some fn) (hb:fn.body=some body) (hname:aw P f=true)
  (hok:okc fn.ntmps body=true) (hnt:args.length≤fn.ntmps) (h:cx P (hlen H) body (argE 0 args) H (retK P fn.results.toList K)):cw P f args H K:=by
 refine fun F c gt hs0 us hsz hus=>.inl ⟨hname,lu hf hb ?_⟩
 have hs:=hs0.here fn.ntmps
 have hn:FN P (hlen H) (F.here c H fn.ntmps):=⟨by
  rw[bt,← hs0.len]
  exact Nat.le_refl _,fun c' H' h'=>gt c' H' (hs0.back h')⟩
 have ha:AO (F.here c H fn.ntmps) { tmps:=us++Array.replicate (fn.ntmps-us.size) undef,defers:=[] }:=⟨rfl,by
  show (us++Array.replicate (fn.ntmps-us.size) undef).size=fn.ntmps
  simp;omega⟩
 have hw:=h (F.here c H fn.ntmps) c _ hn hs (zmp hus) ha hok
 refine wpIn_mono hw fun e a' w' hq=>?_
 have key:∀ c' E H',SR (F.here c H fn.ntmps) c' H'→ER c' E a'→(resV P E H' fn.results.toList [] fun vs=>K (one vs) H') →
   ∃ u,(results fn a'.tmps).run P c'.w = .ok u c'.w∧∃ v,VR c' v u∧K v H':=by
  intro c' E H' h1 h2 h3
  obtain⟨x,u,k1,k2,k3⟩:=td (K:=K) h1 h2 h3
  exact⟨u,k1,x,k2,k3⟩
 obtain⟨F',fx,hq⟩:=hq
 cases e with
 | normal =>
   obtain⟨c',E,H',rfl,h1,h2,h3,h4⟩:=hq
   refine me rfl fx h1 h3 fun c' s le=>?_
   obtain⟨u,k1,v,k2,k3⟩:=key c' E H' s (fy le h2) h4
   exact⟨u,k1,c',u,v,H',rfl,rfl,s.le,hs0.back s,k2,k3⟩
 | ret =>
   obtain⟨c',E,H',rfl,h1,h2,h3,h4⟩:=hq
   refine me rfl fx h1 h3 fun c' s le=>?_
   obtain⟨u,k1,v,k2,k3⟩:=key c' E H' s (fy le h2) h4
   exact⟨u,k1,c',u,v,H',rfl,rfl,s.le,hs0.back s,k2,k3⟩
 | exit i=>obtain⟨c',E,H',rfl,h1,h2,h3,h4⟩:=hq;exact h4.elim
 | goto l=>exact hq.elim
 | panic ch=>exact hq.elim
 | outgrown=>exact hq.elim
theorem qv {n:Nat} {code:Code} {E:Env} {H:Heap} {K:X→Env→Heap→Prop} (t:Nat) {nl:Option Bool} {r e off k:Nat} {tg:Tg} (ht:evt E [] t = .own nl r e off k tg)
  (h:∀ C,k≤C→cx P n code (⟨t,0,[],.own nl r e off k (.exact C)⟩::E) H K):cx P n code E H K:=by
 intro F c a hn hs he ha hok
 have hv:=oq he t
 rw[ht] at hv
 simp only[VR] at hv
 obtain⟨A,cap,e1,e2,e3,e4,e5⟩:=hv
 refine h cap e2.1 F c a hn hs (fun t'=>?_) ha hok
 rw[gr]
 split
 ·rename_i htt
  have htt':t=t':=htt
  subst htt'
  refine⟨fun _=>?_,fun h=>absurd trivial h⟩
  rw[e1]
  simp only[VR]
  exact⟨A,cap,rfl,⟨e2.1,fun C h=>by cases h;rfl⟩,(fun h=>by cases h),e4,e5⟩
 ·exact he t'
end
end Go.VM
end
section
namespace Go.VM
section
variable {P:Program} {ops:Array Oper} {Q:Exit→Act→World→Prop} {md:Region.Mode}
def fc (P:Program) (md:Region.Mode) (ops:Array Oper) (Q:Exit→Act→World→Prop) (late:Nat→Bool):Nat→Array Bool→Act→World→Prop
 | 0,listed,a,w=>Region.ready md ops listed=[]∧Q .normal a w
 | fuel+1,listed,a,w =>
   (Region.ready md ops listed=[]→Q .normal a w) ∧
   ∀ i∈Region.ready md ops listed,wpOp P ops Q i (fun a' w'=>(late i=false→w.Extends w')∧fc P md ops Q late fuel (listed.setIfInBounds i true) a' w') a w
theorem se {late:Nat→Bool}:∀ (fuel:Nat) (listed:Array Bool) (a:Act) (w:World),fc P md ops Q late fuel listed a w→wpAny P md ops Q fuel listed a w
 | 0,_,_,_,h=>h
 | fuel+1,_,_,_,h=>⟨h.1,fun i hi=>wpOp_mono (fun a' w' h'=>se fuel _ a' w' h'.2) (h.2 i hi)⟩
def Closed (md:Region.Mode) (ops:Array Oper) (listed:Array Bool):Prop :=
 listed.size=ops.size∧∀ j oj,ops[j]? = some oj→listed.getD j false=true→∀ e∈oj.after,Region.binds md e=true→listed.getD e.on false=true
def anc (md:Region.Mode) (ops:Array Oper):Nat→Nat→Nat→Bool
 | 0,_,_=>false
 | n+1,i,j=>match ops[j]? with
   | some oj=>oj.after.any fun e=>Region.binds md e && (Nat.beq e.on i || anc md ops n i e.on)
   | none=>false
theorem zbx {listed:Array Bool} (hc:Closed md ops listed) {i:Nat} (hi:listed.getD i false=false):∀ (n j:Nat),anc md ops n i j=true→∃ oj e,ops[j]? = some oj∧e∈oj.after∧Region.binds md e=true∧listed.getD e.on false=false:=by
 intro n
 induction n with
 | zero=>intro j h;cases h
 | succ n ih =>
   intro j h
   unfold anc at h
   split at h
   ·rename_i oj hj
    obtain⟨e,he,hb⟩:=Array.any_eq_true'.1 h
    simp only[Bool.and_eq_true,Bool.or_eq_true] at hb
    refine⟨oj,e,hj,he,hb.1, ?_⟩
    rcases hb.2 with h1|h1
    ·rw[be h1];exact hi
    ·obtain⟨ok,e',h2,h3,h4,h5⟩:=ih _ h1
     cases hh:listed.getD e.on false with
     | false=>rfl
     | true=>rw[hc.2 _ ok h2 hh e' h3 h4] at h5;cases h5
   ·cases h
theorem rj {listed:Array Bool} (hc:Closed md ops listed) {i:Nat} (hi:listed.getD i false=false) {n j:Nat} (h:anc md ops n i j=true):j ∉ Region.ready md ops listed:=by
 intro hr
 obtain⟨oj,e,h1,h2,h3,h4⟩:=zbx hc hi n j h
 obtain⟨_,o',ho',hall⟩:=mem_ready.1 hr
 obtain rfl:oj=o':=Option.some.inj (h1.symm.trans ho')
 have:=hall e h2 h3
 rw[h4] at this
 cases this
theorem Closed.set {listed:Array Bool} (hc:Closed md ops listed) {i:Nat} (hi:i∈Region.ready md ops listed):Closed md ops (listed.setIfInBounds i true):=by
 obtain⟨_,oi,hoi,hall⟩:=mem_ready.1 hi
 have key:∀ k,listed.getD k false=true→(listed.setIfInBounds i true).getD k false=true:=fun k hk=>by
  by_cases hik:i=k
  ·subst hik
   have:i<listed.size:=by
    rcases Nat.lt_or_ge i listed.size with h|h
    ·exact h
    ·simp[Array.getElem?_eq_none h] at hk
   simp[this]
  ·rw[getD_set_ne false hik];exact hk
 refine⟨by simp[hc.1],fun j oj hj hl e he hb=>?_⟩
 by_cases hij:i=j
 ·subst hij
  obtain rfl:oj=oi:=Option.some.inj (hj.symm.trans hoi)
  exact key _ (hall e he hb)
 ·rw[getD_set_ne false hij] at hl
  exact key _ (hc.2 j oj hj hl e he hb)
theorem dt {listed:Array Bool} {i:Nat} (h:i∈Region.ready md ops listed):listed.getD i false=false:=by
 obtain⟨h0,_⟩:=mem_ready.1 h
 rcases Nat.lt_or_ge i listed.size with h' | h'
 ·simp[h'] at h0 ⊢;exact h0
 ·simp[Array.getElem?_eq_none h']
theorem tl {late:Nat→Bool} {N i:Nat} {oi:Oper} {v:Value} (hi:ops[i]? = some oi) (hsel:∀ (j:Nat) (o:Oper) cs b,ops[j]? = some o→o.op≠.select cs b)
  (hQ:∀ c a w,Q (.panic c) (a.put oi.dst v) w→Q (.panic c) a w) :
  ∀ (fuel:Nat) (listed:Array Bool) (a:Act) (w:World),Closed md ops listed →
   (∀ j oj,ops[j]? = some oj→j≠i→listed.getD j true=false→(∀ e∈oj.after,Region.binds md e=true→e.on≠i)→oi.apart ops oj=true) →
   (∀ j,late j=true→listed.getD j false=true∨anc md ops N i j=true) →
   i∈Region.ready md ops listed→YieldsIf P ops w.Extends oi v a →
   fc P md ops Q late fuel (listed.setIfInBounds i true) (a.put oi.dst v) w→fc P md ops Q late (fuel+1) listed a w:=by
 intro fuel
 induction fuel with
 | zero =>
   intro listed a w hcl _ _ hr hy H
   refine⟨fun h=>(by rw[h] at hr;cases hr),fun j hj=>?_⟩
   by_cases hji:j=i
   ·subst hji;exact hy.wpOp hi (.refl w) ⟨fun _=>.refl w,H⟩
   ·have:=ready_mono hj hji
    rw[H.1] at this
    cases this
 | succ fuel ih =>
   intro listed a w hcl hfree hlate hr hy H
   refine⟨fun h=>(by rw[h] at hr;cases hr),fun j hj=>?_⟩
   by_cases hji:j=i
   ·subst hji;exact hy.wpOp hi (.refl w) ⟨fun _=>.refl w,H⟩
   ·have h1:=H.2 j (ready_mono hj hji)
    have hlj:late j=false:=by
     cases hh:late j with
     | false=>rfl
     | true =>
       rcases hlate j hh with h|h
       ·rw[dt hj] at h;cases h
       ·exact absurd hj (rj hcl (dt hr) h)
    obtain⟨hjun,oj,hoj,hall⟩:=mem_ready.1 hj
    have hnot:∀ e∈oj.after,Region.binds md e=true→e.on≠i:=fun e he hb heq=>by
     have h1:=hall e he hb
     rw[heq,dt hr] at h1
     cases h1
    have h2:=wpOp_putIf hoj (hfree j oj hoj hji hjun hnot) (fun cs b=>hsel i oi cs b hi) (fun cs b=>hsel j oj cs b hoj) hQ hy h1
    have hfree':∀ k ok,ops[k]? = some ok→k≠i→(listed.setIfInBounds j true).getD k true=false →
      (∀ e∈ok.after,Region.binds md e=true→e.on≠i)→oi.apart ops ok=true:=fun k ok hk hki hun hno=>by
     refine hfree k ok hk hki ?_ hno
     by_cases hjk:j=k
     ·subst hjk;exact hjun
     ·rw[getD_set_ne true hjk] at hun;exact hun
    have hlate':∀ k,late k=true→(listed.setIfInBounds j true).getD k false=true∨anc md ops N i k=true:=fun k hk=>by
     rcases hlate k hk with h|h
     ·by_cases hjk:j=k
      ·subst hjk;rw[hlj] at hk;cases hk
      ·exact .inl (by rw[getD_set_ne false hjk];exact h)
     ·exact .inr h
    refine wpOp_mono (fun a' w' h3=>⟨h3.2.1,ih (listed.setIfInBounds j true) a' w' (hcl.set hj) hfree' hlate' (ready_mono hr (Ne.symm hji)) ?_ ?_⟩) h2
    ·rcases h3.1 with ⟨g1,g2⟩|g
     ·exact .inl ⟨g1,fun x hx=>g2 x ((h3.2.1 hlj).trans hx)⟩
     ·exact .inr g
    ·rw[Array.setIfInBounds_comm _ _ hji]
     exact h3.2.2
theorem rg {late:Nat→Bool} {i:Nat} {oi:Oper} {v:Value} (hi:ops[i]? = some oi) (hsel:∀ (j:Nat) (o:Oper) cs b,ops[j]? = some o→o.op≠.select cs b)
  (hQ:∀ c a w,Q (.panic c) (a.put oi.dst v) w→Q (.panic c) a w) :
  ∀ (fuel:Nat) (listed:Array Bool) (a:Act) (w:World),Closed md ops listed →
   (∀ j oj,ops[j]? = some oj→j≠i→listed.getD j true=false→(∀ e∈oj.after,Region.binds md e=true→e.on≠i)→oi.apart ops oj=true) →
   late i=false→i∈Region.ready md ops listed→YieldsIf P ops (fun _=>True) oi v a →
   fc P md ops Q late fuel (listed.setIfInBounds i true) (a.put oi.dst v) w→fc P md ops Q late (fuel+1) listed a w:=by
 intro fuel
 induction fuel with
 | zero =>
   intro listed a w hcl _ _ hr hy H
   refine⟨fun h=>(by rw[h] at hr;cases hr),fun j hj=>?_⟩
   by_cases hji:j=i
   ·subst hji;exact hy.wpOp hi trivial ⟨fun _=>.refl w,H⟩
   ·have:=ready_mono hj hji
    rw[H.1] at this
    cases this
 | succ fuel ih =>
   intro listed a w hcl hfree hlate hr hy H
   refine⟨fun h=>(by rw[h] at hr;cases hr),fun j hj=>?_⟩
   by_cases hji:j=i
   ·subst hji;exact hy.wpOp hi trivial ⟨fun _=>.refl w,H⟩
   ·have h1:=H.2 j (ready_mono hj hji)
    obtain⟨hjun,oj,hoj,hall⟩:=mem_ready.1 hj
    have hnot:∀ e∈oj.after,Region.binds md e=true→e.on≠i:=fun e he hb heq=>by
     have h1:=hall e he hb
     rw[heq,dt hr] at h1
     cases h1
    have h2:=wpOp_putIf hoj (hfree j oj hoj hji hjun hnot) (fun cs b=>hsel i oi cs b hi) (fun cs b=>hsel j oj cs b hoj) hQ hy h1
    have hfree':∀ k ok,ops[k]? = some ok→k≠i→(listed.setIfInBounds j true).getD k true=false →
      (∀ e∈ok.after,Region.binds md e=true→e.on≠i)→oi.apart ops ok=true:=fun k ok hk hki hun hno=>by
     refine hfree k ok hk hki ?_ hno
     by_cases hjk:j=k
     ·subst hjk;exact hjun
     ·rw[getD_set_ne true hjk] at hun;exact hun
    refine wpOp_mono (fun a' w' h3=>⟨h3.2.1,ih (listed.setIfInBounds j true) a' w' (hcl.set hj) hfree' hlate (ready_mono hr (Ne.symm hji)) ?_ ?_⟩) h2
    ·rcases h3.1 with ⟨g1,_⟩|g
     ·rcases hy with ⟨_,g2⟩ | ⟨g2,g3⟩
      ·exact .inl ⟨g1,by
        intro x _
        have:=h3.1
        rcases this with ⟨_,g4⟩ | ⟨g4,_⟩
        ·exact g4 x trivial
        ·rw[g1] at g4;cases g4⟩
      ·have:=h3.1
       rcases this with h | ⟨g4,_⟩
       ·exact .inl h
       ·rw[g1] at g4;cases g4
     ·exact .inr g
    ·rw[Array.setIfInBounds_comm _ _ hji]
     exact h3.2.2
theorem pn {late:Nat→Bool} {rs:List Nat} {fuel:Nat} {listed:Array Bool} {a:Act} {w:World} (hr:Region.ready md ops listed=rs) (hne:rs≠[])
  (h:∀ i∈rs,wpOp P ops Q i (fun a' w'=>(late i=false→w.Extends w')∧fc P md ops Q late fuel (listed.setIfInBounds i true) a' w') a w):fc P md ops Q late (fuel+1) listed a w :=
 ⟨fun h0=>absurd (hr ▸ h0) hne,hr ▸ h⟩
theorem uz {late:Nat→Bool} {listed:Array Bool} {a:Act} {w:World} (hr:Region.ready md ops listed=[]) (h:Q .normal a w):∀ fuel,fc P md ops Q late fuel listed a w
 | 0=>⟨hr,h⟩
 | _+1=>⟨fun _=>h,by rw[hr];simp⟩
end
end Go.VM
end
section
namespace Go.VM
section
variable {P:Program} {c:Ctx} {w:World}
theorem zcf {i:Nat} {x z:V} {u:Value} (hx:VR c x u) (h:(nn x i).has z):∃ r,(∀ w,(Instr.extract u i).run P w = .ok r w)∧VR c z r:=by
 unfold nn at h
 split at h
 ·rename_i vs
  simp only[VR] at hx
  obtain⟨us,rfl,hl,hs⟩:=hx
  cases hb:Nat.blt i (len vs) with
  | false=>rw[hb] at h;exact h.elim
  | true =>
    rw[hb] at h
    simp only[cond,R.has] at h
    subst h
    have hi:i<vs.length:=by rw[← jm];exact Nat.blt_eq ▸ hb
    obtain⟨r,hr,hv⟩:=de hs (qu vs i hi)
    exact⟨r,fun w=>by simp[Instr.extract,hr],hv⟩
 ·exact h.elim
theorem uv {T f:Nat} {x z:V} {u:Value} (hx:VR c x u) (h:(fieldAddr (bg P T f) x).has z):∃ r,(∀ w,(Instr.fieldAt T u f).run P w = .ok r w)∧VR c z r:=by
 cases ho:bg P T f with
 | none=>rw[ho] at h;exact h.elim
 | some o =>
   obtain⟨k,t⟩:=o
   obtain⟨fs,fld,hT,hf,rfl,rfl,h0⟩:=ny ho
   obtain⟨i,hi⟩:=bx h0
   have key:∀ w b o,(Instr.fieldAt T (.pointer (some ⟨b,o,none⟩)) f).run P w = .ok (.pointer (some ⟨b,o+fld.offset,none⟩)) w:=fun w b o=>by
    simp[Instr.fieldAt,run_underlying hT,hf,Instr.sureAddr,fieldPlace,cf hi,h0,Addr.add_lit]
   rw[ho] at h
   unfold fieldAddr at h
   dsimp only at h
   split at h
   ·rename_i r off
    simp only[R.has] at h;subst h
    simp only[VR] at hx
    split at hx
    ·rename_i b m hr
     subst hx
     exact⟨_,fun w=>key w b off,by simp only[VR];rw[hr]⟩
    ·exact hx.elim
   ·rename_i r e i off
    simp only[R.has] at h;subst h
    simp only[VR] at hx
    split at hx
    ·rename_i b m hr
     subst hx
     exact⟨_,fun w=>key w b _,by simp only[VR];rw[hr];simp[Nat.add_assoc]⟩
    ·exact hx.elim
   ·rename_i cs off
    simp only[R.has] at h;subst h
    simp only[VR] at hx
    obtain⟨b,o,rfl,h1,h2,h3⟩:=hx
    refine⟨_,fun w=>key w b _, ?_⟩
    simp only[VR]
    exact⟨b,o,by simp[Nat.add_assoc],h1,h2,h3⟩
   ·exact h.elim
theorem ux {T e:Nat} (hT:da P T=some e) {x i z:V} {u v:Value} (hx:VR c x u) (hi:VR c i v) (h:(indexAddr (al P e) x i).has z):∃ r,(∀ w,(Instr.indexAt T u v).run P w = .ok r w)∧VR c z r:=by
 obtain⟨hT',he⟩:=cr hT
 obtain⟨ie,hie⟩:=bx he
 have key:∀ w a len cap k (n:Int),0≤n→n<(len:Nat)→(Instr.indexAt T (.slice (some a) len cap) (.int k n)).run P w = .ok (.pointer (some (a.add (n.toNat*al P e)))) w:=fun w a len cap k n h0 h1=>by
  rw[run_indexAt_slice w T a len cap k n (du hT'),if_pos ⟨h0,h1⟩,qq hT',cf hie]
  simp
 unfold indexAddr at h
 split at h
 ·rename_i nl t e' n f k m
  cases hb:Nat.beq (al P e) e' with
  | false=>rw[hb] at h;exact h.elim
  | true =>
    rw[hb] at h
    obtain rfl:=be hb
    obtain⟨⟨h0,h1⟩,rfl⟩:=h
    simp only[VR] at hx hi
    subst hi
    obtain⟨A,cap,rfl,h2,h3,h4,h5,h6⟩:=hx
    obtain⟨a,rfl,ia,el,ho,hs⟩:=h6 m.toNat (by omega)
    refine⟨_,fun w=>key w a n cap k m h0 h1, ?_⟩
    have hsp:a.spot=none∨0<m.toNat*al P e:=by
     rcases Nat.eq_zero_or_pos (m.toNat*al P e) with h|h
     ·left
      have:∃ u,c.w.cell? (a.add (m.toNat*al P e+0))=some u:=by
       have h0:0<(f m.toNat).length:=by omega
       obtain⟨u,hu,_⟩:=de hs (qu _ 0 h0)
       exact⟨u,hu⟩
      obtain⟨u,hu⟩:=this
      rw[h] at hu
      exact zbj (a:=a) (by simpa [Addr.add] using hu)
     ·exact .inr h
    have hadd:a.add (m.toNat*al P e)=⟨a.block,a.off+m.toNat*al P e,none⟩:=by
     rcases hsp with h|h
     ·exact zig h _
     ·unfold Addr.add;rw[if_neg (by omega)]
    have hadd2:∀ j,a.add (m.toNat*al P e+j)=⟨a.block,a.off+m.toNat*al P e+j,none⟩:=fun j=>by
     rw[← sn,hadd,Addr.add_lit]
    simp only[VR]
    refine⟨a.block,a.off+m.toNat*al P e,by rw[hadd];simp,ia, ?_, ?_⟩
    ·rw[el];intro j x hj hx;exact ho j x hj ((congrArg c.w.cell? (hadd2 j)).trans hx)
    ·exact br hs fun j _=>(congrArg c.w.cell? (hadd2 j)).symm
 ·rename_i nl r e' off n t k m
  cases hb:Nat.beq (al P e) e' with
  | false=>rw[hb] at h;exact h.elim
  | true =>
    rw[hb] at h
    obtain rfl:=be hb
    obtain⟨⟨h0,h1⟩,rfl⟩:=h
    simp only[VR] at hx hi
    subst hi
    obtain⟨A,cap,rfl,h2,h3,h4,h5⟩:=hx
    split at h5
    ·rename_i b mm hr
     obtain⟨h5,h6⟩:=h5
     obtain rfl:=h6 (by omega)
     refine⟨_,fun w=>key w _ n cap k m h0 h1, ?_⟩
     simp only[VR]
     rw[hr]
     simp[Addr.add_lit,Nat.add_mul]
    ·omega
    ·exact h5.elim
 ·exact h.elim
theorem zgq {n cap:Nat} {t t':Tg} {l h:Nat} {q:Prop} {lo hi mx:Option V} {lo' hi' mx':Option Value} (hl:OR c lo lo') (hh:OR c hi hi') (hm:OR c mx mx')
  (hn:n≤cap) (ht:t = .cut true→cap=n) {cp:Nat} (hcp:cp≤cap) (hx:∀ C,t = .exact C→cap=C) (hc:cutV n cp t lo hi mx = .cut l h t' q) (hq:q) :
  ∃ m,(∀ w,(Instr.sliceBounds true n cap lo' hi' mx').run P w = .ok (l,h,m) w)∧l≤h∧h≤m∧m≤cap∧(h≤n∨h≤cp)∧((t' = .cut true→m=h)∧∀ C,t' = .exact C→m-l=C):=by
 have sh1:∀ l,shT t l = .cut true→t = .cut true:=fun l h=>by cases t<;>simp_all [shT]
 have sh2:∀ l C,shT t l = .exact C→cap-l=C:=fun l C h=>by
  cases t with
  | exact D=>have:=hx D rfl;simp only[shT,Tg.exact.injEq] at h;omega
  | _=>simp[shT] at h
 have hi1:∀ l,hiT t l = .cut true→False:=fun l h=>by cases t<;>simp[hiT] at h
 have hi2:∀ l C,hiT t l = .exact C→cap-l=C:=fun l C h=>by
  cases t with
  | exact D=>have:=hx D rfl;simp only[hiT,Tg.exact.injEq] at h;omega
  | _=>simp[hiT] at h
 unfold cutV at hc
 split at hc
 ·cases lo'<;>cases hi'<;>cases mx'<;>simp[OR] at hl hh hm
  cases hc
  exact⟨cap,fun w=>by simp[Instr.sliceBounds],by omega,hn,by omega,.inl (by omega),ht,fun C h=>by rw[← hx C h];omega⟩
 ·cases lo'<;>cases hi'<;>cases mx'<;>simp[OR] at hl hh hm
  cases hc
  simp only[VR] at hl;subst hl
  obtain⟨h0,h1⟩:=hq
  exact⟨cap,fun w=>by simp[Instr.sliceBounds,run_sliceBound,h0,h1],by omega,hn,by omega,.inl (by omega),fun h=>ht (sh1 _ h),fun C h=>sh2 _ C h⟩
 ·cases lo'<;>cases hi'<;>cases mx'<;>simp[OR] at hl hh hm
  cases hc
  simp only[VR] at hh;subst hh
  obtain⟨h0,h1⟩:=hq
  have h2:∀ x:Int,x≤cp→x≤cap:=fun x hx=>by omega
  exact⟨cap,fun w=>by simp[Instr.sliceBounds,run_sliceBound,h0,h2 _ h1],by omega,by omega,by omega,.inr (by omega),fun h=>(hi1 _ h).elim,fun C h=>hi2 _ C h⟩
 ·cases lo'<;>cases hi'<;>cases mx'<;>simp[OR] at hl hh hm
  cases hc
  simp only[VR] at hl hh;subst hl hh
  rename_i _ l _ h
  obtain⟨h0,h1,h2⟩:=hq
  have e1:(h.toNat:Int)=h:=Int.toNat_of_nonneg (by omega)
  have h3:h≤cap:=by omega
  exact⟨cap,fun w=>by simp[Instr.sliceBounds,run_sliceBound,h0,h1,h3,e1,(by omega:0≤h)],by omega,by omega,by omega,.inr (by omega),fun h=>(hi1 _ h).elim,fun C h=>hi2 _ C h⟩
 ·cases lo'<;>cases hi'<;>cases mx'<;>simp[OR] at hl hh hm
  cases hc
  simp only[VR] at hm hh;subst hm hh
  rename_i _ h _ m
  obtain⟨h0,h1,h2⟩:=hq
  have e1:(m.toNat:Int)=m:=Int.toNat_of_nonneg (by omega)
  have h3:m≤cap:=by omega
  refine⟨m.toNat,fun w=>by simp[Instr.sliceBounds,run_sliceBound,h0,h1,h3,e1,(by omega:0≤m)],by omega,by omega,by omega,.inl (by omega),fun e=>?_,fun C e=>by cases e⟩
  simp only[Tg.cut.injEq,decide_eq_true_eq] at e
  rw[e]
 ·cases lo'<;>cases hi'<;>cases mx'<;>simp[OR] at hl hh hm
  cases hc
  simp only[VR] at hl hm hh;subst hl hm hh
  rename_i _ l _ h _ m
  obtain⟨h00,h0,h1,h2⟩:=hq
  have e1:(m.toNat:Int)=m:=Int.toNat_of_nonneg (by omega)
  have e2:(h.toNat:Int)=h:=Int.toNat_of_nonneg (by omega)
  have h3:m≤cap:=by omega
  refine⟨m.toNat,fun w=>by simp[Instr.sliceBounds,run_sliceBound,h00,h0,h1,h3,e1,e2,(by omega:0≤m),(by omega:0≤h)],by omega,by omega,by omega,.inl (by omega),fun e=>?_,fun C e=>by cases e⟩
  simp only[Tg.cut.injEq,decide_eq_true_eq] at e
  rw[e]
 ·cases hc
def pinB:V→Bool
 | .bool _=>true
 | .int _ _=>true
 | .str _=>true
 | _=>false
theorem zon {z:V} (h:pinB z=true) {u v:Value} (hu:VR c z u) (hv:VR c z v):u=v:=by
 cases z<;>simp only[pinB,reduceCtorEq] at h<;>(simp only[VR] at hu hv;rw[hu,hv])
theorem zr {s:Sem Value} {z:V} (hz:pinB z=true) (h:∀ w:World,∃ r,s.run P w = .ok r w∧VR c z r):∃ r,(∀ w,s.run P w = .ok r w)∧VR c z r:=by
 obtain⟨r,h1,h2⟩:=h c.w
 refine⟨r,fun w=>?_,h2⟩
 obtain⟨r',h3,h4⟩:=h w
 rw[zon hz h2 h4];exact h3
theorem zia {T:Nat} {x z:V} {u:Value} {lo hi mx:Option V} {lo' hi' mx':Option Value} (hx:VR c x u) (hl:OR c lo lo') (hh:OR c hi hi') (hm:OR c mx mx')
  {es:Nat} (hes:∀ e,P.underlying T=some (.slice e)→es≠0→da P T=some e∧es=al P e)
  (h:(pj (bp P T) es x lo hi mx).has z):∃ r,(∀ w,(Instr.sliceAt T u lo' hi' mx').run P w = .ok r w)∧VR c z r:=by
 unfold pj at h
 have hkk:∀ k,(match bp P T with | .slice=>bif Nat.beq es 0 then TK.other else bp P T|_=>bp P T)=k→(k = .str→bp P T = .str)∧(k = .slice→bp P T = .slice∧es≠0):=by
  intro k hk
  split at hk
  ·rename_i h1
   cases hb:Nat.beq es 0 with
   | true=>rw[hb] at hk;subst hk;exact⟨(fun h=>by cases h),(fun h=>by cases h)⟩
   | false =>
     rw[hb] at hk
     simp only[cond] at hk
     rw[← hk]
     refine⟨fun h=>h,fun h=>⟨h, ?_⟩⟩
     rintro rfl
     simp at hb
  ·rename_i h1
   rw[← hk]
   exact⟨fun h=>h,fun h=>absurd h h1⟩
 split at h
 ·rename_i s hk
  replace hk:=(hkk _ hk).1 rfl
  cases mx'<;>simp[OR] at hm
  simp only[VR] at hx;subst hx
  have key:=fun w=>zco (P:=P) (w:=w) (nm hk) (lo:=lo) (hi:=hi) (lo':=lo') (hi':=hi') (c:=c) (z:=z) (by cases lo<;>cases lo'<;>simpa [OR] using hl) (by cases hi<;>cases hi'<;>simpa [OR] using hh) h
  obtain⟨r,h1,h2⟩:=key c.w
  refine⟨r,fun w=>?_,h2⟩
  obtain⟨r',h3,h4⟩:=key w
  have hz:pinB z=true:=by
   unfold yl at h
   split at h<;>first|exact h.elim|(simp only[R.has] at h;first|(subst h;rfl)|(obtain⟨_,rfl⟩:=h;rfl))
  rw[zon hz h2 h4];exact h3
 ·rename_i mx2 nl t e' n f hk
  obtain⟨hk,hes0⟩:=(hkk _ hk).2 rfl
  obtain⟨e,hT⟩:=ee hk
  obtain⟨he,hes⟩:=hes e hT hes0
  subst hes
  obtain⟨_,he0⟩:=cr he
  obtain⟨ie,hie⟩:=bx he0
  cases hb:Nat.beq (al P e) e' with
  | false=>rw[hb] at h;exact h.elim
  | true =>
    rw[hb] at h
    obtain rfl:=be hb
    dsimp only [cond] at h
    split at h
    ·rename_i l h' t' q hc
     obtain⟨hq,rfl⟩:=h
     simp only[VR] at hx
     obtain⟨A,cap,rfl,h2,h3,h4,h5,h6⟩:=hx
     obtain⟨m,hrun,b1,b2,b3,b4,b5,b6⟩:=zgq (P:=P) hl hh hm h2 (fun h=>h3 (by cases t<;>simp_all [unx])) (cp:=n) h2 (fun C h=>by cases t<;>simp[unx] at h) hc hq
     refine⟨sliced A l h' m (al P e), ?_, ?_⟩
     ·intro w
      rw[run_sliceAt_slice w T _ _ _ _ (du hT),run_slice_any w T A n cap (du hT),hrun,qq hT]
      simp[cf hie]
     ·simp only[VR,sliced]
      refine⟨_,_,rfl,by omega,fun e=>by rw[b5 e], ?_, ?_, ?_⟩
      ·intro b hb;rw[h4 b hb];cases A<;>simp;split<;>simp
      ·intro hA
       have:A=none:=by cases A<;>simp at hA<;>first|rfl|(split at hA<;>simp at hA)
       have:=h5 this
       omega
      ·intro i hi
       obtain⟨a,rfl,ia,el,ho,hs⟩:=h6 (l+i) (by omega)
       have hml:m≠l:=by omega
       refine⟨a.add (l*al P e),by simp[hml],by rw[zec];exact ia,el, ?_, ?_⟩
       ·intro j x hj hx
        exact ho j x hj ((congrArg c.w.cell? (by rw[sn,Nat.add_mul,Nat.add_assoc])).trans hx)
       ·exact br hs fun j _=>congrArg c.w.cell? (by rw[sn,Nat.add_mul,Nat.add_assoc])
    ·exact h.elim
 ·rename_i mx2 nl r e' off n t hk
  obtain⟨hk,hes0⟩:=(hkk _ hk).2 rfl
  obtain⟨e,hT⟩:=ee hk
  obtain⟨he,hes⟩:=hes e hT hes0
  subst hes
  obtain⟨_,he0⟩:=cr he
  obtain⟨ie,hie⟩:=bx he0
  cases hb:Nat.beq (al P e) e' with
  | false=>rw[hb] at h;exact h.elim
  | true =>
    rw[hb] at h
    obtain rfl:=be hb
    dsimp only [cond] at h
    split at h
    ·rename_i l h' t' q hc
     obtain⟨hq,rfl⟩:=h
     simp only[VR] at hx
     obtain⟨A,cap,rfl,h2,h3,h4,h5⟩:=hx
     obtain⟨m,hrun,b1,b2,b3,b4,b5,b6⟩:=zgq (P:=P) hl hh hm h2.1 h3 (cp:=cpT t n) (by cases t<;>simp only[cpT]<;>first|exact h2.1|(have:=h2.2 _ rfl;omega)) h2.2 hc hq
     refine⟨sliced A l h' m (al P e), ?_, ?_⟩
     ·intro w
      rw[run_sliceAt_slice w T _ _ _ _ (du hT),run_slice_any w T A n cap (du hT),hrun,qq hT]
      simp[cf hie]
     ·simp only[VR,sliced]
      refine⟨_,_,rfl,⟨by omega,b6⟩,fun e=>by rw[b5 e], ?_, ?_⟩
      ·intro b hb;rw[h4 b hb];cases A<;>simp;split<;>simp
      ·split at h5
       ·obtain⟨h5,h6⟩:=h5
        refine⟨by omega,fun hp=>?_⟩
        have hml:m≠l:=by omega
        rw[h6 (by omega)]
        simp[hml,Addr.add_lit,Nat.add_mul]
       ·omega
       ·exact h5
    ·exact h.elim
 ·exact h.elim
theorem sl {T:Nat} {cs:List V} {off:Nat} {z:V} {g:Nat→Option Value} {b o:Nat} (H:VRs c cs g) (ho:One cs.length g)
  (h:(vn (ti P T) cs off).has z):∃ r,(∀ w:World,(∀ j x,j<cs.length→g j=some x→w.cell? ⟨b,o+j,none⟩=some x)→(loadVar T ⟨b,o+off,none⟩).run P w = .ok r w)∧VR c z r:=by
 unfold vn at h
 dsimp only [ti] at h
 split at h
 ·rename_i hT
  cases hb:Nat.ble (off+al P T) (len cs) with
  | false=>rw[hb] at h;exact h.elim
  | true =>
    rw[hb] at h
    simp only[cond,R.has] at h
    subst h
    have hle:off+al P T≤cs.length:=by rw[← jm];exact Nat.le_of_ble_eq_true hb
    obtain⟨i,hi⟩:=ma hT
    have H2:=rn (sa H off) (al P T)
    obtain⟨us,h1,h2,h3⟩:=zic H2
    have hul:us.length=al P T:=by rw[h1];simp;omega
    have hrun:∀ w:World,(∀ j x,j<cs.length→g j=some x→w.cell? ⟨b,o+j,none⟩=some x)→(loadCells ⟨b,o+off,none⟩ (al P T)).run P w = .ok us.toArray w:=by
     intro w hg
     rw[← hul]
     refine run_loadCells_list w _ us fun j v hj=>?_
     rw[Addr.add_lit]
     have hjl:j<us.length:=(List.getElem?_eq_some_iff.1 hj).1
     have:=h2 j (by simp;omega)
     rw[this] at hj
     have:=hg (off+j) v (by omega) hj
     rw[Nat.add_assoc];exact this
    refine⟨.agg us.toArray,fun w hg=>by simp[loadVar,pp hT,cf hi,hrun w hg], ?_⟩
    simp only[VR]
    rw[zqw,zql]
    refine⟨us.toArray,rfl,by simp[h1], ?_,by simpa using h3⟩
    intro j x hj hx
    have:=h2 j hj
    simp only[List.getElem?_toArray] at hx
    rw[this] at hx
    refine ho (off+j) x ?_ hx
    simp at hj;omega
 ·rename_i hT
  cases hb:Nat.blt off (len cs) with
  | false=>rw[hb] at h;exact h.elim
  | true =>
    rw[hb] at h
    simp only[cond,R.has] at h
    subst h
    have hlt:off<cs.length:=by rw[← jm];exact Nat.blt_eq ▸ hb
    obtain⟨u,hu,hv⟩:=de H (qu cs off hlt)
    refine⟨u,fun w hg=>?_,hv⟩
    have hc:=hg off u hlt hu
    simp[loadVar,pp hT,Go.load,Sem.run,hc]
 ·exact h.elim
theorem zlw {T f k t:Nat} (hf:bg P T f=some (k,t)) {x z:V} {u:Value} (hx:VR c x u) (h:(vi (some (k,t)) (ti P t) x).has z):∃ r,(∀ w,(Instr.field T u f).run P w = .ok r w)∧VR c z r:=by
 obtain⟨fs,fld,hT,hfs,rfl,rfl,h0⟩:=ny hf
 unfold vi at h
 split at h
 ·rename_i k' t' cs heq
  cases heq
  simp only[VR] at hx
  obtain⟨us,rfl,g1,g2,g3⟩:=hx
  unfold vn at h
  dsimp only [ti] at h
  split at h
  ·rename_i hag
   cases hb:Nat.ble (fld.offset+al P fld.type) (len cs) with
   | false=>rw[hb] at h;exact h.elim
   | true =>
     rw[hb] at h
     simp only[cond,R.has] at h
     subst h
     obtain⟨i,hi⟩:=ma hag
     have hle:fld.offset+al P fld.type≤cs.length:=by rw[← jm];exact Nat.le_of_ble_eq_true hb
     refine⟨.agg (us.extract fld.offset (fld.offset+al P fld.type)), ?_, ?_⟩
     ·intro w
      simp[Instr.field,run_underlying hT,hfs,asAgg,part,pp hag,cf hi]
     ·simp only[VR]
      rw[zqw,zql]
      have hget:∀ j,j<al P fld.type→(us.extract fld.offset (fld.offset+al P fld.type))[j]? = us[fld.offset+j]?:=fun j hj=>by
       rw[Array.getElem?_extract,if_pos (by rw[g1];omega)]
      have hl:((cs.drop fld.offset).take (al P fld.type)).length=al P fld.type:=by simp;omega
      refine⟨_,rfl,by simp[g1];omega, ?_, ?_⟩
      ·intro j y hj hy
       rw[hl] at hj
       exact g2 (fld.offset+j) y (by omega) ((hget j hj).symm.trans hy)
      ·exact br (rn (sa g3 _) _) fun j hj=>hget j (by omega)
  ·rename_i hag
   cases hb:Nat.blt fld.offset (len cs) with
   | false=>rw[hb] at h;exact h.elim
   | true =>
     rw[hb] at h
     simp only[cond,R.has] at h
     subst h
     have hlt:fld.offset<cs.length:=by rw[← jm];exact Nat.blt_eq ▸ hb
     obtain⟨u,hu,hv⟩:=de g3 (qu cs _ hlt)
     refine⟨u,fun w=>?_,hv⟩
     simp only[Instr.field,Sem.run_bind,run_underlying hT,Result.andThen_ok,hfs,asAgg,Sem.run_pure]
     exact nj hag us _ hu
  ·exact h.elim
 ·exact h.elim
theorem znj {T:Nat} {z cs:List V} {pl:List (Nat × Nat)} (hz:cq P T=some z) (hpl:dy P T=some pl) {parts:List (Nat × V)} {vals:Array (Nat × Value)} (hp:PR c parts vals.toList)
  (h:rr (pnth pl) z parts=some cs):∃ u,(∀ w,(Instr.build T vals).run P w = .ok u w)∧VR c (.agg cs) u:=by
 obtain⟨i,v,hi,hv,rfl,h3,h4⟩:=my hz
 unfold dy at hpl
 split at hpl
 ·rename_i fs hT
  have hpn:∀ k,pnth pl k=pl.toArray[k]?:=zll pl
  have hl:(ofVs v.cells.toList).length=v.cells.size:=by rw[ta];simp
  obtain⟨us',g1,g2,g3,g4,_⟩:=zgk hp (us:=v.cells) hl.symm (fun j x hj hx=>h3 x (by
   have hx':v.cells[j]? = some x:=hx
   rw[← Array.getElem?_toList] at hx'
   exact List.mem_of_getElem? hx')) (by simpa using zan (c:=c) v.cells.toList) h
  refine⟨.agg us',fun w=>run_build w T vals us' ?_,by simp only[VR];exact⟨us',rfl,g2,g3,g4⟩⟩
  unfold Program.built
  simp only[hi,hT,hv,hpl]
  rw[← g1]
  congr 1
  funext k
  exact (hpn k).symm
 ·cases hpl
end
section
variable {P:Program} {F:Fr} {c:Ctx} {H:Heap}
theorem Extends.cell {w w':World} (hx:w.Extends w') {a:Addr} {x:Value} (h:w.cell? a=some x):w'.cell? a=some x:=by
 have hlt:a.block<w.heap.size:=by
  unfold World.cell? at h
  split at h
  ·rename_i hb
   exact (Array.getElem?_eq_some_iff.1 hb).1
  ·cases h
 rw[hx.cell a hlt];exact h
theorem load_w (hs:SR F c H) {T:Nat} {x z:V} {u:Value} (hx:VR c x u) (h:(load (ti P T) H x).has z):∃ r,(∀ w',c.w.Extends w'→(Instr.loadAt T u).run P w' = .ok r w')∧VR c z r:=by
 unfold load at h
 split at h
 ·rename_i r off
  simp only[VR] at hx
  split at hx
  ·rename_i b m hr
   subst hx
   split at h
   ·rename_i cs hb
    obtain⟨h1,h2⟩:=hs.get hr
    rw[hb] at h2
    obtain⟨_,g1,⟨C,el,rfl,g2,g3,g4⟩,_⟩:=h2 trivial
    have:=sl (P:=P) (b:=b) (o:=0) g4 g3 h
    obtain⟨u,hu,hv⟩:=this
    exact⟨u,fun w' hx=>by simpa [Instr.loadAt,Instr.sureAddr] using hu w' (fun j x _ hj=>Extends.cell hx (by rw[Nat.zero_add,ez g1];exact hj)),hv⟩
   ·exact h.elim
  ·exact hx.elim
 ·rename_i r e i off
  simp only[VR] at hx
  split at hx
  ·rename_i b m hr
   subst hx
   split at h
   ·rename_i e' n f hb
    obtain⟨h1,h2⟩:=hs.get hr
    rw[hb] at h2
    obtain⟨_,g1,⟨C,el,rfl,g2,g3,g4⟩,_⟩:=h2 trivial
    cases hbb:Nat.beq e e' with
    | false=>rw[hbb] at h;exact h.elim
    | true =>
      rw[hbb] at h
      obtain rfl:=be hbb
      dsimp only [cond] at h
      split at h
      ·rename_i v hv
       obtain⟨hi,rfl⟩:=h
       obtain⟨k1,k2,k3⟩:=g4 i hi
       have:=sl (P:=P) (T:=T) (off:=off) (z:=z) (b:=b) (o:=i*e) k3 (by rw[k1];exact k2) (by rw[hv];rfl)
       obtain⟨u,hu,hv⟩:=this
       exact⟨u,fun w' hx=>by simpa [Instr.loadAt,Instr.sureAddr] using hu w' (fun j x _ hj=>Extends.cell hx (by rw[ez g1];exact hj)),hv⟩
      ·exact h.elim
   ·exact h.elim
  ·exact hx.elim
 ·rename_i cs off
  simp only[VR] at hx
  obtain⟨b,o,rfl,h1,h2,h3⟩:=hx
  have:=sl (P:=P) (b:=b) (o:=o) (VRs.ofBare h3) h2 h
  obtain⟨u,hu,hv⟩:=this
  exact⟨u,fun w' hx=>by simpa [Instr.loadAt,Instr.sureAddr] using hu w' (fun j x _ hj=>Extends.cell hx hj),hv⟩
 ·exact h.elim
end
end Go.VM
end
section
namespace Go.VM
def fl (o:Oper):Bool :=
 match o.op with
 | .move _ | .assign _ | .pick _ _ _ | .binOp _ _ _ _ _ | .unOp _ _ _ | .extract _ _ | .nilCheck _ | .fieldAddr _ _ _ | .index _ _ _ | .indexAddr _ _ _ | .load _ _ | .slice _ _ _ _ _ | .convert _ _ _ | .field _ _ _ | .build _ _ | .lookup _ _ _ _=>true
 | .call c=>(match c.callee with | .builtin .len=>true|_=>false)
 | _=>false
theorem zmm {op:BinOp} {K:TK} {x y z:V} (h:(bin op K x y).has z):pinB z=true:=by
 unfold bin at h
 have fin:∀ {r:R},r.has z→(∀ v,r = .ok v→pinB v=true)→(∀ q v,r = .chk q v→pinB v=true)→pinB z=true:=by
  intro r h h1 h2
  cases r with
  | no=>exact h.elim
  | ok v=>simp only[R.has] at h;subst h;exact h1 _ rfl
  | chk q v=>obtain⟨_,rfl⟩:=h;exact h2 _ _ rfl
 refine fin h ?_ ?_
 ·intro v hv
  simp only[cond_eq_ite] at hv
  repeat' split at hv
  all_goals first
   | (cases hv;rfl)
   | cases hv
 ·intro q v hv
  simp only[cond_eq_ite] at hv
  repeat' split at hv
  all_goals first
   | (cases hv;rfl)
   | cases hv
theorem zxo {op:UnOp} {x z:V} (h:(un op x).has z):pinB z=true:=by
 unfold un at h
 split at h<;>first|exact h.elim|(simp only[R.has] at h;subst h;rfl)
theorem z0j {K:TK} {x z:V} (h:(vlen K x).has z):pinB z=true:=by
 unfold vlen at h
 split at h<;>first|exact h.elim|(simp only[R.has] at h;subst h;rfl)
theorem zgw {S D:TK} {x z:V} (h:(zef S D x).has z):pinB z=true:=by
 unfold zef at h
 split at h<;>first|exact h.elim|(simp only[R.has] at h;subst h;rfl)
theorem zdu {K:TK} {x i z:V} (h:(wi K x i).has z):pinB z=true:=by
 unfold wi at h
 split at h<;>first|exact h.elim|(obtain⟨_,rfl⟩:=h;rfl)
theorem zxq {P:Program} {c:Ctx} {cv av bv z:V} {cu au bu:Value} (h:(zfs cv av bv).has z) (hc:VR c cv cu)
  (ha:cv = .bool true→VR c av au) (hb:cv = .bool false→VR c bv bu) :
  ∃ u,(∀ w,(do pure (Next.value (if ← asBool cu then au else bu)):Sem Next).run P w = .ok (.value u) w)∧VR c z u:=by
 have hcu:∃ b,cv = .bool b:=by
  unfold zfs at h
  split at h
  ·exact⟨_,rfl⟩
  ·exact h.elim
 obtain⟨b,rfl⟩:=hcu
 have hc':=hc
 simp only[VR] at hc'
 subst hc'
 refine⟨if b then au else bu,fun w=>by simp[asBool,Sem.run_bind], ?_⟩
 obtain⟨u,h1,h2⟩:=zqt (P:=P) (w:=c.w) h hc ha hb
 have:u=if b then au else bu:=by simpa [asBool,Sem.run_bind] using h1.symm
 rw[← this];exact h2
section
variable {P:Program} {F:Fr} {c:Ctx} {E:Env} {H:Heap} {a:Act} {X:Nat→Bool} {k:Nat} {p:Path} {o:Oper} {K:Env→Heap→Prop}
def Stl (P:Program) (o:Oper) (k:Nat) (p:Path) (a:Act) (c:Ctx) (E:Env) (H:Heap) (K:Env→Heap→Prop):Prop :=
 ∃ v,K (put E o.dst (k+1) p v) H∧(pc p→∃ u,(∀ w',c.w.Extends w'→(execOp a.eval o).run P w' = .ok (.value u) w')∧VR c v u)
theorem qb {r:R} (hrun:pc p→∀ v,r.has v→∃ u,(∀ w',c.w.Extends w'→(execOp a.eval o).run P w' = .ok (.value u) w')∧VR c v u)
  (h:rk p r fun v=>K (put E o.dst (k+1) p v) H):Stl P o k p a c E H K:=by
 cases r with
 | no=>exact h.elim
 | ok v=>exact⟨v,h,fun hpc=>hrun hpc v rfl⟩
 | chk q v=>exact⟨v,h.2,fun hpc=>hrun hpc v ⟨h.1 hpc,rfl⟩⟩
theorem yh {r:R} {s:Sem Value} (he:execOp a.eval o=(do pure (Next.value (← s)))) (hrun:pc p→∀ v,r.has v→∃ u,(∀ w,s.run P w = .ok u w)∧VR c v u)
  (h:rk p r fun v=>K (put E o.dst (k+1) p v) H):Stl P o k p a c E H K:=by
 refine qb (fun hpc v hv=>?_) h
 obtain⟨u,h1,h2⟩:=hrun hpc v hv
 exact⟨u,fun w' _=>by rw[he];exact mo (h1 w'),h2⟩
theorem zap (hs:St F c E H a X k) (hp:KP X k p) (hst:fl o=true) (h:xo P k o p E H K):Stl P o k p a c E H K:=by
 unfold xo at h
 have hev:=fun hpc x=>pf hs.er hs.ki hp hpc x (a:=a)
 have no:∀ {q:Op},o.op=q→(match q with
 | .move _ | .assign _ | .pick _ _ _ | .binOp _ _ _ _ _ | .unOp _ _ _ | .extract _ _ | .nilCheck _ | .fieldAddr _ _ _ | .index _ _ _ | .indexAddr _ _ _ | .load _ _ | .slice _ _ _ _ _ | .convert _ _ _ | .field _ _ _ | .build _ _ | .lookup _ _ _ _=>true
 | .call c=>(match c.callee with | .builtin .len=>true|_=>false)
 | _=>false)=true:=by
   intro q hq
   unfold fl at hst
   rw[hq] at hst
   exact hst
 split at h
 ·rename_i x ho
  exact yh (r:=.ok (ev E p x)) (s:=pure (a.eval x)) (by simp[execOp,ho]) (fun hpc v hv=>⟨_,fun _=>rfl,by cases hv;exact hev hpc x⟩) h
 ·rename_i x ho
  exact yh (r:=.ok (ev E p x)) (s:=pure (a.eval x)) (by simp[execOp,ho]) (fun hpc v hv=>⟨_,fun _=>rfl,by cases hv;exact hev hpc x⟩) h
 ·rename_i cc x y ho
  refine qb (fun hpc v hv=>?_) (kg h)
  obtain⟨u,h1,h2⟩:=zxq (P:=P) (c:=c) hv (hev hpc cc) (au:=a.eval x) (bu:=a.eval y)
   (fun hb=>by obtain⟨h1,h2⟩:=zjb hs hp hpc hb;exact pf hs.er hs.ki h1 h2 x)
   (fun hb=>by obtain⟨h1,h2⟩:=zjb hs hp hpc hb;exact pf hs.er hs.ki h1 h2 y)
  exact⟨u,fun w' _=>by simpa [execOp,ho] using h1 w',h2⟩
 ·rename_i op T x y yt ho
  exact yh (s:=do eqGuard op T x y (a.eval x) (a.eval y);binOp op T (a.eval x) (a.eval y)) (by simp[execOp,ho]) (fun hpc v hv=>zr (zmm hv) fun w=>zqe (hev hpc x) (hev hpc y) hv) (kg h)
 ·rename_i op T x ho
  exact yh (s:=Op.unary op (a.eval x)) (by simp[execOp,ho]) (fun hpc v hv=>zr (zxo hv) fun w=>z3q (hev hpc x) hv) (kg h)
 ·rename_i x i ho
  exact yh (s:=Instr.extract (a.eval x) i) (by simp[execOp,ho]) (fun hpc v hv=>zcf (hev hpc x) hv) h
 ·
  rename_i x ho
  have hrun:∀ A,a.eval x = .pointer (some A)→∀ w',c.w.Extends w'→(execOp a.eval o).run P w' = .ok (.value (.pointer (some A))) w':=fun A hA w' _=>by simp[execOp,ho,hA]
  split at h
  ·rename_i r off hv
   refine qb (r:=.ok (.ptr r off)) (fun hpc v hv'=>?_) h
   cases hv'
   have hx:=hev hpc x
   rw[hv] at hx
   have hx':=hx
   simp only[VR] at hx'
   split at hx'
   ·exact⟨_,hrun _ hx',by rw[← hx'];exact hx⟩
   ·exact hx'.elim
  ·rename_i r e i off hv
   refine qb (r:=.ok (.eptr r e i off)) (fun hpc v hv'=>?_) h
   cases hv'
   have hx:=hev hpc x
   rw[hv] at hx
   have hx':=hx
   simp only[VR] at hx'
   split at hx'
   ·exact⟨_,hrun _ hx',by rw[← hx'];exact hx⟩
   ·exact hx'.elim
  ·rename_i cs off hv
   refine qb (r:=.ok (.iptr cs off)) (fun hpc v hv'=>?_) h
   cases hv'
   have hx:=hev hpc x
   rw[hv] at hx
   have hx':=hx
   simp only[VR] at hx'
   obtain⟨b,o',hx',_⟩:=hx'
   exact⟨_,hrun _ hx',by rw[← hx'];exact hx⟩
  ·exact h.elim
 ·rename_i T x f ho
  exact yh (s:=Instr.fieldAt T (a.eval x) f) (by simp[execOp,ho]) (fun hpc v hv=>uv (hev hpc x) hv) h
 ·rename_i T x i ho
  exact yh (s:=Instr.index T (a.eval x) (a.eval i)) (by simp[execOp,ho]) (fun hpc v hv=>zr (zdu hv) fun w=>wu (hev hpc x) (hev hpc i) hv) (kg h)
 ·rename_i T x i ho
  split at h
  ·rename_i e hT
   exact yh (s:=Instr.indexAt T (a.eval x) (a.eval i)) (by simp[execOp,ho]) (fun hpc v hv=>ux hT (hev hpc x) (hev hpc i) hv) h
  ·exact h.elim
 ·rename_i T x ho
  refine qb (fun hpc v hv=>?_) h
  obtain⟨u,h1,h2⟩:=load_w (P:=P) hs.sr (hev hpc x) hv
  exact⟨u,fun w' hw=>by rw[show execOp a.eval o=(do pure (Next.value (← Instr.loadAt T (a.eval x)))) from by simp[execOp,ho]];exact mo (h1 w' hw),h2⟩
 ·rename_i T x lo hi mx ho
  exact yh (s:=Instr.sliceAt T (a.eval x) (lo.map a.eval) (hi.map a.eval) (mx.map a.eval)) (by simp[execOp,ho])
   (fun hpc v hv=>by
    refine zia (hev hpc x) (rb hs hp hpc lo) (rb hs hp hpc hi) (rb hs hp hpc mx) (fun e' he' h0=>?_) hv
    unfold zk at h0 ⊢
    cases hte:da P T with
    | none=>rw[hte] at h0;exact absurd rfl h0
    | some e =>
      have:=mq hte
      rw[this] at he'
      cases he'
      exact⟨rfl,rfl⟩) h
 ·rename_i S D x ho
  refine qb (fun hpc v hv=>?_) (kg h)
  have:∃ u,(∀ w',c.w.Extends w'→(convert S D (a.eval x)).run P w' = .ok u w')∧VR c v u:=by
   rcases va hv with ⟨h1,h2,hv⟩|hv
   ·exact zlr (P:=P) hs.sr h1 h2 (hev hpc x) hv
   ·obtain⟨u,h1,h2⟩:=zr (zgw hv) fun w=>zfx (P:=P) (w:=w) (hev hpc x) hv
    exact⟨u,fun w' _=>h1 w',h2⟩
  obtain⟨u,h1,h2⟩:=this
  exact⟨u,fun w' hw=>by rw[show execOp a.eval o=(do pure (Next.value (← convert S D (a.eval x)))) from by simp[execOp,ho]];exact mo (h1 w' hw),h2⟩
 ·rename_i T x f ho
  split at h
  ·rename_i k' t hf
   exact yh (s:=Instr.field T (a.eval x) f) (by simp[execOp,ho]) (fun hpc v hv=>zlw hf (hev hpc x) hv) h
  ·exact h.elim
 ·rename_i f first caps ho;cases no ho
 ·rename_i T ho;cases no ho
 ·rename_i T x ho;cases no ho
 ·rename_i T x y ho;cases no ho
 ·rename_i T ho;cases no ho
 ·rename_i T m x y ho;cases no ho
 ·rename_i T m x y ho;cases no ho
 ·rename_i T m x b ho
  split at h
  ·rename_i e r s hT hm hx
   split at h
   ·rename_i es z hb hz
    refine qb (r:=.ok (zbz b z es s)) (fun hpc v hv=>?_) h
    cases hv
    have hxs:=hev hpc x
    rw[hx] at hxs
    simp only[VR] at hxs
    have hms:=hev hpc m
    rw[hm] at hms
    obtain⟨u,h1,h2⟩:=zgp (P:=P) hs.sr hT (s:=s) hz hms hb b
    exact⟨u,fun w' hw=>by rw[show execOp a.eval o=(do pure (Next.value (← Instr.lookup T (a.eval m) (a.eval x) b))) from by simp[execOp,ho]];exact mo (by rw[hxs];exact h1 w' hw),h2⟩
   ·exact h.elim
  ·exact h.elim
 ·rename_i T n parts ho;cases no ho
 ·rename_i T parts ho
  split at h
  ·rename_i z pl hz hpl
   split at h
   ·rename_i cs hf
    refine qb (r:=.ok (.agg cs)) (fun hpc v hv=>?_) h
    cases hv
    obtain⟨u,h1,h2⟩:=znj (P:=P) (c:=c) hz hpl (vals:=parts.map fun (i,x)=>(i,a.eval x)) (by rw[Array.toList_map];exact yv hs hp hpc _) hf
    exact⟨u,fun w' _=>by rw[show execOp a.eval o=(do pure (Next.value (← Instr.build T (parts.map fun (i,x)=>(i,a.eval x))))) from by simp[execOp,ho]];exact mo (h1 w'),h2⟩
   ·exact h.elim
  ·exact h.elim
 ·rename_i cl ho
  have hno:=no ho
  dsimp only at hno
  split at h
  ·rename_i b hb
   rw[hb] at hno
   unfold xb at h
   split at h
   ·rename_i t x hts hxs
    obtain⟨y,hy,rfl⟩:=xr hxs
    refine qb (fun hpc v hv=>?_) h
    obtain⟨u,h1,h2⟩:=zxh (P:=P) (ty:=o.type) hs.sr (hev hpc y) hv
    refine⟨u,fun w' hw=>?_,h2⟩
    have h1:=h1 w' hw
    have ea:cl.args = #[y]:=by apply Array.ext';simpa using hy
    have et:cl.argTypes = #[t]:=by apply Array.ext';simpa using hts
    simp[execOp,ho,resolve,hb,invoke,builtin,ea,et,h1]
   all_goals first|cases hno|exact h.elim
  ·rename_i f hf
   rw[hf] at hno
   cases hno
  ·exact h.elim
 ·exact h.elim
end
end Go.VM
end
section
namespace Go.VM
section
variable {P:Program} {F:Fr} {c:Ctx} {H:Heap}
theorem ko {c:Ctx} {nt:Nat} {w':World} (h:FR ⟨c,fun _=>False,nt,none,[]⟩ w'):c.w.Extends w':=by
 have hb:∀ i,i<c.w.heap.size→w'.heap[i]? = c.w.heap[i]?:=fun i hi=>h.block i hi (fun h=>h)
 exact⟨h.os,h.tape,h.output,h.size,fun a ha=>by simp only[World.cell?,hb _ ha],fun a ha=>by simp only[World.frozen?,hb _ ha],hb⟩
theorem SR.deadAll (hs:SR F c H):SR ⟨c,fun _=>False,0,none,[]⟩ c (H.map fun _=>.dead):=by
 have key:∀ (r:Nat) (x:Blk),(H.map fun _=>Blk.dead)[r]? = some x→x = .dead:=fun r x h=>by
  simp only[List.getElem?_map,Option.map_eq_some_iff] at h
  obtain⟨_,_,rfl⟩:=h
  rfl
 refine⟨⟨rfl,rfl,rfl,Nat.le_refl _,fun _ _ _=>rfl⟩,Le.refl _,by simp[hs.len],fun r b l hr hl=>?_,fun r r' x x' b m m' hr hr' hx hx' hl hl'=>?_,hs.imm,fun b h=>.inl h⟩
 ·obtain rfl:=key r b hr
  cases l with
  | none=>trivial
  | some l=>exact fun h=>h.elim
 ·obtain rfl:=key r x hr
  exact hx.elim
def cwE (P:Program) (f:Nat) (args:List V) (H:Heap) (K:V→Heap→Prop):Prop :=
 aw P f=true∧∀ (F:Fr) (c:Ctx),GF P F→SR F c H→∀ us:Array Value,us.size=args.length→(VRs c args fun j=>us[j]?) →
  Calls P f us c.w fun e w'=>∃ c' u v H',e = .returned u∧c'.w=w'∧Le c c'∧SR F c' H'∧VR c' v u∧(c.w.Extends c'.w∧K v H')
def cgE (P:Program) (f:Nat) (args:List V) (H:Heap) (p:Path) (K:V→Prop):Prop :=
 ∃ v,(pc p→cwE P f args H fun v' H'=>v'=v∧H'=H)∧K v
@[congr] theorem cwE_congr {P:Program} {f:Nat} {args args':List V} {H H':Heap} {K:V→Heap→Prop} (h1:args=args') (h2:H=H'):cwE P f args H K=cwE P f args' H' K:=by rw[h1,h2]
@[congr] theorem cgE_congr {P:Program} {f:Nat} {args args':List V} {H H':Heap} {p:Path} {K:V→Prop} (h1:args=args') (h2:H=H'):cgE P f args H p K=cgE P f args' H' p K:=by rw[h1,h2]
theorem zng {f:Nat} {args:List V} {v:V} {H1:Heap} (h:Meets P f args v H1) (hnr:ltrs 0 args=true) {K:V→Heap→Prop} (hk:K (shV (hlen H) v) (happ H (shH (hlen H) H1))):cwE P f args H K:=by
 refine⟨h.1,fun F c gt hs us hsz hus=>?_⟩
 have hus':VRs ⟨c.w,c.I,[]⟩ args fun j=>us[j]?:=by
  have:=lr args _ hnr hus
  simpa [Ctx.cut] using this
 refine Calls.mono (h.2 c.w c.I (gt c H hs) hs.imm us hsz hus') ?_
 rintro e w' ⟨c',u,rfl,rfl,h1,h2⟩
 have hx:c.w.Extends c'.w:=ko (c:=⟨c.w,c.I,[]⟩) h1.fr
 obtain⟨k1,k2⟩:=hs.call h1
 rw[bt,zav] at hk
 have key:=zpc (c:=c') (c':=⟨c'.w,c'.I,c.locs++c'.locs⟩) (n:=H.length) rfl (fun _ h=>h) (fun r l hr=>by
  show (c.locs++c'.locs)[H.length+r]? = _
  rw[List.getElem?_append_right (by rw[hs.len];omega),hs.len]
  simpa using hr) v u h2
 exact⟨⟨c'.w,c'.I,c.locs++c'.locs⟩,u,_,_,rfl,rfl,k2,k1,key,hx,hk⟩
theorem ztj (d:Nat) {f:Nat} {args:List V} {v:V} {H1:Heap} (h:Meets P f (frWs true (frD [] H d) [] H args) v H1) (hv:flat v=true) (hok:okWs (okD [] H d) [] H args) {K:V→Heap→Prop} (hk:K v H):cwE P f args H K:=by
 refine⟨h.1,fun F c gt hs us hsz hus=>?_⟩
 have himm:∀ b,FzI c [] H b→b<c.w.heap.size:=by
  rintro b (h | ⟨r,cap,x,h1,h2,h3,h4⟩)
  ·exact hs.imm b h
  ·obtain⟨C,k1,_⟩:=hs.blk r x _ h2 h4 h3
   exact (Array.getElem?_eq_some_iff.1 k1).1
 have hus':VRs ⟨c.w,FzI c [] H,[]⟩ (frWs true (frD [] H d) [] H args) fun j=>us[j]? :=
  kj (top:=true) (σ:=[]) hs (fun _ r i h=>by cases h) (fun _ h=>h) (tr hs (fun _ h=>h) d) (gk [] H d) args _ hok hus
 refine Calls.mono (h.2 c.w (FzI c [] H) (gt c H hs) himm us (by rw[dp];exact hsz) hus') ?_
 rintro e w' ⟨c',u,rfl,rfl,h1,h2⟩
 have hfr:FR ⟨c,fun _=>False,0,none,[]⟩ c'.w:=⟨h1.fr.os,h1.fr.tape,h1.fr.output,h1.fr.size,h1.fr.block⟩
 obtain⟨k1,k2⟩:=hs.after hfr
 exact⟨{ c with w:=c'.w },u,v,H,rfl,rfl,k2,k1,zer v u hv h2,ko hfr,hk⟩
theorem sq {t ty e:Nat} (hT:da P t=some e) {z:List V} (hz:cq P e=some z) (hb:co P e≠0) (hs:SR F c H)
  {A B:Option Addr} {n m cap:Nat} {f g:Nat→List V} {olds news:List Value} (ho:Rd c (al P e) n f A olds) (hn:Rd c (al P e) m g B news)
  (hnm:n=0∨0<m) (hfit:(n+m)*co P e≤140737488355328) {nl:Option Bool} (hnl:Nlr nl A) (hA:A=none→n=0) :
  ∃ c' u,(Builtin.append_ #[t,t] ty #[.slice A n n,.slice B m cap]).run P c.w = .ok u c'.w∧SR F c' (H++[.arr (al P e) (n+m) (join n f g)])∧Le c c' ∧
   VR c' (.own (napp nl m) H.length (al P e) 0 (n+m) .loose) u∧c.w.Extends c'.w:=by
 obtain⟨c',u,k1,k2,k3,k4⟩:=ol (P:=P) (ty:=ty) (cap:=cap) hT hz hb hs ho hn hnm hfit hnl hA
 obtain⟨c2,u2,g1,g2,g3,g4⟩:=ol (P:=P) (ty:=ty) (cap:=cap) hT hz hb hs.deadAll ho hn hnm hfit hnl hA
 refine⟨c',u,k1,k2,k3,k4, ?_⟩
 rw[k1] at g1
 simp only[Result.ok.injEq] at g1
 rw[g1.2]
 exact ko g2.fr
def zew:V→Bool
 | .own _ _ _ _ _ .loose=>false
 | .own _ _ _ _ _ (.exact _)=>false
 | _=>true
theorem zfq {t ty e:Nat} (hT:da P t=some e) {z:List V} (hz:cq P e=some z) (hb:co P e≠0) (hs:SR F c H)
  {s x:V} {u v:Value} (hsv:VR c s u) (hx:VR c x v) (hst:zew s=true) {K:V→Heap→Prop} (h:kc (al P e) (co P e) H s x K) :
  ∃ c' H' r y,(Builtin.append_ #[t,t] ty #[u,v]).run P c.w = .ok r c'.w∧SR F c' H'∧Le c c'∧VR c' y r∧(c.w.Extends c'.w∧K y H'):=by
 obtain⟨hT',he⟩:=cr hT
 obtain⟨i,hi⟩:=bx he
 have hsz:al P e=i.size:=by simp[al,hi]
 unfold kc at h
 split at h
 case h_2=>exact h.elim
 rename_i q m g hv
 split at h
 ·
  obtain⟨⟨hq,hfit⟩,hK⟩:=h
  obtain⟨B,cap,news,rfl,hmc,hn⟩:=fe hs he hx hv hq
  simp only[VR] at hsv
  subst hsv
  obtain⟨olds,ho⟩:=Rd.of (c:=c) (m:=0) (g:=fun _=>[]) (A:=none) he (fun i hi=>by omega)
  obtain⟨c',r,k1,k2,k3,k4,k5⟩:=sq (P:=P) (ty:=ty) (cap:=cap) hT hz hb hs ho hn (.inl rfl) (by rw[Nat.zero_add];exact hfit) (nl:=some true) (fun b hb=>by cases hb;simp) (fun _=>rfl)
  rw[vw,Nat.zero_add] at k2
  rw[Nat.zero_add] at k4
  exact⟨c',_,r,_,k1,k2,k3,k4,k5,by rw[bt,ex] at hK;exact hK⟩
 ·rename_i nl b e' n f
  cases hbb:Nat.beq (al P e) e' with
  | false=>rw[hbb] at h;exact h.elim
  | true =>
    rw[hbb] at h
    obtain rfl:=be hbb
    obtain⟨⟨hq,rfl,hnm,hfit⟩,hK⟩:=h
    obtain⟨B,cap,news,rfl,hmc,hn⟩:=fe hs he hx hv hq
    have hself:view (al P e) H (.lst nl (.cut true) (al P e) n f)=some (True,n,f):=by simp[view]
    obtain⟨A,scap,olds,hu,hsc,ho⟩:=fe hs he hsv hself trivial
    subst hu
    simp only[VR] at hsv
    obtain⟨A',cap',e1,e2,e3,e4,e5,_⟩:=hsv
    simp only[Value.slice.injEq] at e1
    obtain⟨rfl,-,rfl⟩:=e1
    obtain rfl:scap=n:=e3 trivial
    obtain⟨c',r,k1,k2,k3,k4,k5⟩:=sq (P:=P) (ty:=ty) (cap:=cap) hT hz hb hs ho hn hnm hfit e4 (fun h=>e5 h)
    exact⟨c',_,r,_,k1,k2,k3,k4,k5,by rw[bt,ex] at hK;exact hK⟩
 ·rename_i nl r e' off n b
  split at h
  ·rename_i q' n'' f hself
   obtain⟨⟨hq,hq',rfl,hnm,hfit⟩,hK⟩:=h
   have hn':n''=n:=by
    unfold view at hself
    dsimp only at hself
    split at hself
    ·rename_i e'' m' f' hb'
     cases hbb:band (Nat.beq (al P e) e') (Nat.beq (al P e) e'') with
     | false=>rw[hbb] at hself;cases hself
     | true=>rw[hbb] at hself;simp only[cond,Option.some.injEq,Prod.mk.injEq] at hself;exact hself.2.1.symm
    ·cases hself
   subst hn'
   obtain⟨B,cap,news,rfl,hmc,hn⟩:=fe hs he hx hv hq
   obtain⟨A,scap,olds,hu,hsc,ho⟩:=fe hs he hsv hself hq'
   subst hu
   simp only[VR] at hsv
   obtain⟨A',cap',e1,e2,e3,e4,e5⟩:=hsv
   simp only[Value.slice.injEq] at e1
   obtain⟨rfl,-,rfl⟩:=e1
   obtain rfl:scap=n'':=e3 trivial
   obtain⟨c',r',k1,k2,k3,k4,k5⟩:=sq (P:=P) (ty:=ty) (cap:=cap) hT hz hb hs ho hn hnm hfit e4 (fun hA=>by
    subst hA
    split at e5
    ·obtain⟨_,e6⟩:=e5
     rcases Nat.eq_zero_or_pos scap with h0|h0
     ·exact h0
     ·have:=e6 h0;cases this
    ·exact e5
    ·exact e5.elim)
   exact⟨c',_,r',_,k1,k2,k3,k4,k5,by rw[bt,ex] at hK;exact hK⟩
  ·exact h.elim
 ·cases hst
 ·cases hst
 ·exact h.elim
theorem wc (hs:SR F c H) {T e n:Nat} (hT:da P T=some e) {parts:List (Nat × V)} {vals:Array (Nat × Value)} (hp:PR c parts vals.toList) {K:V→Heap→Prop}
  (h:ct (al P e) (cq P e) n parts H K):∃ c' H' r y,(Instr.buildSlice T n vals).run P c.w = .ok r c'.w∧SR F c' H'∧Le c c'∧VR c' y r∧(c.w.Extends c'.w∧K y H'):=by
 obtain⟨c',H',r,y,k1,k2,k3,k4,k5⟩:=gd hs hT hp h
 have h2:ct (al P e) (cq P e) n parts (H.map fun _=>.dead) fun _ _=>True:=by
  unfold ct at h ⊢
  split at h
  ·split at h
   ·rename_i cs hcs
    simp only[hcs]
    cases hb:Nat.ble (n*al P e) 16777216 with
    | false=>rw[hb] at h;exact h.elim
    | true=>trivial
   ·exact h.elim
  ·exact h.elim
 obtain⟨c2,H2,r2,y2,g1,g2,_⟩:=gd hs.deadAll hT hp h2
 refine⟨c',H',r,y,k1,k2,k3,k4, ?_,k5⟩
 rw[k1] at g1
 simp only[Result.ok.injEq] at g1
 rw[g1.2]
 exact ko g2.fr
end
end Go.VM
end
section
namespace Go.VM
inductive Plan where
 | done
 | first (i:Nat) (s:Plan)
 | one (i:Nat) (s:Plan)
 | alt (i:Nat) (s:Plan) (t:Plan)
def gpd (ops:List Oper) (E:Env) (g:Option (Nat × Bool)):Option Path :=
 match g with
 | none=>some []
 | some (i,b)=>(match onth ops i with
   | some o=>(match o.dst with
     | some t=>(match get E t with
       | (s+1,q,.bool x)=>some (padd q (s,b,x))
       | _=>none)
     | none=>none)
   | none=>none)
def xe (P:Program) (k:Nat) (o:Oper) (p:Path) (E:Env) (H:Heap) (K:Env→Heap→Prop):Prop :=
 match o.op with
 | .alloc T=>(match p,cq P T with
   | [],some z=>K (put E o.dst (k+1) p (.ptr (hlen H) 0)) (hadd H (.box z))
   | _,_=>False)
 | .box T x=>(match p,boxV (ti P T) (ev E p x) with
   | [],some cs=>K (put E o.dst (k+1) p (.ptr (hlen H) 0)) (hadd H (.box cs))
   | _,_=>False)
 | .buildSlice T n parts=>(match p,da P T with
   | [],some e=>ct (al P e) (cq P e) n (evp E p parts.toList) H fun v H=>K (put E o.dst (k+1) p v) H
   | _,_=>False)
 | .call c=>(match c.callee with
   | .builtin .append=>(match c.argTypes.toList,evs E p c.args.toList,p with
     | [t,u],[s,x],[]=>bif band (zew s) (Nat.beq t u) then (match da P t with
       | some e=>(match cq P e with
         | some _=>bif Nat.beq (co P e) 0 then False else kc (al P e) (co P e) H s x fun v H=>K (put E o.dst (k+1) p v) H
         | none=>False)
       | none=>False) else False
     | _,_,_=>False)
   | .value f=>(match ev E p f with
     | .fn g first caps=>(match p with
       | []=>cwE P g (app first (app (evs E p c.args.toList) caps)) H (kp K E o.dst k [])
       | y::q=>cgE P g (app first (app (evs E (y::q) c.args.toList) caps)) H (y::q) (kq K E o.dst k (y::q) H))
     | _=>False)
   | _=>False)
 | _=>False
def mem (i:Nat):List Nat→Bool
 | []=>false
 | j::l=>bor (Nat.beq i j) (mem i l)
where bor:Bool→Bool→Bool
 | true,_=>true
 | false,b=>b
def xd (P:Program) (ops:List Oper) (late:List Nat):Plan→Nat→(Env→Heap→Prop)→Env→Heap→Prop
 | .done,_,K,E,H=>K E H
 | .first i s,k,K,E,H=>(match onth ops i with
   | some o=>(match gpd ops E o.guard with
     | some p=>xo P k o p E H (xd P ops late s (k+1) K)
     | none=>False)
   | none=>False)
 | .one i s,k,K,E,H=>(match onth ops i with
   | some o=>(match gpd ops E o.guard with
     | some p=>(match mem i late with
       | true=>xo P k o p E H (xd P ops late s (k+1) K)
       | false=>xe P k o p E H (xd P ops late s (k+1) K))
     | none=>False)
   | none=>False)
 | .alt i s t,k,K,E,H=>(match onth ops i with
   | some o=>(match gpd ops E o.guard with
     | some p=>(match mem i late with
       | true=>xo P k o p E H (xd P ops late s (k+1) K)
       | false=>xe P k o p E H (xd P ops late s (k+1) K))
     | none=>False)
   | none=>False)∧xd P ops late t k K E H
def Plan.isFirst:Plan→Bool
 | .first _ _=>true
 | _=>false
def z3t (o:Oper):Bool :=
 match o.op with
 | .move _ | .assign _ | .extract _ _=>true
 | _=>false
theorem zdy {P:Program} {o:Oper} {a:Act} {u:Value} {w:World} (h:z3t o=true) (hr:(execOp a.eval o).run P w = .ok (.value u) w) (w':World):(execOp a.eval o).run P w' = .ok (.value u) w':=by
 unfold z3t at h
 split at h
 ·rename_i x ho
  simp[execOp,ho] at hr ⊢;exact hr
 ·rename_i x ho
  simp[execOp,ho] at hr ⊢;exact hr
 ·rename_i x i ho
  simp only[execOp,ho] at hr ⊢
  generalize a.eval x=v at hr ⊢
  unfold Instr.extract at hr ⊢
  cases v with
  | tuple vs =>
    dsimp only at hr ⊢
    cases hv:vs[i]? with
    | none=>rw[hv] at hr;simp at hr
    | some y=>rw[hv] at hr;simpa using hr
  | _=>simp at hr
 ·cases h
def fv (md:Region.Mode) (ops:Array Oper) (late:List Nat):Plan→List Nat→Nat→Array Bool→Bool
 | .done,rs,_,L=>rs.isEmpty && (Region.ready md ops L).isEmpty
 | .first i s,rs,n+1,L=>(match ops[i]? with
   | some o=>fl o && Region.free md ops L i && (Region.ready md ops L).contains i && ((late.all fun j=>L.getD j false || anc md ops ops.size i j) || (z3t o && !mem i late)) && rs == Region.ready md ops L &&
     fv md ops late s (Region.ready md ops (L.setIfInBounds i true)) n (L.setIfInBounds i true)
   | none=>false)
 | .one i s,rs,n+1,L=>rs == [i] && fv md ops late s (Region.ready md ops (L.setIfInBounds i true)) n (L.setIfInBounds i true)
 | .alt i s t,rs,n+1,L=>(match rs with
   | j::k::rs=>i == j && fv md ops late s (Region.ready md ops (L.setIfInBounds i true)) n (L.setIfInBounds i true) && (!Plan.isFirst t && fv md ops late t (k::rs) (n+1) L)
   | _=>false)
 | _,_,0,_=>false
section
variable {P:Program} {F:Fr} {c:Ctx} {E:Env} {H:Heap} {a:Act} {X:Nat→Bool} {k:Nat} {p:Path} {o:Oper} {K:Env→Heap→Prop} {Q:Exit→Act→World→Prop}
theorem wz {ops:List Oper} (hE:ER c E a) (hK:KI X k E) {g:Option (Nat × Bool)} (hg:o.guard=g) (h:gpd ops E g=some p):KP X k p∧(Region.wanted o (yielded ops.toArray a.tmps)=true↔pc p):=by
 cases g with
 | none =>
   simp only[gpd,Option.some.injEq] at h
   subst h
   exact⟨fun i b x h=>by simp at h,by simp[Region.wanted,hg,pc]⟩
 | some ib =>
   obtain⟨i,b⟩:=ib
   simp only[gpd] at h
   split at h
   ·rename_i oi hoi
    split at h
    ·rename_i t ht
     split at h
     ·rename_i s q x hget
      simp only[Option.some.injEq] at h
      subst h
      have h1:=hE t
      have h2:=hK t
      rw[hget] at h1 h2
      dsimp only at h1 h2
      obtain⟨h3,h4⟩:=h2.2 s rfl
      rw[zgd]
      refine⟨fun i' b' x' hm=>?_, ?_⟩
      ·rcases List.mem_append.1 hm with hm|hm
       ·exact h2.1 i' b' x' hm
       ·simp only[List.mem_singleton,Prod.mk.injEq] at hm
        obtain⟨rfl,rfl,rfl⟩:=hm
        exact⟨h4 _ rfl,h3⟩
      ·have hpc:pc (q++[(s,b,x)])↔pc q∧x=b:=by
        rw[yn,yn]
        constructor
        ·intro h
         exact⟨fun i' b' x' hm=>h i' b' x' (List.mem_append.2 (.inl hm)),h s b x (by simp)⟩
        ·rintro⟨h5,h6⟩ i' b' x' hm
         rcases List.mem_append.1 hm with hm|hm
         ·exact h5 i' b' x' hm
         ·simp only[List.mem_singleton,Prod.mk.injEq] at hm
          obtain⟨rfl,rfl,rfl⟩:=hm
          exact h6
       rw[hpc]
       have hoi':ops.toArray[i]? = some oi:=by rw[List.getElem?_toArray,← ga];exact hoi
       have hy:yielded ops.toArray a.tmps i=match a.tmps[t]? with|some (.bool b)=>some b|_=>none:=by
        unfold yielded
        rw[hoi']
        show (match (oi.dst).bind (a.tmps[·]?) with|some (.bool b)=>some b|_=>none)=_
        rw[ht]
        rfl
       have hw:Region.wanted o (yielded ops.toArray a.tmps)=(yielded ops.toArray a.tmps i == some b):=by simp[Region.wanted,hg]
       rw[hw,hy]
       by_cases hq:pc q
       ·have:=h1.1 hq
        simp only[VR] at this
        have ht2:a.tmps[t]? = some (.bool x):=by
         rw[km,Array.getD_eq_getD_getElem?] at this
         cases hh:a.tmps[t]? with
         | none=>rw[hh] at this;cases this
         | some v=>rw[hh] at this;simp at this;rw[this]
        simp[ht2,hq]
       ·have:=h1.2 hq
        have ht2:∀ y,a.tmps[t]?≠some (.bool y):=by
         intro y hy'
         rw[km,Array.getD_eq_getD_getElem?,hy'] at this
         cases this
        constructor
        ·intro hh
         exfalso
         split at hh
         ·rename_i y hy';exact ht2 y hy'
         ·cases hh
        ·rintro⟨h5,_⟩;exact absurd h5 hq
     ·cases h
    ·cases h
   ·cases h
def OpOkE (P:Program) (F:Fr) (Q:Exit→Act→World→Prop) (o:Oper) (k:Nat) (p:Path) (a:Act) (c:Ctx) (K:Env→Heap→Prop):Prop :=
 (pc p→o.wp P a c.w (fun a' w'=>c.w.Extends w'∧Nx F (k+1) K a' w') Q)∧(¬ pc p→Nx F (k+1) K (a.put o.dst undef) c.w)
theorem zat (gt:GF P F) (hs:St F c E H a X k) (hd:∀ x,o.dst=some x→x<F.nt) (hp:KP X k p) (h:xe P k o p E H K):OpOkE P F Q o k p a c K:=by
 unfold xe at h
 have hev:=fun hpc x=>pf hs.er hs.ki hp hpc x (a:=a)
 split at h
 ·rename_i T ho
  split at h
  ·rename_i z hz
   obtain⟨c',k1,k2,k3,k4⟩:=zab (P:=P) hs.sr hz
   obtain⟨c2,g1,g2,_,_⟩:=zab (P:=P) hs.sr.deadAll hz
   rw[bt,ex] at h
   rw[k1] at g1
   simp only[Result.ok.injEq] at g1
   exact⟨fun _=>lg (s:=Instr.alloc T true (.tuple #[])) (by simp[execOp,ho]) k1 ⟨by rw[g1.2];exact ko g2.fr,gv hs hd k2 k3 k4 h⟩,fun hn=>absurd trivial hn⟩
  ·exact h.elim
 ·rename_i T x ho
  split at h
  ·rename_i cs hb
   obtain⟨c',k1,k2,k3,k4⟩:=zpo (P:=P) hs.sr (hev trivial x) hb
   obtain⟨c2,g1,g2,_,_⟩:=zpo (P:=P) hs.sr.deadAll (hev trivial x) hb
   rw[bt,ex] at h
   rw[k1] at g1
   simp only[Result.ok.injEq] at g1
   exact⟨fun _=>lg (s:=Instr.box T (a.eval x)) (by simp[execOp,ho]) k1 ⟨by rw[g1.2];exact ko g2.fr,gv hs hd k2 k3 k4 h⟩,fun hn=>absurd trivial hn⟩
  ·exact h.elim
 ·rename_i T n parts ho
  split at h
  ·rename_i e hT
   obtain⟨c',H',r,y,k1,k2,k3,k4,k5,k6⟩:=wc (P:=P) hs.sr hT (n:=n) (vals:=parts.map fun (i,x)=>(i,a.eval x)) (by rw[Array.toList_map];exact yv hs hp trivial _) h
   exact⟨fun _=>lg (s:=Instr.buildSlice T n (parts.map fun (i,x)=>(i,a.eval x))) (by simp[execOp,ho]) k1 ⟨k5,gv hs hd k2 k3 k4 k6⟩,fun hn=>absurd trivial hn⟩
  ·exact h.elim
 ·rename_i cl ho
  split at h
  ·rename_i hb
   split at h
   ·rename_i t t' x1 x2 hts hxs
    obtain⟨y1,y2,hy,rfl,rfl⟩:=pw hxs
    cases hbb:band (zew (ev E [] y1)) (Nat.beq t t') with
    | false=>rw[hbb] at h;exact h.elim
    | true =>
      rw[hbb] at h
      obtain⟨hst,hbt⟩:=ax hbb
      obtain rfl:=be hbt
      dsimp only [cond] at h
      split at h
      ·rename_i e hT
       split at h
       ·rename_i z hz
        cases hb0:Nat.beq (co P e) 0 with
        | true=>rw[hb0] at h;exact h.elim
        | false =>
          rw[hb0] at h
          dsimp only [cond] at h
          have hb1:co P e≠0:=by intro h0;rw[h0] at hb0;simp at hb0
          obtain⟨c',H',r,y,k1,k2,k3,k4,k5,k6⟩:=zfq (P:=P) (ty:=o.type) hT hz hb1 hs.sr (hev trivial y1) (hev trivial y2) hst h
          have ea:cl.args = #[y1,y2]:=by apply Array.ext';simpa using hy
          have et:cl.argTypes = #[t,t]:=by apply Array.ext';simpa using hts
          refine⟨fun _=>?_,fun hn=>absurd trivial hn⟩
          have hrun:(execOp a.eval o).run P c.w = .ok (.value r) c'.w:=by
           simp[execOp,ho,resolve,hb,invoke,builtin,ea,et,k1]
          simp only[Oper.wp,hrun,Oper.upon]
          exact⟨k5,gv hs hd k2 k3 k4 k6⟩
       ·exact h.elim
      ·exact h.elim
   ·exact h.elim
  ·rename_i f hf
   split at h
   ·rename_i g first caps hv
    have call:∀ {KK:V→Heap→Prop} {n:Act→World→Prop},pc p→cwE P g (app first (app (evs E p cl.args.toList) caps)) H KK →
      (∀ c' H' v u,SR F c' H'→Le c c'→VR c' v u→c.w.Extends c'.w→KK v H'→n (a.put o.dst u) c'.w)→o.wp P a c.w n Q:=by
     intro KK n hpc hc hn
     have hx:=hev hpc f
     rw[hv] at hx
     simp only[VR] at hx
     obtain⟨us,ws,e1,e2,e3,e4,e5⟩:=hx
     have hargs:=zif hs.er hs.ki hp hpc cl.args
     have hlen:(cl.args.map a.eval).size=(evs E p cl.args.toList).length:=by rw[xk];simp
     have hrun:(execOp a.eval o).run P c.w = .ok (.enter g (us++cl.args.map a.eval++ws)) c.w:=by
      simp only[execOp,ho,resolve,hf,e1,Deferred.ofValue,Sem.run_bind,Sem.run_pure,Result.andThen_ok,invoke]
      exact qz hc.1 _ _
     simp only[Oper.wp,hrun,Oper.upon]
     rw[yw,yw] at hc
     refine Calls.mono (hc.2 F c gt hs.sr (us++cl.args.map a.eval++ws) ?_ ?_) ?_
     ·simp[e2,e3,hlen,Nat.add_assoc]
     ·rw[Array.append_assoc]
      exact pm e2 e4 (pm hlen hargs e5)
     ·rintro e w' ⟨c',u,v,H',rfl,rfl,k1,k2,k3,k4,k5⟩
      exact hn c' H' v u k2 k1 k3 k4 k5
    split at h
    ·exact⟨fun _=>call trivial h fun c' H' v u k1 k2 k3 k4 k5=>⟨k4,gv hs hd k1 k2 k3 k5⟩,fun hn=>absurd trivial hn⟩
    ·rename_i y q
     obtain⟨v,hv1,hv2⟩:=h
     refine⟨fun hpc=>call hpc (hv1 hpc) fun c' H' v' u k1 k2 k3 k4 k5=>?_,fun hn=>ox hs hd hp (fun h=>absurd h hn) (fun _=>rfl) hv2⟩
     obtain⟨rfl,rfl⟩:=k5
     exact⟨k4,ox (c:=c') ⟨k1,fy k2 hs.er,hs.ki,hs.ao⟩ hd hp (fun _=>k3) (fun h=>absurd hpc h) hv2⟩
   ·exact h.elim
  ·exact h.elim
 ·exact h.elim
theorem mem_true {i:Nat} {l:List Nat}:mem i l=true↔i∈l:=by
 induction l with
 | nil=>simp[mem]
 | cons j l ih =>
   have hb:∀ a b,mem.bor a b=(a || b):=fun a b=>by cases a<;>rfl
   simp only[mem,hb,Bool.or_eq_true,ih,List.mem_cons]
   constructor
   ·rintro (h|h)
    ·exact .inl (be h)
    ·exact .inr h
   ·rintro (h|h)
    ·exact .inl (by rw[h];exact Nat.beq_refl _)
    ·exact .inr h
theorem zty (gt:GF P F) {ops:Array Oper} {late:List Nat} {KX:VM.X→Env→Heap→Prop} (hsel:Region.noSelect ops=true) (hnt:∀ o∈ops.toList,∀ x,o.dst=some x→x<F.nt) :
  ∀ (pl:Plan) (n:Nat) (L:Array Bool) (k:Nat) (c:Ctx) (E:Env) (H:Heap) (a:Act) (X:Nat→Bool),Closed .any ops L→St F c E H a X k→xd P ops.toList late pl k (KX .normal) E H →
   (fv .any ops late pl (Region.ready .any ops L) n L=true→fc P .any ops (df F KX) (fun i=>mem i late) n L a c.w) ∧
   (∀ rs m,n=m+1→rs≠[]→rs ⊆ Region.ready .any ops L→(∀ i s,pl≠.first i s)→fv .any ops late pl rs n L=true→∀ i∈rs,wpOp P ops (df F KX) i (fun a' w'=>(mem i late=false→c.w.Extends w')∧fc P .any ops (df F KX) (fun i=>mem i late) m (L.setIfInBounds i true) a' w') a c.w):=by
 have hto:ops.toList.toArray=ops:=by simp
 have step:∀ (s:Plan) (m:Nat) (L:Array Bool) (k:Nat) (c:Ctx) (E:Env) (H:Heap) (a:Act) (X:Nat→Bool) (i:Nat),
   (∀ (k:Nat) (c:Ctx) (E:Env) (H:Heap) (a:Act) (X:Nat→Bool),St F c E H a X k→xd P ops.toList late s k (KX .normal) E H→fc P .any ops (df F KX) (fun i=>mem i late) m (L.setIfInBounds i true) a c.w) →
   St F c E H a X k →
   (match onth ops.toList i with
   | some o=>(match gpd ops.toList E o.guard with
     | some p=>(match mem i late with
       | true=>xo P k o p E H (xd P ops.toList late s (k+1) (KX .normal))
       | false=>xe P k o p E H (xd P ops.toList late s (k+1) (KX .normal)))
     | none=>False)
   | none=>False) →
   wpOp P ops (df F KX) i (fun a' w'=>(mem i late=false→c.w.Extends w')∧fc P .any ops (df F KX) (fun i=>mem i late) m (L.setIfInBounds i true) a' w') a c.w:=by
  intro s m L k c E H a X i ih hs h
  split at h
  case h_2=>exact h.elim
  rename_i o ho
  split at h
  case h_2=>exact h.elim
  rename_i p hg
  have ho':ops[i]? = some o:=by rw[ga] at ho;simpa using ho
  have hmem:o∈ops.toList:=by
   rw[ga] at ho
   exact List.mem_of_getElem? ho
  obtain⟨hp,hw⟩:=wz hs.er hs.ki rfl hg
  rw[hto] at hw
  have nx:∀ a' w',Nx F (k+1) ((xd P ops.toList late s (k+1) (KX .normal))) a' w'→fc P .any ops (df F KX) (fun i=>mem i late) m (L.setIfInBounds i true) a' w':=by
   rintro a' w' ⟨c',E',H',X',rfl,hs',hk⟩
   exact ih (k+1) c' E' H' a' X' hs' hk
  unfold wpOp
  simp only[ho']
  split at h
  ·rename_i hl
   have hok:=nk (Q:=df F KX) gt hs (hnt o hmem) hp h
   by_cases hpc:pc p
   ·rw[if_pos (hw.2 hpc)]
    exact .inl (Oper.wp_mono (fun a w h=>⟨fun h'=>(by rw[hl] at h';cases h'),nx a w h⟩) (hok.1 hpc))
   ·rw[if_neg (fun h=>hpc (hw.1 h))]
    exact⟨fun _=>.refl _,nx _ _ (hok.2 hpc)⟩
  ·have hok:=zat (Q:=df F KX) gt hs (hnt o hmem) hp h
   by_cases hpc:pc p
   ·rw[if_pos (hw.2 hpc)]
    exact .inl (Oper.wp_mono (fun a w h=>⟨fun _=>h.1,nx a w h.2⟩) (hok.1 hpc))
   ·rw[if_neg (fun h=>hpc (hw.1 h))]
    exact⟨fun _=>.refl _,nx _ _ (hok.2 hpc)⟩
 intro pl
 induction pl with
 | done =>
   intro n L k c E H a X hcl hs h
   refine⟨fun hB=>?_,fun rs m hn hne hsub _ hB=>?_⟩
   ·simp only[fv,Bool.and_eq_true,List.isEmpty_iff] at hB
    exact uz hB.2 ⟨c,E,H,rfl,hs.sr,hs.er,hs.ao,h⟩ n
   ·simp only[fv,Bool.and_eq_true,List.isEmpty_iff] at hB
    exact absurd hB.1 hne
 | first i s ih =>
   intro n L k c E H a X hcl hs h
   refine⟨fun hB=>?_,fun rs m hn hne hsub hnf hB=>absurd rfl (hnf i s)⟩
   cases n with
   | zero=>simp[fv] at hB
   | succ n =>
     simp only[fv] at hB
     split at hB
     case h_2=>cases hB
     rename_i o ho
     simp only[Bool.and_eq_true,List.all_eq_true,Bool.or_eq_true,List.contains_iff_mem,Bool.not_eq_true'] at hB
     obtain⟨⟨⟨⟨⟨b1,b2⟩,b3⟩,b4⟩,b5⟩,b6⟩:=hB
     simp only[xd] at h
     split at h
     case h_2=>exact h.elim
     rename_i o' ho'
     have:ops[i]? = some o':=by rw[ga] at ho';simpa using ho'
     obtain rfl:o=o':=Option.some.inj (ho.symm.trans this)
     split at h
     case h_2=>exact h.elim
     rename_i p hg
     have hmem:o∈ops.toList:=by
      rw[ga] at ho'
      exact List.mem_of_getElem? ho'
     obtain⟨hp,hw⟩:=wz hs.er hs.ki rfl hg
     rw[hto] at hw
     obtain⟨v,hK,hv⟩:=zap hs hp b1 h
     have hr:i∈Region.ready .any ops L:=b3
     have go:∀ u:Value,YieldsIf P ops c.w.Extends o u a→Nx F (k+1) ((xd P ops.toList late s (k+1) (KX .normal))) (a.put o.dst u) c.w→fc P .any ops (df F KX) (fun i=>mem i late) (n+1) L a c.w:=by
      rintro u hy ⟨c',E',H',X',e0,hs',hk⟩
      have:=(ih n (L.setIfInBounds i true) (k+1) c' E' H' (a.put o.dst u) X' (hcl.set hr) hs' hk).1 b6
      rw[e0] at this
      rcases b4 with b4|b4
      ·exact tl (N:=ops.size) ho (Region.noSelect_spec hsel) (fun _ _ _ h=>h.elim) n L a c.w hcl (Region.free_spec ho b2) (fun j hj=>b4 j (mem_true.1 hj)) hr hy this
      ·refine rg ho (Region.noSelect_spec hsel) (fun _ _ _ h=>h.elim) n L a c.w hcl (Region.free_spec ho b2) b4.2 hr ?_ this
       rcases hy with ⟨g1,g2⟩|g
       ·exact .inl ⟨g1,fun w' _=>zdy b4.1 (g2 c.w (.refl _)) w'⟩
       ·exact .inr g
     by_cases hpc:pc p
     ·obtain⟨u,hu,hvu⟩:=hv hpc
      exact go u (.inl ⟨hw.2 hpc,hu⟩) (ox hs (hnt o hmem) hp (fun _=>hvu) (fun h=>absurd hpc h) hK)
     ·exact go undef (.inr ⟨by simpa using fun h=>hpc (hw.1 h),rfl⟩) (ox hs (hnt o hmem) hp (fun h=>absurd h hpc) (fun _=>rfl) hK)
 | one i s ih =>
   intro n L k c E H a X hcl hs h
   have key:∀ rs m,n=m+1→rs ⊆ Region.ready .any ops L→fv .any ops late (.one i s) rs n L=true→∀ j∈rs,wpOp P ops (df F KX) j (fun a' w'=>(mem j late=false→c.w.Extends w')∧fc P .any ops (df F KX) (fun i=>mem i late) m (L.setIfInBounds j true) a' w') a c.w:=by
    rintro rs m rfl hsub hB j hj
    simp only[fv,Bool.and_eq_true,beq_iff_eq] at hB
    obtain⟨rfl,b2⟩:=hB
    obtain rfl:j=i:=by simpa using hj
    exact step s m L k c E H a X j (fun k' c' E' H' a' X' hs' hk=>(ih m _ k' c' E' H' a' X' (hcl.set (hsub hj)) hs' hk).1 b2) hs h
   refine⟨fun hB=>?_,fun rs m hn hne hsub _ hB=>key rs m hn hsub hB⟩
   cases n with
   | zero=>simp[fv] at hB
   | succ n =>
     have hne:Region.ready .any ops L≠[]:=by
      intro h0
      rw[h0] at hB
      simp[fv] at hB
     exact pn rfl hne (key _ n rfl (fun _ h=>h) hB)
 | alt i s t ihs iht =>
   intro n L k c E H a X hcl hs h
   have key:∀ rs m,n=m+1→rs ⊆ Region.ready .any ops L→fv .any ops late (.alt i s t) rs n L=true→∀ j∈rs,wpOp P ops (df F KX) j (fun a' w'=>(mem j late=false→c.w.Extends w')∧fc P .any ops (df F KX) (fun i=>mem i late) m (L.setIfInBounds j true) a' w') a c.w:=by
    rintro rs m rfl hsub hB j hj
    simp only[fv] at hB
    split at hB
    case h_2=>cases hB
    rename_i j1 j2 rs
    simp only[Bool.and_eq_true,beq_iff_eq] at hB
    obtain⟨⟨rfl,b2⟩,b3⟩:=hB
    rcases List.mem_cons.1 hj with rfl|hj
    ·exact step s m L k c E H a X j (fun k' c' E' H' a' X' hs' hk=>(ihs m _ k' c' E' H' a' X' (hcl.set (hsub (.head _))) hs' hk).1 b2) hs h.1
    ·exact (iht (m+1) L k c E H a X hcl hs h.2).2 _ m rfl (by simp) (fun x hx=>hsub (.tail _ hx)) (fun i s h=>by subst h;simp[Plan.isFirst] at b3) b3.2 j hj
   refine⟨fun hB=>?_,fun rs m hn hne hsub _ hB=>key rs m hn hsub hB⟩
   cases n with
   | zero=>simp[fv] at hB
   | succ n =>
     have hne:Region.ready .any ops L≠[]:=by
      intro h0
      rw[h0] at hB
      simp[fv] at hB
     exact pn rfl hne (key _ n rfl (fun _ h=>h) hB)
theorem bc {n id:Nat} {ops:Array Oper} {E:Env} {H:Heap} {K:VM.X→Env→Heap→Prop} (hm:P.follows .mixedOrders=true) (late:List Nat) (pl:Plan)
  (hB:(Region.noSelect ops && fv .any ops late pl (Region.ready .any ops (Array.replicate ops.size false)) ops.size (Array.replicate ops.size false))=true)
  (h:xd P ops.toList late pl 0 (K .normal) (gl E) H):cx P n (.region id ops true) E H K:=by
 intro F c a hn hs he ha hok
 simp only[Bool.and_eq_true] at hB
 obtain⟨hs',hle⟩:=hs.drew
 have hcl:Closed .any ops (Array.replicate ops.size false):=⟨by simp,fun j oj hj hl=>by
  have:(Array.replicate ops.size false).getD j false=false:=by
   rcases Nat.lt_or_ge j ops.size with h|h
   ·simp[h]
   ·simp[h]
  rw[this] at hl
  cases hl⟩
 have:=(zty (F:=F) (KX:=K) hn.gt hB.1 (mr hok) pl ops.size (Array.replicate ops.size false) 0 { c with w:=c.w.drew } (gl E) H a _ hcl ⟨hs',lh (fy hle he),lc E,ha⟩ h).1 hB.2
 exact wpIn_mono (oz hm og (pd hok) (se _ _ _ _ this)) fun _ _ _=>ou
def fgE:Env→Env→Prop
 | [],_=>True
 | e::r,E=>evt E [] e.t=e.v∧e.p=[]∧fgE r E
def fgH:Heap→Heap→Prop
 | [],H=>H=[]
 | _::_,[]=>False
 | b::r,b'::H=>(b = .dead∨b=b')∧fgH r H
theorem znb {H' H:Heap} (h:fgH H' H):H'.length=H.length∧∀ (r:Nat) x,H'[r]? = some x→x = .dead∨H[r]? = some x:=by
 induction H' generalizing H with
 | nil=>simp only[fgH] at h;subst h;exact⟨rfl,fun r x h=>by simp at h⟩
 | cons b H' ih =>
   cases H with
   | nil=>exact h.elim
   | cons b' H =>
     obtain⟨h1,h2⟩:=h
     obtain⟨g1,g2⟩:=ih h2
     refine⟨by simp[g1],fun r x hr=>?_⟩
     cases r with
     | zero=>simp at hr;subst hr;rcases h1 with h1|h1
             ·exact .inl h1
             ·exact .inr (by simp[h1])
     | succ r=>simpa using g2 r x (by simpa using hr)
theorem SR.fg {F:Fr} {c:Ctx} {H H':Heap} (h:SR F c H) (hf:fgH H' H):SR F c H':=by
 obtain⟨g1,g2⟩:=znb hf
 refine⟨h.fr,h.le,by rw[h.len,g1],fun r b l hr hl=>?_,fun r r' x x' b m m' hr hr' hx hx' hl hl'=>?_,h.imm,h.old⟩
 ·rcases g2 r b hr with rfl|hr
  ·cases l with
   | none=>trivial
   | some l=>exact fun h=>h.elim
  ·exact h.blk r b l hr hl
 ·rcases g2 r x hr with rfl|hr
  ·exact hx.elim
  ·rcases g2 r' x' hr' with rfl|hr'
   ·exact hx'.elim
   ·exact h.inj r r' x x' b m m' hr hr' hx hx' hl hl'
end
end Go.VM
end
section
namespace Go.VM
theorem ar (c a:Bool):bsel c a false=(c && a):=by unfold bsel;cases c<;>rfl
theorem az (c a:Bool):bsel c true a=(c || a):=by unfold bsel;cases c<;>rfl
mutual
theorem zgz (g:List V→List V) (σ:List Nat) (H:Heap) (top:Bool):∀ v:V,flat v=true→frW top g σ H v=v
 | .bool _,_ | .int _ _,_ | .str _,_ | .nil,_=>by simp only[frW]
 | .agg cs,h=>by simp only[frW,wh g σ H top cs (by simpa [flat] using h)]
 | .tup cs,h=>by simp only[frW,wh g σ H top cs (by simpa [flat] using h)]
 | .bad,h | .lst _ _ _ _ _,h | .own _ _ _ _ _ _,h | .ptr _ _,h | .mp _,h | .eptr _ _ _ _,h | .iptr _ _,h | .fn _ _ _,h=>by simp[flat] at h
theorem wh (g:List V→List V) (σ:List Nat) (H:Heap) (top:Bool):∀ vs:List V,zac vs=true→frWs top g σ H vs=vs
 | [],_=>by simp only[frWs]
 | v::vs,h=>by
   simp only[zac] at h
   simp only[frWs,zgz g σ H top v (ax h).1,wh g σ H top vs (ax h).2]
end
mutual
theorem zhe (g:List V→Prop) (σ:List Nat) (H:Heap):∀ v:V,flat v=true→okW g σ H v
 | .bool _,_ | .int _ _,_ | .str _,_ | .nil,_=>by simp only[okW]
 | .agg cs,h=>by simp only[okW];exact wy g σ H cs (by simpa [flat] using h)
 | .tup cs,h=>by simp only[okW];exact wy g σ H cs (by simpa [flat] using h)
 | .bad,h | .lst _ _ _ _ _,h | .own _ _ _ _ _ _,h | .ptr _ _,h | .mp _,h | .eptr _ _ _ _,h | .iptr _ _,h | .fn _ _ _,h=>by simp[flat] at h
theorem wy (g:List V→Prop) (σ:List Nat) (H:Heap):∀ vs:List V,zac vs=true→okWs g σ H vs
 | [],_=>by simp only[okWs]
 | v::vs,h=>by
   simp only[zac] at h
   simp only[okWs]
   exact⟨zhe g σ H v (ax h).1,wy g σ H vs (ax h).2⟩
end
end Go.VM
namespace Go.VM
theorem zyc {x:Int} (h1 : -9223372036854775808≤x) (h2:x≤9223372036854775807):IntKind.i64.wrap x=x:=by
 simp only[IntKind.wrap,IntKind.signed,IntKind.bits]
 simp
 omega
end Go.VM
namespace Go.VM
theorem zjk {P:Program} {f:Nat} {args:List V} {v:V} {us0:Array Value} {u0:Value} (hname:aw P f=true) (hargs:∀ (c:Ctx) (us:Array Value),us.size=args.length→(VRs c args fun j=>us[j]?)→us=us0)
  (hv:∀ c,VR c v u0) (h:∀ w,Calls P f us0 w fun e w'=>e = .returned u0∧w'=w):Meets P f args v []:=by
 refine⟨hname,fun w I gt hI us hsz hus=>?_⟩
 rw[hargs _ us hsz hus]
 refine Calls.mono (h w) ?_
 rintro e w' ⟨rfl,rfl⟩
 exact⟨⟨w',I,[]⟩,u0,rfl,rfl,⟨⟨rfl,rfl,rfl,Nat.le_refl _,fun _ _ _=>rfl⟩,Le.refl _,rfl,fun r b l h=>by simp at h,fun r r' x x' b m m' h=>by simp at h,hI,fun b h=>.inl h⟩,hv _⟩
theorem args2 {c:Ctx} {us:Array Value} {a b:V} {x y:Value} (hsz:us.size=2) (h:VRs c [a,b] fun j=>us[j]?) (ha:∀ u,VR c a u→u=x) (hb:∀ u,VR c b u→u=y):us = #[x,y]:=by
 simp only[VRs] at h
 obtain⟨⟨u1,e1,h1⟩,⟨u2,e2,h2⟩,_⟩:=h
 rw[ha _ h1] at e1
 rw[hb _ h2] at e2
 apply Array.ext
 ·simpa using hsz
 ·intro i h1 h2
  have hi:i<2:=by omega
  match i,hi with
  | 0,_=>simpa [Array.getElem?_eq_some_iff,hsz] using e1
  | 1,_=>simpa [Array.getElem?_eq_some_iff,hsz] using e2
end Go.VM
end
section
namespace Go.VM
def andThen (P:Program) (n:Nat) (b:Code) (K:X→Env→Heap→Prop):X→Env→Heap→Prop
 | .normal,E,H=>cx P n b E H K
 | .exit i,E,H=>K (.exit i) E H
 | .ret,E,H=>K .ret E H
def zfc (id:Nat) (K:X→Env→Heap→Prop):X→Env→Heap→Prop
 | .normal,E,H=>K .normal E H
 | .exit i,E,H=>(match Nat.beq i id with|true=>K .normal E H|false=>K (.exit i) E H)
 | .ret,E,H=>K .ret E H
section
variable {P:Program} {n:Nat} {E:Env} {H:Heap} {K:X→Env→Heap→Prop}
theorem ab {a b:Code} (h:cx P n a E H (andThen P n b K)):cx P n (.seq a b) E H K:=by
 intro F c ac hn hs he ha hok
 simp only[okq,Bool.and_eq_true] at hok
 refine wpIn_seq (wpIn_mono (h F c ac hn hs he ha hok.1) fun e a' w' hq=>?_)
 obtain⟨F',fx,hq⟩:=hq
 cases e with
 | normal=>obtain⟨c',E',H',rfl,h1,h2,h3,h4⟩:=hq;exact cx.go h4 fx hn h1 h2 h3 hok.2
 | exit i=>obtain⟨c',E',H',rfl,h1,h2,h3,h4⟩:=hq;exact⟨F',fx,c',E',H',rfl,h1,h2,h3,h4⟩
 | ret=>obtain⟨c',E',H',rfl,h1,h2,h3,h4⟩:=hq;exact⟨F',fx,c',E',H',rfl,h1,h2,h3,h4⟩
 | goto l=>exact hq.elim
 | panic ch=>exact hq.elim
 | outgrown=>exact hq.elim
theorem aj {id:Nat} {ops:Array Oper} (h:xs P ops.toList 0 ops.toList (K .normal) (gl E) H):cx P n (.region id ops false) E H K :=
 up (by simp only[xc];exact h)
theorem aa {id:Nat} {ops:Array Oper} {b:Code} (h:xs P ops.toList 0 ops.toList (andThen P n b K .normal) (gl E) H):cx P n (.seq (.region id ops false) b) E H K :=
 ab (aj h)
theorem zzq {c:Operand} {t e:Code} (h:match ev (gl E) [] c with
  | .bool b=>(b=true→cx P n t E H K)∧(b=false→cx P n e E H K)
  | _=>False):cx P n (.cond c t e) E H K:=by
 intro F cc a hn hs he ha hok
 simp only[okq,Bool.and_eq_true] at hok
 split at h
 ·rename_i b hb
  have hv:=pf (lh he) (lc E) (p:=[]) (fun i b x h=>by simp at h) trivial c
  rw[hb] at hv
  simp only[VR] at hv
  cases b with
  | true=>exact wpIn_cond_true hv (h.1 rfl F cc a hn hs he ha hok.1)
  | false=>exact wpIn_cond_false hv (h.2 rfl F cc a hn hs he ha hok.2)
 ·exact h.elim
theorem ai {id:Nat} {b:Code} (h:cx P n b E H (zfc id K)):cx P n (.block id b) E H K:=by
 intro F c a hn hs he ha hok
 refine wpIn_block (wpIn_mono (h F c a hn hs he ha hok) fun e a' w' hq=>?_)
 obtain⟨F',fx,hq⟩:=hq
 cases e with
 | normal=>obtain⟨c',E',H',rfl,h1,h2,h3,h4⟩:=hq;exact⟨F',fx,c',E',H',rfl,h1,h2,h3,h4⟩
 | exit i =>
   obtain⟨c',E',H',rfl,h1,h2,h3,h4⟩:=hq
   simp only[zfc] at h4
   simp only[Exit.inBlock]
   by_cases hi:i=id
   ·subst hi
    rw[if_pos rfl]
    rw[Nat.beq_refl] at h4
    exact⟨F',fx,c',E',H',rfl,h1,h2,h3,h4⟩
   ·rw[if_neg hi]
    have hb:Nat.beq i id=false:=by
     cases hh:Nat.beq i id with
     | false=>rfl
     | true=>exact absurd (be hh) hi
    rw[hb] at h4
    exact⟨F',fx,c',E',H',rfl,h1,h2,h3,h4⟩
 | ret=>obtain⟨c',E',H',rfl,h1,h2,h3,h4⟩:=hq;exact⟨F',fx,c',E',H',rfl,h1,h2,h3,h4⟩
 | goto l=>exact hq.elim
 | panic ch=>exact hq.elim
 | outgrown=>exact hq.elim
theorem ag (h:K .normal E H):cx P n .skip E H K:=up (by simp only[xc];exact h)
theorem af (h:K .ret E H):cx P n .ret E H K:=up (by simp only[xc];exact h)
theorem bk {i:Nat} (h:K (.exit i) E H):cx P n (.exit i) E H K:=up (by simp only[xc];exact h)
def keep (ts:List Nat) (E:Env):Env :=
 match ts with
 | []=>[]
 | t::r=>⟨t,0,[],evt E [] t⟩::keep r E
theorem yf {b:Code}:andThen P n b K .normal E H=cx P n b E H K:=rfl
theorem zfa {b:Code}:andThen P n b K .ret E H=K .ret E H:=rfl
theorem zdw {b:Code} {i:Nat}:andThen P n b K (.exit i) E H=K (.exit i) E H:=rfl
end
end Go.VM
end
