import Derived.Test.YtmbnphmhaoomoaaGreatDoorAV4
set_option linter.unusedVariables false
set_option linter.unusedSimpArgs false
set_option maxHeartbeats 4000000
namespace Go.VM
def KB (S:Nat→Prop) (W W':World):Prop:=W'.os=W.os∧W'.tape=W.tape∧W'.output=W.output∧W.heap.size≤W'.heap.size∧∀ k,k<W.heap.size→¬ S k→W'.heap[k]? = W.heap[k]?
theorem KB.refl (S:Nat→Prop) (W:World):KB S W W:=⟨rfl,rfl,rfl,Nat.le_refl _,fun _ _ _=>rfl⟩
theorem KB.trans {S:Nat→Prop} {A B C:World} (h:KB S A B) (k:KB S B C):KB S A C :=
 ⟨k.1.trans h.1,k.2.1.trans h.2.1,k.2.2.1.trans h.2.2.1,Nat.le_trans h.2.2.2.1 k.2.2.2.1,fun i hi hS=>(k.2.2.2.2 i (Nat.lt_of_lt_of_le hi h.2.2.2.1) hS).trans (h.2.2.2.2 i hi hS)⟩
theorem KB.mono {S T:Nat→Prop} {A B:World} (hT:∀ k,S k→T k) (h:KB S A B):KB T A B:=⟨h.1,h.2.1,h.2.2.1,h.2.2.2.1,fun k hk hS=>h.2.2.2.2 k hk fun hh=>hS (hT k hh)⟩
theorem KB.put {l:Nat} (A:World) (o:Obj):KB (·=l) A (A.putObj l o):=⟨rfl,rfl,rfl,by simp[World.putObj],fun k _ hk=>World.putObj_heap_other hk⟩
def Iter {α:Type} (P:Program) (gf:Nat) (lb:Array Value) (S:Nat→Prop) (val:α→Value) (xs:List α) (W:World):Prop :=
 ∀ (l:Nat) (J Jx:List α→World→Prop) (W1:World),
  (∀ pre A B,J pre A→KB S A B→J pre B)→(∀ pre A B,Jx pre A→KB S A B→Jx pre B)→(∀ pre A,J pre A→GT P A) →
  (∀ pre x A,(pre++[x]) <+: xs→J pre A→YieldAt Fence.wide 0 P l #[val x] A fun e B =>
   (e = .returned (.bool true)∧J (pre++[x]) B∧∀ k,S k→B.heap[k]? = A.heap[k]?)∨(e = .returned (.bool false)∧Jx (pre++[x]) B)) →
  (∀ k,S k→W1.heap[k]? = W.heap[k]?)→J [] W1 →
  CallsIn Fence.wide 0 P gf (#[.func (.yield l) #[] #[]]++lb) W1 fun e B=>(∃ v,e = .returned v)∧(J xs B∨∃ pre,pre <+: xs∧Jx pre B)
def Clear (c:Ctx) (H:Heap) (S:Nat→Prop):Prop:=∀ k,S k→¬ c.I k∧∀ (r m:Nat) x,H[r]? = some x→Live x→c.locs[r]?≠some (some (k,m))
theorem SR.kb {F:Fr} {c:Ctx} {H:Heap} {S:Nat→Prop} {W:World} (hs:SR F c H) (hc:Clear c H S) (hw:∀ k,S k→Wr F k) (h:KB S c.w W):SR F { c with w:=W } H∧Le c { c with w:=W }:=by
 obtain⟨h1,h2,h3,h4,h5⟩:=h
 have hle:Le c { c with w:=W }:=⟨fun _ _ h=>h,fun _ h=>h,fun b hb=>h5 b (hs.imm b hb) fun hS=>(hc b hS).1 hb⟩
 refine⟨⟨⟨h1.trans hs.fr.os,h2.trans hs.fr.tape,h3.trans hs.fr.output,Nat.le_trans hs.fr.size h4,fun k hk hx=>?_⟩,hs.le.trans hle,hs.len,fun r b l hr hl=>?_,hs.inj,fun b hb=>Nat.lt_of_lt_of_le (hs.imm b hb) h4,hs.old⟩,hle⟩
 ·refine (h5 k (Nat.lt_of_lt_of_le hk hs.fr.size) fun hS=>?_).trans (hs.fr.block k hk hx)
  rcases hw k hS with g|g
  ·omega
  ·exact hx g
 ·cases l with
  | none=>exact hs.blk r b _ hr hl
  | some l =>
    obtain⟨bb,m⟩:=l
    intro hlive
    obtain⟨C,e1,e2,e3,e4⟩:=hs.blk r b _ hr hl hlive
    exact⟨C,(h5 bb (Array.getElem?_eq_some_iff.1 e1).1 fun hS=>(hc bb hS).2 r m b hr hlive hl).trans e1,e2.mono hle,e3,e4⟩
def Fr.sh (F:Fr) (c:Ctx) (ls:List (Option (Nat × Nat))) (S:Nat→Prop) (ro:Option Nat) (ds:List Deferred):Fr:=⟨⟨c.w,c.I,ls⟩,fun k=>Wr F k∧¬ S k,F.nt,ro,ds⟩
theorem SR.sh {F:Fr} {c:Ctx} {H:Heap} {S:Nat→Prop} {ls:List (Option (Nat × Nat))} {ro:Option Nat} {ds:List Deferred} (hs:SR F c H) (hl:∀ (r:Nat) (x:Option (Nat × Nat)),ls[r]? = some x→c.locs[r]? = some x)
  (hc:Clear c H S):SR (F.sh c ls S ro ds) c H :=
 ⟨⟨rfl,rfl,rfl,Nat.le_refl _,fun _ _ _=>rfl⟩,⟨hl,fun _ h=>h,fun _ _=>rfl⟩,hs.len,fun r b l hr hll=>by
  cases l with
  | none=>exact hs.blk r b _ hr hll
  | some l =>
    obtain⟨bb,m⟩:=l
    intro hlive
    obtain⟨C,e1,e2,e3,e4⟩:=hs.blk r b _ hr hll hlive
    exact⟨C,e1,e2,e3,.inr ⟨e4,fun hS=>(hc bb hS).2 r m b hr hlive hll⟩⟩,hs.inj,hs.imm,fun b h=>.inl h⟩
theorem SR.unsh {F:Fr} {c c':Ctx} {H H':Heap} {S:Nat→Prop} {ls:List (Option (Nat × Nat))} {ro:Option Nat} {ds:List Deferred} (hs:SR F c H)
  (hF:∀ (r:Nat) (x:Option (Nat × Nat)),F.c0.locs[r]? = some x→ls[r]? = some x) (h:SR (F.sh c ls S ro ds) c' H'):SR F c' H':=by
 have hw:∀ b,Wr (F.sh c ls S ro ds) b→Wr F b:=by
  rintro b (hb|hb)
  ·exact .inl (Nat.le_trans hs.fr.size hb)
  ·exact hb.1
 refine⟨⟨h.fr.os.trans hs.fr.os,h.fr.tape.trans hs.fr.tape,h.fr.output.trans hs.fr.output,Nat.le_trans hs.fr.size h.fr.size,fun k hk hx=>?_⟩,
  ⟨fun r x e=>h.le.locs r x (hF r x e),fun b hb=>h.le.I b (hs.le.I b hb),fun b hb=>(h.le.heap b (hs.le.I b hb)).trans (hs.le.heap b hb)⟩,h.len,fun r b l hr hl=>?_,h.inj,h.imm,fun b hb=>?_⟩
 ·refine (h.fr.block k (Nat.lt_of_lt_of_le hk hs.fr.size) fun hh=>?_).trans (hs.fr.block k hk hx)
  rcases hh.1 with h1|h1
  ·omega
  ·exact hx h1
 ·cases l with
  | none=>exact h.blk r b _ hr hl
  | some l =>
    obtain⟨bb,m⟩:=l
    intro hlive
    obtain⟨C,h1,h2,h3,h4⟩:=h.blk r b _ hr hl hlive
    exact⟨C,h1,h2,h3,hw _ h4⟩
 ·rcases h.old b hb with h1|h1
  ·exact hs.old b h1
  ·exact .inr (Nat.le_trans hs.fr.size h1)
theorem Clear.unsh {F:Fr} {c c':Ctx} {H H':Heap} {S:Nat→Prop} {ls:List (Option (Nat × Nat))} {ro:Option Nat} {ds:List Deferred} (hc:Clear c H S) (hsz:∀ k,S k→k<c.w.heap.size)
  (h:SR (F.sh c ls S ro ds) c' H'):Clear c' H' S∧∀ k,S k→c'.w.heap[k]? = c.w.heap[k]?:=by
 refine⟨fun k hS=>⟨fun hI=>?_,fun r m x hr hlive hl=>?_⟩,fun k hS=>h.fr.block k (hsz k hS) fun hh=>hh.2 hS⟩
 ·have hlt:=hsz k hS
  rcases h.old k hI with h1|h1
  ·exact (hc k hS).1 h1
  ·exact absurd hlt (Nat.not_lt.2 h1)
 ·have hlt:=hsz k hS
  obtain⟨C,h1,h2,h3,h4⟩:=h.blk r x _ hr hl hlive
  rcases h4 with h4|h4
  ·exact absurd hlt (Nat.not_lt.2 h4)
  ·exact h4.2 hS
def JJ (F:Fr) (c1:Ctx) (S:Nat→Prop) (l D:Nat) (H:Heap) (r:Loop) (A:World):Prop :=
 ∃ c,c.w=A∧SR F c H∧Le c1 c∧Clear c H (fun k=>S k∨k=D∨k=l)∧(∀ k,(S k∨k=D∨k=l)→k<A.heap.size)∧A.heap[l]? = some (.loop r)∧A.heap[D]? = some (.deferred (some []))
section
variable {F:Fr} {c1:Ctx} {S:Nat→Prop} {l D:Nat} {H:Heap} {r:Loop} {A B:World}
theorem JJ.kb (h:JJ F c1 S l D H r A) (hw:∀ k,S k→Wr F k) (hD:¬ S D) (hl:¬ S l) (hk:KB S A B):JJ F c1 S l D H r B:=by
 obtain⟨c,rfl,h1,h2,h3,h4,h5,h6⟩:=h
 obtain⟨g1,g2⟩:=h1.kb (fun k hS=>h3 k (.inl hS)) hw hk
 exact⟨{ c with w:=B },rfl,g1,h2.trans g2,h3,fun k hS=>Nat.lt_of_lt_of_le (h4 k hS) hk.2.2.2.1,(hk.2.2.2.2 l (h4 l (.inr (.inr rfl))) hl).trans h5,(hk.2.2.2.2 D (h4 D (.inr (.inl rfl))) hD).trans h6⟩
theorem JJ.turn (h:JJ F c1 S l D H r A) (hw:Wr F l) (hD:D≠l) (r':Loop):JJ F c1 S l D H r' (A.putObj l (.loop r')):=by
 obtain⟨c,rfl,h1,h2,h3,h4,h5,h6⟩:=h
 have hk:=KB.put (l:=l) c.w (.loop r')
 obtain⟨g1,g2⟩:=h1.kb (S:=(·=l)) (fun k hS=>h3 k (.inr (.inr hS))) (fun k e=>by rw[show k=l from e];exact hw) hk
 exact⟨{ c with w:=_ },rfl,g1,h2.trans g2,h3,fun k hS=>Nat.lt_of_lt_of_le (h4 k hS) hk.2.2.2.1,World.putObj_heap_same (h4 l (.inr (.inr rfl))),(World.putObj_heap_other hD).trans h6⟩
end
def rndF (n:Nat) (q:Prop) (H1:Heap) (E:Env) (K:X→Env→Heap→Prop):X→Env→Heap→Prop
 | .normal,E2,H2=>q∧subv n [] H1 E2 H2
 | .exit i,_,H2=>K (.exit i) E H2
 | .ret,_,H2=>K .ret E H2
def asgF (P:Program) (n:Nat) (body:Code) (K:X→Env→Heap→Prop):X→Env→Heap→Prop
 | .normal,E1,H1=>cx P n body E1 H1 K
 | .exit _,_,_=>False
 | .ret,_,_=>False
def KX (E:Env) (K:X→Env→Heap→Prop) (cd:Code) (H:Heap):Prop:=(cd = .ret∧K .ret E H)∨∃ i,cd = .exit i∧K (.exit i) E H
def recF (fn:Nat) (a:Act) (p:Nat) (assign body:Code) (D:Nat) (st:LoopState) (pe:Option Code):Loop:={ state:=st,pending:=pe,fn,tmps:=a.tmps,params:=#[p],assign,body,defers:=D }
theorem zrw {c:Ctx} {E:Env} {a:Act} (he:ER c E a) {p:Nat} (hp:p<a.tmps.size) {v:V} {u:Value} (hv:VR c v u) (ds:List Deferred):ER c (⟨p,0,[],v⟩::E) { tmps:=a.tmps.setIfInBounds p u,defers:=ds }:=by
 intro t
 rw[gr]
 by_cases h:p=t
 ·subst h
  rw[if_pos rfl]
  refine⟨fun _=>?_,fun h=>absurd trivial h⟩
  have:km { tmps:=a.tmps.setIfInBounds p u,defers:=ds } p=u:=by
   simp[km,hp]
  rw[this]
  exact hv
 ·rw[if_neg h]
  have:km { tmps:=a.tmps.setIfInBounds p u,defers:=ds } t=km a t:=by
   simp[km,Array.getD_eq_getD_getElem?,Array.getElem?_setIfInBounds_ne h]
  rw[this]
  exact he t
section
variable {P:Program} {F:Fr} {c1:Ctx} {S:Nat→Prop} {l D n fn:Nat} {H:Heap} {A:World} {a:Act} {E:Env} {K:X→Env→Heap→Prop} {p:Nat} {assign body:Code} {H1:Heap}
theorem zeb {r:Loop} (he:ER c1 E a) (ha:AO F a) (hD:F.c0.w.heap.size≤D) (h:JJ F c1 S l D H r A) :
  ∃ F' c,Fx F F'∧c.w=A∧SR F' c H∧ER c E { a with defers:=zgb D::a.defers }∧AO F' { a with defers:=zgb D::a.defers }:=by
 obtain⟨c,rfl,h1,h2,h3,h4,h5,h6⟩:=h
 have hc:Clear c H (·=D):=fun k e=>h3 k (.inr (.inl e))
 have hlt:∀ k,k=D→k<c.w.heap.size:=fun k e=>h4 k (.inr (.inl e))
 refine⟨F.sh c F.c0.locs (·=D) F.ro (zgb D::F.ds),c,⟨rfl,rfl,rfl,h1.fr.size,fun c' H' h=>h1.unsh (fun _ _ h=>h) h,[D],rfl,by simp,fun D' hD'=>?_⟩,rfl,
  h1.sh (fun r x e=>h1.le.locs r x e) hc,fy h2 he,⟨by show zgb D::a.defers=_;rw[ha.defers];rfl,ha.size⟩⟩
 obtain rfl:D'=D:=by simpa using hD'
 refine⟨hD,hlt _ rfl,fun c' H' h=>?_⟩
 obtain⟨g1,g2⟩:=hc.unsh hlt h
 exact⟨(g2 _ rfl).trans h6,(g1 _ rfl).1,(g1 _ rfl).2⟩
theorem zeo {α:Type} {q:Prop} (gt:GF P F) {val:α→Value} {enc:α→V} {x:α} (hval:∀ c,VR c (enc x) (val x)) (hn:c1.locs.length≤n) (hn1:n≤hlen H1) (he:ER c1 E a) (ha:AO F a) (hp:p<F.nt) (hlF:Wr F l) (hDl:D≠l) (hSl:¬ S l)
  (hlen1:c1.locs.length=hlen H) (hF:∀ (r:Nat) (y:Option (Nat × Nat)),F.c0.locs[r]? = some y→c1.locs[r]? = some y)
  (ok1:okq F.nt true assign=true) (ok2:okq F.nt true body=true) (hx:cx P n assign (⟨p,0,[],enc x⟩::E) H (asgF P n body (rndF n q H1 E K)))
  (hJ:JJ F c1 S l D H (recF fn a p assign body D .ready none) A) :
  YieldAt Fence.wide 0 P l #[val x] A fun e B=>(e = .returned (.bool true)∧(q∧JJ F c1 S l D H1 (recF fn a p assign body D .ready none) B)∧∀ k,S k→B.heap[k]? = A.heap[k]?) ∨
   (e = .returned (.bool false)∧∃ cd H',JJ F c1 S l D H' (recF fn a p assign body D .done (some cd)) B∧KX E K cd H'):=by
 obtain⟨c,rfl,h1,h2,h3,h4,h5,h6⟩:=hJ
 have hlc:c.locs.length=c1.locs.length:=by rw[h1.len,hlen1,bt]
 have hFc:∀ (r:Nat) (y:Option (Nat × Nat)),F.c0.locs[r]? = some y→c.locs[r]? = some y:=fun r y e=>h2.locs r y (hF r y e)
 refine⟨fn,_,assign,body,run_yield h5 rfl,roundIn_of_wpIn trivial ?_⟩
 have htm:((recF fn a p assign body D .ready none).params.zip #[val x]).foldl (fun tmps (t,a)=>tmps.setIfInBounds t a) (recF fn a p assign body D .ready none).tmps=a.tmps.setIfInBounds p (val x):=by simp[recF]
 rw[htm]
 have hfa:=hx (F.sh c c.locs (fun k=>S k∨k=D∨k=l) (some l) []) c { tmps:=a.tmps.setIfInBounds p (val x),defers:=[] } ⟨by show c.locs.length≤n;omega,fun c' H' h=>gt c' H' (h1.unsh hFc h)⟩ (h1.sh (fun _ _ e=>e) h3)
  (zrw (fy h2 he) (by rw[ha.size];exact hp) (hval c) []) ⟨rfl,by simp[ha.size,Fr.sh]⟩ ok1
 refine wpIn_mono hfa fun e a1 w1 hq=>?_
 obtain⟨F1,fx1,hq⟩:=hq
 cases e with
 | normal =>
   obtain⟨ca,E1,Ha,rfl,s1,e1,o1,kx⟩:=hq
   have s1':=fx1.sr _ _ s1
   have hca:SR F ca Ha:=h1.unsh hFc s1'
   obtain⟨cl1,same1⟩:=h3.unsh h4 s1'
   have hla:ca.w.heap[l]? = some (.loop (recF fn a p assign body D .ready none)):=(same1 l (.inr (.inr rfl))).trans h5
   refine⟨_,run_beginRound hla rfl, ?_⟩
   have hsz1:∀ k,(S k∨k=D∨k=l)→k<ca.w.heap.size:=fun k hk=>Nat.lt_of_lt_of_le (h4 k hk) s1'.fr.size
   obtain⟨g1,g2⟩:=hca.kb (S:=(·=l)) (fun k hS=>cl1 k (.inr (.inr hS))) (fun k e=>by rw[show k=l from e];exact hlF) (KB.put (l:=l) ca.w (.loop { recF fn a p assign body D .ready none with state:=.busy }))
   obtain⟨cb,hcb⟩:∃ cb:Ctx,cb = { ca with w:=ca.w.putObj l (.loop { recF fn a p assign body D .ready none with state:=.busy }) }:=⟨_,rfl⟩
   rw[← hcb] at g1 g2
   have hcbw:cb.w=ca.w.putObj l (.loop { recF fn a p assign body D .ready none with state:=.busy }):=by rw[hcb]
   have clb:Clear cb Ha (fun k=>S k∨k=D∨k=l):=by rw[hcb];exact cl1
   have hszb:∀ k,(S k∨k=D∨k=l)→k<cb.w.heap.size:=fun k hk=>by rw[hcbw];simpa [World.putObj] using hsz1 k hk
   have hlb:cb.w.heap[l]? = some (.loop { recF fn a p assign body D .ready none with state:=.busy }):=by rw[hcbw];exact World.putObj_heap_same (hsz1 l (.inr (.inr rfl)))
   have hlocs:∀ (r:Nat) (y:Option (Nat × Nat)),c.locs[r]? = some y→cb.locs[r]? = some y:=fun r y e=>g2.locs r y (s1'.le.locs r y e)
   have ho1:AO (F.sh cb c.locs (fun k=>S k∨k=D∨k=l) (some l) a1.defers) a1:=⟨rfl,by rw[o1.size,fx1.nt];rfl⟩
   have hfb:=kx (F.sh cb c.locs (fun k=>S k∨k=D∨k=l) (some l) a1.defers) cb a1 ⟨by show c.locs.length≤n;omega,fun c' H' h=>gt c' H' (g1.unsh hFc h)⟩ (g1.sh hlocs clb) (fy g2 e1) ho1 ok2
   rw[← hcbw]
   have hle0:Le c ca:=⟨s1'.le.locs,s1'.le.I,s1'.le.heap⟩
   have fin:∀ (jump:Option Code) (c2:Ctx) (H2:Heap),SR (F.sh cb c.locs (fun k=>S k∨k=D∨k=l) (some l) a1.defers) c2 H2 →
     ∃ B,(Instr.endRound l jump).run P c2.w = .ok (.bool jump.isNone) B∧JJ F c1 S l D H2 (recF fn a p assign body D (if jump.isNone then .ready else .done) jump) B∧∀ k,S k→B.heap[k]? = c.w.heap[k]?:=by
    intro jump c2 H2 s2
    have hc2:SR F c2 H2:=g1.unsh hFc s2
    obtain⟨cl2,same2⟩:=clb.unsh hszb s2
    have hl2:=(same2 l (.inr (.inr rfl))).trans hlb
    have hD2:c2.w.heap[D]? = some (.deferred (some [])):=(same2 D (.inr (.inl rfl))).trans (by rw[hcbw];exact (World.putObj_heap_other hDl).trans ((same1 D (.inr (.inl rfl))).trans h6))
    have hle2:Le c c2:=⟨fun r y e=>s2.le.locs r y e,fun b hb=>s2.le.I b (g2.I b (hle0.I b hb)),fun b hb=>(s2.le.heap b (g2.I b (hle0.I b hb))).trans ((g2.heap b (hle0.I b hb)).trans (hle0.heap b hb))⟩
    have hJ2:JJ F c1 S l D H2 { recF fn a p assign body D .ready none with state:=.busy } c2.w:=⟨c2,rfl,hc2,h2.trans hle2,cl2,fun k hk=>Nat.lt_of_lt_of_le (hszb k hk) s2.fr.size,hl2,hD2⟩
    refine⟨_,run_endRound jump hl2,hJ2.turn hlF hDl _,fun k hS=>?_⟩
    have hne:k≠l:=fun e=>by subst e;exact hSl hS
    rw[World.putObj_heap_other hne,same2 k (.inl hS),hcbw,World.putObj_heap_other hne,same1 k (.inl hS)]
   refine wpIn_mono hfb fun e a2 w2 hq=>?_
   obtain⟨F2,fx2,hq⟩:=hq
   cases e with
   | normal =>
     obtain⟨c2,E2,H2,rfl,s2,e2,o2,hq0,hsub⟩:=hq
     obtain⟨c3,k1,k2,k3⟩:=zax (F:=F.sh cb c.locs (fun k=>S k∨k=D∨k=l) (some l) a1.defers) (by show c.locs.length≤n;omega) hn1 (fx2.sr _ _ s2) e2 hsub
     obtain⟨B,b1,b2,b3⟩:=fin none c3 H1 k2
     rw[k1] at b1
     exact⟨_,B,b1,.inl ⟨rfl,⟨hq0,b2⟩,b3⟩⟩
   | exit i =>
     obtain⟨c2,E2,H2,rfl,s2,e2,o2,hk⟩:=hq
     obtain⟨B,b1,b2,b3⟩:=fin (some (.exit i)) c2 H2 (fx2.sr _ _ s2)
     exact⟨_,B,b1,.inr ⟨rfl,_,_,b2,.inr ⟨i,rfl,hk⟩⟩⟩
   | ret =>
     obtain⟨c2,E2,H2,rfl,s2,e2,o2,hk⟩:=hq
     obtain⟨B,b1,b2,b3⟩:=fin (some .ret) c2 H2 (fx2.sr _ _ s2)
     exact⟨_,B,b1,.inr ⟨rfl,_,_,b2,.inl ⟨rfl,hk⟩⟩⟩
   | goto t=>exact hq.elim
   | panic ch=>exact hq.elim
   | outgrown=>exact hq.elim
 | exit i=>obtain⟨c2,E2,H2,rfl,s2,e2,o2,hk⟩:=hq;exact hk.elim
 | ret=>obtain⟨c2,E2,H2,rfl,s2,e2,o2,hk⟩:=hq;exact hk.elim
 | goto t=>exact hq.elim
 | panic ch=>exact hq.elim
 | outgrown=>exact hq.elim
def Bl (c:Ctx) (rs:List Nat) (k:Nat):Prop:=∃ r m,r∈rs∧c.locs[r]? = some (some (k,m))
def ItOk {α:Type} (P:Program) (val:α→Value) (xs:List α) (rs:List Nat) (H:Heap) (v:V):Prop :=
 ∀ (F:Fr) (c:Ctx) (u:Value),SR F c H→VR c v u→∃ gf lb,u = .func (.func gf) #[] lb∧(∀ args w,(callFunc gf args).run P w = .ok (.enter gf args) w)∧Iter P gf lb (Bl c rs) val xs c.w
theorem zst {α:Type} {g:Operand} (val:α→Value) (enc:α→V) (hval:∀ c x,VR c (enc x) (val x)) (xs:List α) (rs:List Nat) (I:List α→Prop) (hI0:I []) (Hv:List α→Heap)
  (hit:ItOk P val xs rs H (ev (gl E) [] g)) (hrs:∀ r,r∈rs→∃ x,H[r]? = some x∧Live x) (hH0:fgH (Hv []) H) (hdead:∀ r x,r∈rs→(Hv [])[r]? = some x→¬ Live x)
  (hln:∀ pre,hlen (Hv pre)=hlen H)
  (round:∀ pre x,(pre++[x]) <+: xs→I pre→cx P (hlen H) assign (⟨p,0,[],enc x⟩::E) (Hv pre) (asgF P (hlen H) body (rndF (hlen H) (I (pre++[x])) (Hv (pre++[x])) E K)))
  (done:I xs→K .normal E (Hv xs)):cx P n (.rangeFunc g #[p] assign body) E H K:=by
 intro F c1 a hn hs he ha hok
 simp only[okq,Bool.and_eq_true,Bool.not_eq_true'] at hok
 obtain⟨hro,hp,ok1,ok2⟩:=hok
 have hro':F.ro=none:=by cases h:F.ro<;>simp_all
 have hpl:p<F.nt:=by simpa using hp
 obtain⟨gf,lb,hg,eg,hIt⟩:=hit F c1 (a.eval g) hs (pf (lh he) (lc E) (p:=[]) (fun i b x h=>by simp at h) trivial g)
 obtain⟨S,hS⟩:∃ S,S=Bl c1 rs:=⟨_,rfl⟩
 rw[← hS] at hIt
 have hl1:c1.locs.length=hlen H:=by rw[hs.len,bt]
 have hSb:∀ k,S k→∃ r m x,r∈rs∧c1.locs[r]? = some (some (k,m))∧H[r]? = some x∧Live x∧k<c1.w.heap.size∧¬ c1.I k∧Wr F k:=by
  intro k hk
  rw[hS] at hk
  obtain⟨r,m,h1,h2⟩:=hk
  obtain⟨x,h3,h4⟩:=hrs r h1
  obtain⟨C,e1,e2,e3,e4⟩:=hs.blk r x _ h3 h2 h4
  exact⟨r,m,x,h1,h2,h3,h4,(Array.getElem?_eq_some_iff.1 e1).1,e3,e4⟩
 have hs0:SR F c1 (Hv []):=hs.fg hH0
 have hcl:Clear c1 (Hv []) S:=by
  intro k hk
  obtain⟨r,m,x,h1,h2,h3,h4,h5,h6,h7⟩:=hSb k hk
  refine⟨h6,fun r' m' x' hr' hx' hl'=>?_⟩
  have hr2:H[r']? = some x':=by
   rcases (znb hH0).2 r' x' hr' with rfl|h
   ·exact hx'.elim
   ·exact h
  have:=hs.inj r r' x x' k m m' h3 hr2 h4 hx' h2 hl'
  subst this
  exact hdead r x' h1 hr' hx'
 obtain⟨D,hD⟩:∃ D,D=c1.w.heap.size:=⟨_,rfl⟩
 rw[hro']
 refine wpIn_rangeFunc ?_
 intro fn hfn
 obtain⟨W1,hW1⟩:∃ W1,(c1.w.alloc (.deferred (some []))).alloc (.loop (recF fn a p assign body D .ready none))=W1:=⟨_,rfl⟩
 have hL1:W1.heap[D+1]? = some (.loop (recF fn a p assign body D .ready none)):=by
  rw[← hW1,hD];have:=World.alloc_heap_new (c1.w.alloc (.deferred (some []))) (.loop (recF fn a p assign body c1.w.heap.size .ready none));rwa [World.size_alloc] at this
 have hK1:W1.heap[D]? = some (.deferred (some [])):=by
  rw[← hW1,tq _ _ _ (by rw[hD];simp),hD];exact World.alloc_heap_new c1.w _
 have hsz1:W1.heap.size=D+2:=by rw[← hW1,hD];simp
 have hkb:KB S c1.w W1:=by
  rw[← hW1]
  refine⟨rfl,rfl,rfl,by simp;omega,fun k hk _=>?_⟩
  rw[tq _ _ _ (by simp;omega),tq _ _ _ hk]
 have hDS:∀ k,S k→k<D:=fun k hk=>by obtain⟨r,m,x,h1,h2,h3,h4,h5,h6,h7⟩:=hSb k hk;rw[hD];exact h5
 have hnew:∀ k,D≤k→¬ c1.I k∧∀ (r m:Nat) x,(Hv [])[r]? = some x→Live x→c1.locs[r]?≠some (some (k,m)):=by
  intro k hk
  refine⟨fun hI=>?_,fun r m x hr hx hl=>?_⟩
  ·have:=hs.imm k hI;omega
  ·obtain⟨C,e1,_⟩:=hs0.blk r x _ hr hl hx
   have:=(Array.getElem?_eq_some_iff.1 e1).1
   omega
 have hJ0:JJ F c1 S (D+1) D (Hv []) (recF fn a p assign body D .ready none) W1:=by
  obtain⟨g1,g2⟩:=hs0.kb hcl (fun k hk=>by obtain⟨r,m,x,h1,h2,h3,h4,h5,h6,h7⟩:=hSb k hk;exact h7) hkb
  refine⟨{ c1 with w:=W1 },rfl,g1,g2, ?_, ?_,hL1,hK1⟩
  ·rintro k (hk|rfl|rfl)
   ·exact hcl k hk
   ·exact hnew k (Nat.le_refl _)
   ·exact hnew _ (Nat.le_succ _)
  ·rintro k (hk|rfl|rfl)
   ·have:=hDS k hk;omega
   ·omega
   ·omega
 have hDF:F.c0.w.heap.size≤D:=by rw[hD];exact hs.fr.size
 have hlF:Wr F (D+1):=.inl (Nat.le_trans hDF (Nat.le_succ _))
 have hSD:¬ S D:=fun h=>by have:=hDS _ h;omega
 have hSl:¬ S (D+1):=fun h=>by have:=hDS _ h;omega
 have hSw:∀ k,S k→Wr F k:=fun k hk=>by obtain⟨r,m,x,h1,h2,h3,h4,h5,h6,h7⟩:=hSb k hk;exact h7
 refine⟨D+1,[zgb D],W1,{ target:=.fn (.func gf) lb,args:=#[.func (.yield (D+1)) #[] #[]] },W1,gf,
  #[.func (.yield (D+1)) #[] #[]]++lb,W1, ?_, ?_,fun _ _=>trivial, ?_,fun h=>by simp[Fence.wide] at h, ?_⟩
 ·rw[← hW1,hD];exact run_enterLoop_outer _ _ _ _ _
 ·simp only[resolve,hg]
  simp[go_sem]
 ·simp[invoke,go_sem,eg]
 ·refine CallsIn.mono (hIt (D+1) (fun pre A=>I pre∧JJ F c1 S (D+1) D (Hv pre) (recF fn a p assign body D .ready none) A)
   (fun pre A=>∃ cd H',JJ F c1 S (D+1) D H' (recF fn a p assign body D .done (some cd)) A∧KX E K cd H') W1
   (fun pre A B h hk=>⟨h.1,h.2.kb hSw hSD hSl hk⟩) (fun pre A B h hk=>by obtain⟨cd,H',h1,h2⟩:=h;exact⟨cd,H',h1.kb hSw hSD hSl hk,h2⟩)
   (fun pre A h=>by obtain⟨c,e,h1,_⟩:=h.2;rw[← e];exact hn.gt c _ h1)
   (fun pre x A hpre hJ=>zeo hn.gt (hval · x) (by rw[hl1];exact Nat.le_refl _) (by rw[hln];exact Nat.le_refl _) he ha hpl hlF (by omega) hSl (by rw[hl1,hln]) (fun r y e=>hs.le.locs r y e) ok1 ok2 (round pre x hpre hJ.1) hJ.2)
   (fun k hk=>?_) ⟨hI0,hJ0⟩) ?_
  ·rw[← hW1,tq _ _ _ (by have:=hDS k hk;simp;omega),tq _ _ _ (by have:=hDS k hk;omega)]
  ·rintro e B ⟨⟨v,rfl⟩,⟨hIx,hJ⟩ | ⟨pre,_,cd,H',hJ,hk⟩⟩
   ·have hl2:=hJ
    obtain⟨c2,_,_,_,_,_,hl2,_⟩:=hl2
    refine⟨none,_,run_endLoop hl2 (by simp[recF]), ?_⟩
    obtain⟨F',c,fx,rfl2,s2,e2,o2⟩:=zeb he ha hDF (hJ.turn hlF (by omega) { recF fn a p assign body D .ready none with state:=.exhausted })
    exact⟨F',fx,c,E,_,rfl2,s2,e2,o2,done hIx⟩
   ·have hl2:=hJ
    obtain⟨c2,_,_,_,_,_,hl2,_⟩:=hl2
    refine⟨some cd,_,run_endLoop hl2 (by simp[recF]), ?_⟩
    obtain⟨F',c,fx,rfl2,s2,e2,o2⟩:=zeb he ha hDF (hJ.turn hlF (by omega) { recF fn a p assign body D .done (some cd) with state:=.exhausted })
    rcases hk with ⟨rfl,hk⟩ | ⟨i,rfl,hk⟩
    ·exact wpIn_ret ⟨F',fx,c,E,_,rfl2,s2,e2,o2,hk⟩
    ·exact wpIn_exit ⟨F',fx,c,E,_,rfl2,s2,e2,o2,hk⟩
end
section
variable {P:Program} {n:Nat} {E E1:Env} {H H1:Heap} {K:X→Env→Heap→Prop} {body:Code} {q:Prop} {i:Nat}
theorem zfb:asgF P n body K .normal E1 H1=cx P n body E1 H1 K:=rfl
theorem zeh:rndF n q H E K .normal E1 H1=(q∧subv n [] H E1 H1):=rfl
theorem zri:rndF n q H E K .ret E1 H1=K .ret E H1:=rfl
theorem zls:rndF n q H E K (.exit i) E1 H1=K (.exit i) E H1:=rfl
attribute [go_sem] zfb zeh zri zls
end
end Go.VM
