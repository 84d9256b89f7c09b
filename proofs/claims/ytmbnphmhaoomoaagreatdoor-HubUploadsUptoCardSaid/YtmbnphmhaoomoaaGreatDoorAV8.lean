import Derived.Test.YtmbnphmhaoomoaaGreatDoorAV6
import Derived.Shelf.Sort.Plain
import Derived.Shelf.Slices.In.SortNone
import Derived.Sort.OwnSorted
set_option linter.unusedVariables false
set_option linter.unusedSimpArgs false
set_option linter.unnecessarySimpa false
set_option maxHeartbeats 4000000
section
namespace Go.VM
open Go.Sort Go.Proofs
variable {P:Program}
end Go.VM
end
section
namespace Go.VM
section
variable {P:Program} {ops:Array Oper} {Q:Exit→Act→World→Prop} {md:Region.Mode}
def Kp (Z:Nat→Prop) (w w':World):Prop:=∀ k,Z k→w'.heap[k]? = w.heap[k]?
theorem Kp.refl (Z:Nat→Prop) (w:World):Kp Z w w:=fun _ _=>rfl
def ij (P:Program) (md:Region.Mode) (ops:Array Oper) (Q:Exit→Act→World→Prop) (late:Nat→Bool):(Nat→Prop)→Nat→Array Bool→Act→World→Prop
 | _,0,listed,a,w=>Region.ready md ops listed=[]∧Q .normal a w
 | Z,fuel+1,listed,a,w =>
   (Region.ready md ops listed=[]→Q .normal a w) ∧
   ∀ i∈Region.ready md ops listed,wpOp P ops Q i (fun a' w'=>(late i=false→w.Extends w')∧Kp Z w w'∧∃ Z':Nat→Prop,(∀ k,Z k→Z' k)∧ij P md ops Q late Z' fuel (listed.setIfInBounds i true) a' w') a w
theorem zg {late:Nat→Bool}:∀ (fuel:Nat) (Z:Nat→Prop) (listed:Array Bool) (a:Act) (w:World),ij P md ops Q late Z fuel listed a w→wpAny P md ops Q fuel listed a w
 | 0,_,_,_,_,h=>h
 | fuel+1,Z,_,_,_,h=>⟨h.1,fun i hi=>wpOp_mono (fun a' w' h'=>by obtain⟨_,_,Z',_,h'⟩:=h';exact zg fuel Z' _ a' w' h') (h.2 i hi)⟩
theorem zcr {late:Nat→Bool} {N i:Nat} {oi:Oper} {v:Value} (hi:ops[i]? = some oi) (hsel:∀ (j:Nat) (o:Oper) cs b,ops[j]? = some o→o.op≠.select cs b)
  (hQ:∀ c a w,Q (.panic c) (a.put oi.dst v) w→Q (.panic c) a w) :
  ∀ (fuel:Nat) (Z:Nat→Prop) (listed:Array Bool) (a:Act) (w:World),Closed md ops listed →
   (∀ j oj,ops[j]? = some oj→j≠i→listed.getD j true=false→(∀ e∈oj.after,Region.binds md e=true→e.on≠i)→oi.apart ops oj=true) →
   (∀ j,late j=true→listed.getD j false=true∨anc md ops N i j=true) →
   i∈Region.ready md ops listed→YieldsIf P ops w.Extends oi v a →
   ij P md ops Q late Z fuel (listed.setIfInBounds i true) (a.put oi.dst v) w→ij P md ops Q late Z (fuel+1) listed a w:=by
 intro fuel
 induction fuel with
 | zero =>
   intro Z listed a w hcl _ _ hr hy H
   refine⟨fun h=>(by rw[h] at hr;cases hr),fun j hj=>?_⟩
   by_cases hji:j=i
   ·subst hji;exact hy.wpOp hi (.refl w) ⟨fun _=>.refl w,.refl Z w,Z,fun _ h=>h,H⟩
   ·have:=ready_mono hj hji
    rw[H.1] at this
    cases this
 | succ fuel ih =>
   intro Z listed a w hcl hfree hlate hr hy H
   refine⟨fun h=>(by rw[h] at hr;cases hr),fun j hj=>?_⟩
   by_cases hji:j=i
   ·subst hji;exact hy.wpOp hi (.refl w) ⟨fun _=>.refl w,.refl Z w,Z,fun _ h=>h,H⟩
   ·have h1:=H.2 j (ready_mono hj hji)
    have hlj:late j=false:=by
     cases hh:late j with
     | false=>rfl
     | true =>
       rcases hlate j hh with h|h
       ·rw[dt hj] at h;cases h
       ·exact absurd hj (rj hcl (dt hr) h)
    obtain⟨hjun,oj,hoj,hall⟩:=mem_ready.1 hj
    have hnot:∀ e∈oj.after,Region.binds md e=true→e.on≠i:=fun e he hb heq=>by
     have h1:=hall e he hb
     rw[heq,dt hr] at h1
     cases h1
    have h2:=wpOp_putIf hoj (hfree j oj hoj hji hjun hnot) (fun cs b=>hsel i oi cs b hi) (fun cs b=>hsel j oj cs b hoj) hQ hy h1
    have hfree':∀ k ok,ops[k]? = some ok→k≠i→(listed.setIfInBounds j true).getD k true=false →
      (∀ e∈ok.after,Region.binds md e=true→e.on≠i)→oi.apart ops ok=true:=fun k ok hk hki hun hno=>by
     refine hfree k ok hk hki ?_ hno
     by_cases hjk:j=k
     ·subst hjk;exact hjun
     ·rw[getD_set_ne true hjk] at hun;exact hun
    have hlate':∀ k,late k=true→(listed.setIfInBounds j true).getD k false=true∨anc md ops N i k=true:=fun k hk=>by
     rcases hlate k hk with h|h
     ·by_cases hjk:j=k
      ·subst hjk;rw[hlj] at hk;cases hk
      ·exact .inl (by rw[getD_set_ne false hjk];exact h)
     ·exact .inr h
    refine wpOp_mono (fun a' w' h3=>by
     obtain⟨Z',hz1,hz2⟩:=h3.2.2.2
     refine⟨h3.2.1,h3.2.2.1,Z',hz1,ih Z' (listed.setIfInBounds j true) a' w' (hcl.set hj) hfree' hlate' (ready_mono hr (Ne.symm hji)) ?_ ?_⟩
     ·rcases h3.1 with ⟨g1,g2⟩|g
      ·exact .inl ⟨g1,fun x hx=>g2 x ((h3.2.1 hlj).trans hx)⟩
      ·exact .inr g
     ·rw[Array.setIfInBounds_comm _ _ hji]
      exact hz2) h2
theorem zam {late:Nat→Bool} {i:Nat} {oi:Oper} {v:Value} (hi:ops[i]? = some oi) (hsel:∀ (j:Nat) (o:Oper) cs b,ops[j]? = some o→o.op≠.select cs b)
  (hQ:∀ c a w,Q (.panic c) (a.put oi.dst v) w→Q (.panic c) a w) :
  ∀ (fuel:Nat) (Z:Nat→Prop) (listed:Array Bool) (a:Act) (w:World),Closed md ops listed →
   (∀ j oj,ops[j]? = some oj→j≠i→listed.getD j true=false→(∀ e∈oj.after,Region.binds md e=true→e.on≠i)→oi.apart ops oj=true) →
   late i=false→i∈Region.ready md ops listed→YieldsIf P ops (Kp Z w) oi v a →
   ij P md ops Q late Z fuel (listed.setIfInBounds i true) (a.put oi.dst v) w→ij P md ops Q late Z (fuel+1) listed a w:=by
 intro fuel
 induction fuel with
 | zero =>
   intro Z listed a w hcl _ _ hr hy H
   refine⟨fun h=>(by rw[h] at hr;cases hr),fun j hj=>?_⟩
   by_cases hji:j=i
   ·subst hji;exact hy.wpOp hi (.refl Z w) ⟨fun _=>.refl w,.refl Z w,Z,fun _ h=>h,H⟩
   ·have:=ready_mono hj hji
    rw[H.1] at this
    cases this
 | succ fuel ih =>
   intro Z listed a w hcl hfree hlate hr hy H
   refine⟨fun h=>(by rw[h] at hr;cases hr),fun j hj=>?_⟩
   by_cases hji:j=i
   ·subst hji;exact hy.wpOp hi (.refl Z w) ⟨fun _=>.refl w,.refl Z w,Z,fun _ h=>h,H⟩
   ·have h1:=H.2 j (ready_mono hj hji)
    obtain⟨hjun,oj,hoj,hall⟩:=mem_ready.1 hj
    have hnot:∀ e∈oj.after,Region.binds md e=true→e.on≠i:=fun e he hb heq=>by
     have h1:=hall e he hb
     rw[heq,dt hr] at h1
     cases h1
    have h2:=wpOp_putIf hoj (hfree j oj hoj hji hjun hnot) (fun cs b=>hsel i oi cs b hi) (fun cs b=>hsel j oj cs b hoj) hQ hy h1
    have hfree':∀ k ok,ops[k]? = some ok→k≠i→(listed.setIfInBounds j true).getD k true=false →
      (∀ e∈ok.after,Region.binds md e=true→e.on≠i)→oi.apart ops ok=true:=fun k ok hk hki hun hno=>by
     refine hfree k ok hk hki ?_ hno
     by_cases hjk:j=k
     ·subst hjk;exact hjun
     ·rw[getD_set_ne true hjk] at hun;exact hun
    refine wpOp_mono (fun a' w' h3=>by
     obtain⟨hk,Z',hz1,hz2⟩:=h3.2.2
     refine⟨h3.2.1,hk,Z',hz1,ih Z' (listed.setIfInBounds j true) a' w' (hcl.set hj) hfree' hlate (ready_mono hr (Ne.symm hji)) ?_ ?_⟩
     ·rcases h3.1 with ⟨g1,g2⟩|g
      ·exact .inl ⟨g1,fun x hx=>g2 x fun k hZ=>(hx k (hz1 k hZ)).trans (hk k hZ)⟩
      ·exact .inr g
     ·rw[Array.setIfInBounds_comm _ _ hji]
      exact hz2) h2
theorem yk {late:Nat→Bool} {Z:Nat→Prop} {rs:List Nat} {fuel:Nat} {listed:Array Bool} {a:Act} {w:World} (hr:Region.ready md ops listed=rs) (hne:rs≠[])
  (h:∀ i∈rs,wpOp P ops Q i (fun a' w'=>(late i=false→w.Extends w')∧Kp Z w w'∧∃ Z':Nat→Prop,(∀ k,Z k→Z' k)∧ij P md ops Q late Z' fuel (listed.setIfInBounds i true) a' w') a w):ij P md ops Q late Z (fuel+1) listed a w :=
 ⟨fun h0=>absurd (hr ▸ h0) hne,hr ▸ h⟩
theorem zgc {late:Nat→Bool} {Z:Nat→Prop} {listed:Array Bool} {a:Act} {w:World} (hr:Region.ready md ops listed=[]) (h:Q .normal a w):∀ fuel,ij P md ops Q late Z fuel listed a w
 | 0=>⟨hr,h⟩
 | _+1=>⟨fun _=>h,by rw[hr];simp⟩
end
section
variable {P:Program} {F:Fr} {c:Ctx} {E:Env} {H:Heap} {a:Act} {X:Nat→Bool} {k:Nat} {p:Path} {o:Oper} {K:Env→Heap→Prop} {Pr:List Nat}
def Zc (Pr:List Nat) (c:Ctx) (k:Nat):Prop:=c.I k∨∃ r∈Pr,∃ m,c.locs[r]? = some (some (k,m))
def StlZ (P:Program) (Pr:List Nat) (o:Oper) (k:Nat) (p:Path) (a:Act) (c:Ctx) (E:Env) (H:Heap) (K:Env→Heap→Prop):Prop :=
 ∃ v,K (put E o.dst (k+1) p v) H∧(pc p→∃ u,(∀ w',Kp (Zc Pr c) c.w w'→(execOp a.eval o).run P w' = .ok (.value u) w')∧VR c v u)
theorem nf {r:R} (hrun:pc p→∀ v,r.has v→∃ u,(∀ w',Kp (Zc Pr c) c.w w'→(execOp a.eval o).run P w' = .ok (.value u) w')∧VR c v u)
  (h:rk p r fun v=>K (put E o.dst (k+1) p v) H):StlZ P Pr o k p a c E H K:=by
 cases r with
 | no=>exact h.elim
 | ok v=>exact⟨v,h,fun hpc=>hrun hpc v rfl⟩
 | chk q v=>exact⟨v,h.2,fun hpc=>hrun hpc v ⟨h.1 hpc,rfl⟩⟩
theorem py {r:R} {s:Sem Value} (he:execOp a.eval o=(do pure (Next.value (← s)))) (hrun:pc p→∀ v,r.has v→∃ u,(∀ w,s.run P w = .ok u w)∧VR c v u)
  (h:rk p r fun v=>K (put E o.dst (k+1) p v) H):StlZ P Pr o k p a c E H K:=by
 refine nf (fun hpc v hv=>?_) h
 obtain⟨u,h1,h2⟩:=hrun hpc v hv
 exact⟨u,fun w' _=>by rw[he];exact mo (h1 w'),h2⟩
def ldOk (Pr:List Nat) (v:V):Bool :=
 match v with
 | .ptr r _=>mem r Pr
 | .eptr r _ _ _=>mem r Pr
 | .iptr _ _=>true
 | _=>false
def zval (P:Program) (Pr:List Nat) (o:Oper) (p:Path) (E:Env):Bool :=
 match o.op with
 | .load _ x=>ldOk Pr (ev E p x)
 | .convert S _ _=>(match uh P S with|true=>false|false=>true)
 | .lookup _ _ _ _=>false
 | .call c=>(match evs E p c.args.toList with
   | [.mp _]=>false
   | _=>true)
 | _=>true
theorem zek {Z:Nat→Prop} {w w':World} (h:Kp Z w w') {a:Addr} (hz:Z a.block):w'.cell? a=w.cell? a:=by
 unfold World.cell?;rw[h _ hz]
theorem load_z (hs:SR F c H) {T:Nat} {x z:V} {u:Value} (hx:VR c x u) (hz:ldOk Pr x=true) (h:(load (ti P T) H x).has z):∃ r,(∀ w',Kp (Zc Pr c) c.w w'→(Instr.loadAt T u).run P w' = .ok r w')∧VR c z r:=by
 unfold load at h
 split at h
 ·rename_i r off
  simp only[VR] at hx
  split at hx
  ·rename_i b m hr
   subst hx
   split at h
   ·rename_i cs hb
    obtain⟨h1,h2⟩:=hs.get hr
    rw[hb] at h2
    obtain⟨_,g1,⟨C,el,rfl,g2,g3,g4⟩,_⟩:=h2 trivial
    have:=sl (P:=P) (b:=b) (o:=0) g4 g3 h
    obtain⟨u,hu,hv⟩:=this
    exact⟨u,fun w' hx=>by simpa [Instr.loadAt,Instr.sureAddr] using hu w' (fun j x _ hj=>(zek hx (.inr ⟨r,mem_true.1 hz,m,hr⟩)).trans (by rw[Nat.zero_add,ez g1];exact hj)),hv⟩
   ·exact h.elim
  ·exact hx.elim
 ·rename_i r e i off
  simp only[VR] at hx
  split at hx
  ·rename_i b m hr
   subst hx
   split at h
   ·rename_i e' n f hb
    obtain⟨h1,h2⟩:=hs.get hr
    rw[hb] at h2
    obtain⟨_,g1,⟨C,el,rfl,g2,g3,g4⟩,_⟩:=h2 trivial
    cases hbb:Nat.beq e e' with
    | false=>rw[hbb] at h;exact h.elim
    | true =>
      rw[hbb] at h
      obtain rfl:=be hbb
      dsimp only [cond] at h
      split at h
      ·rename_i v hv
       obtain⟨hi,rfl⟩:=h
       obtain⟨k1,k2,k3⟩:=g4 i hi
       have:=sl (P:=P) (T:=T) (off:=off) (z:=z) (b:=b) (o:=i*e) k3 (by rw[k1];exact k2) (by rw[hv];rfl)
       obtain⟨u,hu,hv⟩:=this
       exact⟨u,fun w' hx=>by simpa [Instr.loadAt,Instr.sureAddr] using hu w' (fun j x _ hj=>(zek hx (.inr ⟨r,mem_true.1 hz,m,hr⟩)).trans (by rw[ez g1];exact hj)),hv⟩
      ·exact h.elim
   ·exact h.elim
  ·exact hx.elim
 ·rename_i cs off
  simp only[VR] at hx
  obtain⟨b,o,rfl,h1,h2,h3⟩:=hx
  have:=sl (P:=P) (b:=b) (o:=o) (VRs.ofBare h3) h2 h
  obtain⟨u,hu,hv⟩:=this
  exact⟨u,fun w' hx=>by simpa [Instr.loadAt,Instr.sureAddr] using hu w' (fun j x _ hj=>(zek hx (.inl h1)).trans hj),hv⟩
 ·exact h.elim
theorem zpj (hs:St F c E H a X k) (hp:KP X k p) (hst:fl o=true) (hz:zval P Pr o p E=true) (h:xo P k o p E H K):StlZ P Pr o k p a c E H K:=by
 unfold xo at h
 have hev:=fun hpc x=>pf hs.er hs.ki hp hpc x (a:=a)
 have no:∀ {q:Op},o.op=q→(match q with
 | .move _ | .assign _ | .pick _ _ _ | .binOp _ _ _ _ _ | .unOp _ _ _ | .extract _ _ | .nilCheck _ | .fieldAddr _ _ _ | .index _ _ _ | .indexAddr _ _ _ | .load _ _ | .slice _ _ _ _ _ | .convert _ _ _ | .field _ _ _ | .build _ _ | .lookup _ _ _ _=>true
 | .call c=>(match c.callee with | .builtin .len=>true|_=>false)
 | _=>false)=true:=by
   intro q hq
   unfold fl at hst
   rw[hq] at hst
   exact hst
 split at h
 ·rename_i x ho
  exact py (r:=.ok (ev E p x)) (s:=pure (a.eval x)) (by simp[execOp,ho]) (fun hpc v hv=>⟨_,fun _=>rfl,by cases hv;exact hev hpc x⟩) h
 ·rename_i x ho
  exact py (r:=.ok (ev E p x)) (s:=pure (a.eval x)) (by simp[execOp,ho]) (fun hpc v hv=>⟨_,fun _=>rfl,by cases hv;exact hev hpc x⟩) h
 ·rename_i cc x y ho
  refine nf (fun hpc v hv=>?_) (kg h)
  obtain⟨u,h1,h2⟩:=zxq (P:=P) (c:=c) hv (hev hpc cc) (au:=a.eval x) (bu:=a.eval y)
   (fun hb=>by obtain⟨h1,h2⟩:=zjb hs hp hpc hb;exact pf hs.er hs.ki h1 h2 x)
   (fun hb=>by obtain⟨h1,h2⟩:=zjb hs hp hpc hb;exact pf hs.er hs.ki h1 h2 y)
  exact⟨u,fun w' _=>by simpa [execOp,ho] using h1 w',h2⟩
 ·rename_i op T x y yt ho
  exact py (s:=do eqGuard op T x y (a.eval x) (a.eval y);binOp op T (a.eval x) (a.eval y)) (by simp[execOp,ho]) (fun hpc v hv=>zr (zmm hv) fun w=>zqe (hev hpc x) (hev hpc y) hv) (kg h)
 ·rename_i op T x ho
  exact py (s:=Op.unary op (a.eval x)) (by simp[execOp,ho]) (fun hpc v hv=>zr (zxo hv) fun w=>z3q (hev hpc x) hv) (kg h)
 ·rename_i x i ho
  exact py (s:=Instr.extract (a.eval x) i) (by simp[execOp,ho]) (fun hpc v hv=>zcf (hev hpc x) hv) h
 ·
  rename_i x ho
  have hrun:∀ A,a.eval x = .pointer (some A)→∀ w',Kp (Zc Pr c) c.w w'→(execOp a.eval o).run P w' = .ok (.value (.pointer (some A))) w':=fun A hA w' _=>by simp[execOp,ho,hA]
  split at h
  ·rename_i r off hv
   refine nf (r:=.ok (.ptr r off)) (fun hpc v hv'=>?_) h
   cases hv'
   have hx:=hev hpc x
   rw[hv] at hx
   have hx':=hx
   simp only[VR] at hx'
   split at hx'
   ·exact⟨_,hrun _ hx',by rw[← hx'];exact hx⟩
   ·exact hx'.elim
  ·rename_i r e i off hv
   refine nf (r:=.ok (.eptr r e i off)) (fun hpc v hv'=>?_) h
   cases hv'
   have hx:=hev hpc x
   rw[hv] at hx
   have hx':=hx
   simp only[VR] at hx'
   split at hx'
   ·exact⟨_,hrun _ hx',by rw[← hx'];exact hx⟩
   ·exact hx'.elim
  ·rename_i cs off hv
   refine nf (r:=.ok (.iptr cs off)) (fun hpc v hv'=>?_) h
   cases hv'
   have hx:=hev hpc x
   rw[hv] at hx
   have hx':=hx
   simp only[VR] at hx'
   obtain⟨b,o',hx',_⟩:=hx'
   exact⟨_,hrun _ hx',by rw[← hx'];exact hx⟩
  ·exact h.elim
 ·rename_i T x f ho
  exact py (s:=Instr.fieldAt T (a.eval x) f) (by simp[execOp,ho]) (fun hpc v hv=>uv (hev hpc x) hv) h
 ·rename_i T x i ho
  exact py (s:=Instr.index T (a.eval x) (a.eval i)) (by simp[execOp,ho]) (fun hpc v hv=>zr (zdu hv) fun w=>wu (hev hpc x) (hev hpc i) hv) (kg h)
 ·rename_i T x i ho
  split at h
  ·rename_i e hT
   exact py (s:=Instr.indexAt T (a.eval x) (a.eval i)) (by simp[execOp,ho]) (fun hpc v hv=>ux hT (hev hpc x) (hev hpc i) hv) h
  ·exact h.elim
 ·rename_i T x ho
  refine nf (fun hpc v hv=>?_) h
  have hzz:ldOk Pr (ev E p x)=true:=by
   unfold zval at hz
   rw[ho] at hz
   exact hz
  obtain⟨u,h1,h2⟩:=load_z (P:=P) hs.sr (hev hpc x) hzz hv
  exact⟨u,fun w' hw=>by rw[show execOp a.eval o=(do pure (Next.value (← Instr.loadAt T (a.eval x)))) from by simp[execOp,ho]];exact mo (h1 w' hw),h2⟩
 ·rename_i T x lo hi mx ho
  exact py (s:=Instr.sliceAt T (a.eval x) (lo.map a.eval) (hi.map a.eval) (mx.map a.eval)) (by simp[execOp,ho])
   (fun hpc v hv=>by
    refine zia (hev hpc x) (rb hs hp hpc lo) (rb hs hp hpc hi) (rb hs hp hpc mx) (fun e' he' h0=>?_) hv
    unfold zk at h0 ⊢
    cases hte:da P T with
    | none=>rw[hte] at h0;exact absurd rfl h0
    | some e =>
      have:=mq hte
      rw[this] at he'
      cases he'
      exact⟨rfl,rfl⟩) h
 ·rename_i S D x ho
  refine nf (fun hpc v hv=>?_) (kg h)
  have hzz:(match uh P S with|true=>false|false=>true)=true:=by
   unfold zval at hz
   rw[ho] at hz
   exact hz
  have:∃ u,(∀ w',Kp (Zc Pr c) c.w w'→(convert S D (a.eval x)).run P w' = .ok u w')∧VR c v u:=by
   rcases va hv with ⟨h1,h2,hv⟩|hv
   ·rw[h1] at hzz;cases hzz
   ·obtain⟨u,h1,h2⟩:=zr (zgw hv) fun w=>zfx (P:=P) (w:=w) (hev hpc x) hv
    exact⟨u,fun w' _=>h1 w',h2⟩
  obtain⟨u,h1,h2⟩:=this
  exact⟨u,fun w' hw=>by rw[show execOp a.eval o=(do pure (Next.value (← convert S D (a.eval x)))) from by simp[execOp,ho]];exact mo (h1 w' hw),h2⟩
 ·rename_i T x f ho
  split at h
  ·rename_i k' t hf
   exact py (s:=Instr.field T (a.eval x) f) (by simp[execOp,ho]) (fun hpc v hv=>zlw hf (hev hpc x) hv) h
  ·exact h.elim
 ·rename_i f first caps ho;cases no ho
 ·rename_i T ho;cases no ho
 ·rename_i T x ho;cases no ho
 ·rename_i T x y ho;cases no ho
 ·rename_i T ho;cases no ho
 ·rename_i T m x y ho;cases no ho
 ·rename_i T m x y ho;cases no ho
 ·rename_i T m x b ho
  unfold zval at hz
  rw[ho] at hz
  cases hz
 ·rename_i T n parts ho;cases no ho
 ·rename_i T parts ho
  split at h
  ·rename_i z pl hz hpl
   split at h
   ·rename_i cs hf
    refine nf (r:=.ok (.agg cs)) (fun hpc v hv=>?_) h
    cases hv
    obtain⟨u,h1,h2⟩:=znj (P:=P) (c:=c) hz hpl (vals:=parts.map fun (i,x)=>(i,a.eval x)) (by rw[Array.toList_map];exact yv hs hp hpc _) hf
    exact⟨u,fun w' _=>by rw[show execOp a.eval o=(do pure (Next.value (← Instr.build T (parts.map fun (i,x)=>(i,a.eval x))))) from by simp[execOp,ho]];exact mo (h1 w'),h2⟩
   ·exact h.elim
  ·exact h.elim
 ·rename_i cl ho
  have hno:=no ho
  dsimp only at hno
  split at h
  ·rename_i b hb
   rw[hb] at hno
   unfold xb at h
   split at h
   ·rename_i t x hts hxs
    obtain⟨y,hy,rfl⟩:=xr hxs
    refine nf (fun hpc v hv=>?_) h
    have hzz:∀ r,ev E p y≠.mp r:=by
     intro r hr
     unfold zval at hz
     rw[ho] at hz
     dsimp only at hz
     rw[hxs,hr] at hz
     cases hz
    have hv':(vlen (bp P t) (ev E p y)).has v:=by
     unfold lenV at hv
     split at hv
     ·rename_i r hr
      exact absurd hr (hzz r)
     ·exact hv
    obtain⟨u,h1,h2⟩:=zr (z0j hv') fun w=>zc (P:=P) (w:=w) (ty:=o.type) (hev hpc y) hv'
    refine⟨u,fun w' hw=>?_,h2⟩
    have h1:=h1 w'
    have ea:cl.args = #[y]:=by apply Array.ext';simpa using hy
    have et:cl.argTypes = #[t]:=by apply Array.ext';simpa using hts
    simp[execOp,ho,resolve,hb,invoke,builtin,ea,et,h1]
   all_goals first|cases hno|exact h.elim
  ·rename_i f hf
   rw[hf] at hno
   cases hno
  ·exact h.elim
 ·exact h.elim
end
end Go.VM
end
section
namespace Go.VM
inductive PlanZ where
 | done
 | first (i:Nat) (s:PlanZ)
 | firstZ (i:Nat) (s:PlanZ)
 | one (i:Nat) (s:PlanZ)
 | alt (i:Nat) (s:PlanZ) (t:PlanZ)
def PlanZ.isFirst:PlanZ→Bool
 | .first _ _=>true
 | .firstZ _ _=>true
 | _=>false
def jh:List Nat→Heap→Prop
 | [],_=>True
 | r::l,H=>(match hget H r with | .dead=>False|_=>True)∧jh l H
def oe:List Nat→Heap→Heap
 | [],H=>H
 | r::l,H=>oe l (hset H r .dead)
def zhw (o:Oper):Bool :=
 match o.op with
 | .store _ _ _=>true
 | .mapUpdate _ _ _ _=>true
 | .call c=>(match c.callee with
   | .builtin .append=>true
   | .builtin .delete=>true
   | .builtin .copy=>true
   | .builtin .clear=>true
   | _=>false)
 | _=>false
def xz (P:Program) (ops:List Oper) (late Pr:List Nat):PlanZ→Nat→(Env→Heap→Prop)→Env→Heap→Prop
 | .done,_,K,E,H=>K E H
 | .first i s,k,K,E,H=>(match onth ops i with
   | some o=>(match gpd ops E o.guard with
     | some p=>xo P k o p E H (xz P ops late Pr s (k+1) K)
     | none=>False)
   | none=>False)
 | .firstZ i s,k,K,E,H=>(match onth ops i with
   | some o=>(match gpd ops E o.guard with
     | some p=>zval P Pr o p E=true∧xo P k o p E H (xz P ops late Pr s (k+1) K)
     | none=>False)
   | none=>False)
 | .one i s,k,K,E,H=>(match onth ops i with
   | some o=>(match gpd ops E o.guard with
     | some p=>(match mem i late with
       | true=>xo P k o p E (oe Pr H) (fun _ _=>True)∧xo P k o p E H (fun E' H'=>jh Pr H'∧xz P ops late Pr s (k+1) K E' H')
       | false=>xe P k o p E H (fun E' H'=>jh Pr H'∧xz P ops late Pr s (k+1) K E' H'))
     | none=>False)
   | none=>False)
 | .alt i s t,k,K,E,H=>(match onth ops i with
   | some o=>(match gpd ops E o.guard with
     | some p=>(match mem i late with
       | true=>xo P k o p E (oe Pr H) (fun _ _=>True)∧xo P k o p E H (fun E' H'=>jh Pr H'∧xz P ops late Pr s (k+1) K E' H')
       | false=>xe P k o p E H (fun E' H'=>jh Pr H'∧xz P ops late Pr s (k+1) K E' H'))
     | none=>False)
   | none=>False)∧xz P ops late Pr t k K E H
def kw (md:Region.Mode) (ops:Array Oper) (late:List Nat):PlanZ→List Nat→Nat→Array Bool→Bool
 | .done,rs,_,L=>rs.isEmpty && (Region.ready md ops L).isEmpty
 | .first i s,rs,n+1,L=>(match ops[i]? with
   | some o=>fl o && Region.free md ops L i && (Region.ready md ops L).contains i && (late.all fun j=>L.getD j false || anc md ops ops.size i j) && rs == Region.ready md ops L &&
     kw md ops late s (Region.ready md ops (L.setIfInBounds i true)) n (L.setIfInBounds i true)
   | none=>false)
 | .firstZ i s,rs,n+1,L=>(match ops[i]? with
   | some o=>fl o && Region.free md ops L i && (Region.ready md ops L).contains i && !mem i late && rs == Region.ready md ops L &&
     kw md ops late s (Region.ready md ops (L.setIfInBounds i true)) n (L.setIfInBounds i true)
   | none=>false)
 | .one i s,rs,n+1,L=>rs == [i] && kw md ops late s (Region.ready md ops (L.setIfInBounds i true)) n (L.setIfInBounds i true)
 | .alt i s t,rs,n+1,L=>(match rs with
   | j::k::rs=>i == j && kw md ops late s (Region.ready md ops (L.setIfInBounds i true)) n (L.setIfInBounds i true) && (!PlanZ.isFirst t && kw md ops late t (k::rs) (n+1) L)
   | _=>false)
 | _,_,0,_=>false
def zyd (ops:Array Oper) (late:List Nat):Bool:=late.all fun i=>match ops[i]? with|some o=>zhw o|none=>true
section
variable {P:Program} {F:Fr} {c:Ctx} {E:Env} {H:Heap} {a:Act} {X:Nat→Bool} {k:Nat} {p:Path} {o:Oper} {K:Env→Heap→Prop} {Q:Exit→Act→World→Prop} {Pr:List Nat}
theorem zup {n1 n2:Act→World→Prop} {r:Result Next} (hv:∀ n w',r = .ok n w'→(∃ v,n = .value v)∨n = .skip) (h1:o.upon P a n1 Q r) (h2:o.upon P a n2 Q r):o.upon P a (fun a w=>n1 a w∧n2 a w) Q r:=by
 cases r with
 | ok n w' =>
   rcases hv n w' rfl with ⟨v,rfl⟩|rfl
   ·exact⟨h1,h2⟩
   ·exact⟨h1,h2⟩
 | halt h w' =>
   cases h with
   | panic v=>exact h1
   | _=>exact h1.elim
theorem ut {s:Sem Value} {w:World}:∀ n w',(do pure (Next.value (← s)):Sem Next).run P w = .ok n w'→(∃ v,n = .value v)∨n = .skip:=by
 intro n w' h
 rw[Sem.run_bind] at h
 cases hs:s.run P w with
 | ok v w2 =>
   rw[hs] at h
   simp at h
   exact .inl ⟨v,h.1.symm⟩
 | halt x w2=>rw[hs] at h;cases h
theorem zbl {s:Sem Unit} {w:World}:∀ n w',(do s;pure Next.skip:Sem Next).run P w = .ok n w'→(∃ v,n = .value v)∨n = .skip:=by
 intro n w' h
 rw[Sem.run_bind] at h
 cases hs:s.run P w with
 | ok v w2 =>
   rw[hs] at h
   simp at h
   exact .inr h.1.symm
 | halt x w2=>rw[hs] at h;cases h
theorem zmj (h:zhw o=true) {w:World}:∀ n w',(execOp a.eval o).run P w = .ok n w'→(∃ v,n = .value v)∨n = .skip:=by
 unfold zhw at h
 split at h
 ·rename_i T x y ho
  rw[show execOp a.eval o=(do Instr.storeAt T (a.eval x) (a.eval y);pure Next.skip) from by simp[execOp,ho]]
  exact zbl
 ·rename_i T m x y ho
  rw[show execOp a.eval o=(do Instr.mapUpdate T (a.eval m) (a.eval x) (a.eval y);pure Next.skip) from by simp[execOp,ho]]
  exact zbl
 ·rename_i cl ho
  split at h
  ·rename_i hb
   rw[show execOp a.eval o=(do pure (Next.value (← Builtin.append_ cl.argTypes o.type (cl.args.map a.eval)))) from by simp[execOp,ho,resolve,hb,invoke,builtin]]
   exact ut
  ·rename_i hb
   rw[show execOp a.eval o=(do pure (Next.value (← Builtin.delete_ cl.argTypes o.type (cl.args.map a.eval)))) from by simp[execOp,ho,resolve,hb,invoke,builtin]]
   exact ut
  ·rename_i hb
   rw[show execOp a.eval o=(do pure (Next.value (← Builtin.copy_ cl.argTypes o.type (cl.args.map a.eval)))) from by simp[execOp,ho,resolve,hb,invoke,builtin]]
   exact ut
  ·rename_i hb
   rw[show execOp a.eval o=(do pure (Next.value (← Builtin.clear_ cl.argTypes o.type (cl.args.map a.eval)))) from by simp[execOp,ho,resolve,hb,invoke,builtin]]
   exact ut
  ·cases h
 ·cases h
theorem zgo (hs:St F c E H a X k) (hd:∀ x,o.dst=some x→x<F.nt) (hp:KP X k p) {v:V} {u:Value} (h1:pc p→VR c v u) (h2:¬ pc p→u=undef):∃ X',St F c (put E o.dst (k+1) p v) H (a.put o.dst u) X' (k+1):=by
 obtain⟨X',hX⟩:=zxt (v:=v) hs.ki (d:=o.dst) hp
 exact⟨X',hs.sr,zxk hs.er (fun x hx=>by rw[hs.ao.size];exact hd x hx) h1 h2,hX,hs.ao.put _ _⟩
def Fr.at (F:Fr) (c:Ctx):Fr:=⟨c,fun k=>Wr F k,F.nt,F.ro,F.ds⟩
theorem SR.at (hs:SR F c H):SR (F.at c) c H :=
 ⟨⟨rfl,rfl,rfl,Nat.le_refl _,fun _ _ _=>rfl⟩,Le.refl _,hs.len,fun r b l hr hl=>by
  have:=hs.blk r b l hr hl
  cases l with
  | none=>exact this
  | some l =>
    intro hL
    obtain⟨O,h1,h2,h3,h4⟩:=this hL
    exact⟨O,h1,h2,h3,.inr h4⟩,hs.inj,hs.imm,fun b h=>.inl h⟩
theorem SR.un {c':Ctx} {H':Heap} (hs:SR F c H) (h:SR (F.at c) c' H'):SR F c' H'∧Le c c':=by
 refine⟨⟨⟨h.fr.os.trans hs.fr.os,h.fr.tape.trans hs.fr.tape,h.fr.output.trans hs.fr.output,Nat.le_trans hs.fr.size h.fr.size,fun k hk hx=>?_⟩,hs.le.trans h.le,h.len,fun r b l hr hl=>?_,h.inj,h.imm,fun b hb=>?_⟩,h.le⟩
 ·have h1:c'.w.heap[k]? = c.w.heap[k]?:=h.fr.block k (Nat.lt_of_lt_of_le hk hs.fr.size) (by
   rintro (h1|h1)
   ·omega
   ·exact hx h1)
  rw[h1]
  exact hs.fr.block k hk hx
 ·have:=h.blk r b l hr hl
  cases l with
  | none=>exact this
  | some l =>
    intro hL
    obtain⟨O,h1,h2,h3,h4⟩:=this hL
    refine⟨O,h1,h2,h3, ?_⟩
    rcases h4 with h4|h4
    ·exact .inl (Nat.le_trans hs.fr.size h4)
    ·exact h4
 ·rcases h.old b hb with h1|h1
  ·exact hs.old b h1
  ·exact .inr (Nat.le_trans hs.fr.size h1)
theorem mf:∀ (Pr:List Nat) (H:Heap) (r:Nat) (x:Blk),(oe Pr H)[r]? = some x→x = .dead∨(H[r]? = some x∧r ∉ Pr)
 | [],H,r,x,h=>.inr ⟨h,by simp⟩
 | q::Pr,H,r,x,h=>by
   rcases mf Pr (hset H q .dead) r x h with h1 | ⟨h1,h2⟩
   ·exact .inl h1
   ·rw[ju] at h1
    split at h1
    ·cases h1;exact .inl rfl
    ·rename_i hne
     by_cases hrq:r=q
     ·subst hrq
      have:H[r]? = none:=by
       rw[List.getElem?_eq_none_iff]
       exact Nat.le_of_not_lt fun h=>hne ⟨rfl,h⟩
      rw[this] at h1
      cases h1
     ·exact .inr ⟨h1,by simp[hrq,h2]⟩
theorem tu:∀ (Pr:List Nat) (H:Heap),(oe Pr H).length=H.length
 | [],H=>rfl
 | q::Pr,H=>by rw[oe,tu Pr,dw]
theorem ve:∀ {Pr:List Nat} {H:Heap},jh Pr H→∀ r∈Pr,∃ x,H[r]? = some x∧Live x
 | q::Pr,H,h,r,hr=>by
   rcases List.mem_cons.1 hr with rfl|hr
   ·have h1:=h.1
    cases hx:hget H r with
    | dead=>rw[hx] at h1;exact h1.elim
    | box cs=>exact⟨_,eh hx trivial,trivial⟩
    | arr e n f=>exact⟨_,eh hx trivial,trivial⟩
    | mp es=>exact⟨_,eh hx trivial,trivial⟩
   ·exact ve h.2 r hr
def Fr.kl (F:Fr) (c:Ctx) (H:Heap) (Pr:List Nat):Fr:=⟨c,fun k=>∃ (r m:Nat) (x:Blk),(oe Pr H)[r]? = some x∧Live x∧c.locs[r]? = some (some (k,m)),F.nt,F.ro,F.ds⟩
theorem SR.kl (hs:SR F c H) (Pr:List Nat):SR (F.kl c H Pr) c (oe Pr H):=by
 refine⟨⟨rfl,rfl,rfl,Nat.le_refl _,fun _ _ _=>rfl⟩,Le.refl _,by rw[tu];exact hs.len,fun r b l hr hl=>?_,fun r r' x x' b m m' hr hr' hx hx' hl hl'=>?_,hs.imm,fun b h=>.inl h⟩
 ·rcases mf Pr H r b hr with rfl | ⟨h1,h2⟩
  ·cases l with
   | none=>trivial
   | some l=>exact fun h=>h.elim
  ·have:=hs.blk r b l h1 hl
   cases l with
   | none=>exact this
   | some l =>
     intro hL
     obtain⟨O,g1,g2,g3,g4⟩:=this hL
     exact⟨O,g1,g2,g3,.inr ⟨r,l.2,b,hr,hL,hl⟩⟩
 ·rcases mf Pr H r x hr with rfl | ⟨h1,_⟩
  ·exact hx.elim
  ·rcases mf Pr H r' x' hr' with rfl | ⟨h1',_⟩
   ·exact hx'.elim
   ·exact hs.inj r r' x x' b m m' h1 h1' hx hx' hl hl'
theorem Zc_lt (hs:SR F c H) (ha:jh Pr H) {k:Nat} (h:Zc Pr c k):k<c.w.heap.size:=by
 rcases h with h | ⟨r,hr,m,hl⟩
 ·exact hs.imm k h
 ·obtain⟨x,hx,hL⟩:=ve ha r hr
  obtain⟨O,h1,_⟩:=hs.blk r x _ hx hl hL
  exact (Array.getElem?_eq_some_iff.1 h1).1
theorem Zc_kl (hs:SR F c H) (ha:jh Pr H) {w':World} (h:FR (F.kl c H Pr) w'):Kp (Zc Pr c) c.w w':=by
 intro k hk
 refine h.block k (Zc_lt hs ha hk) ?_
 rintro⟨r',m',x',g1,g2,g3⟩
 rcases mf Pr H r' x' g1 with rfl | ⟨g4,g5⟩
 ·exact g2
 ·rcases hk with hk | ⟨r,hr,m,hl⟩
  ·obtain⟨O,h1,h2,h3,h4⟩:=hs.blk r' x' _ g4 g3 g2
   exact h3 hk
  ·obtain⟨x,hx,hL⟩:=ve ha r hr
   have:=hs.inj r r' x x' k m m' hx g4 hL g2 hl g3
   subst this
   exact g5 hr
theorem Zc_ext (hs:SR F c H) (ha:jh Pr H) {w':World} (h:c.w.Extends w'):Kp (Zc Pr c) c.w w':=fun k hk=>h.block k (Zc_lt hs ha hk)
theorem Zc_le {c':Ctx} (h:Le c c') (k:Nat) (hk:Zc Pr c k):Zc Pr c' k:=by
 rcases hk with hk | ⟨r,hr,m,hl⟩
 ·exact .inl (h.I k hk)
 ·exact .inr ⟨r,hr,m,h.locs r _ hl⟩
theorem St.at (hs:St F c E H a X k):St (F.at c) c E H a X k:=⟨hs.sr.at,hs.er,hs.ki,⟨hs.ao.defers,hs.ao.size⟩⟩
theorem St.kl (hs:St F c E H a X k) (Pr:List Nat):St (F.kl c H Pr) c E (oe Pr H) a X k:=⟨hs.sr.kl Pr,hs.er,hs.ki,⟨hs.ao.defers,hs.ao.size⟩⟩
theorem St.un {c':Ctx} {E':Env} {H':Heap} {a':Act} {X':Nat→Bool} {k':Nat} (hs:St F c E H a X k) (h:St (F.at c) c' E' H' a' X' k'):St F c' E' H' a' X' k'∧Le c c' :=
 ⟨⟨(hs.sr.un h.sr).1,h.er,h.ki,⟨h.ao.defers,h.ao.size⟩⟩,(hs.sr.un h.sr).2⟩
end
section
variable {P:Program} {F:Fr} {Pr:List Nat}
theorem GF.in {c:Ctx} {H:Heap} (gt:GF P F) (hs:SR F c H) {F':Fr} (h0:F'.c0=c) (hX:∀ b,F'.X b→Wr F b):GF P F':=fun c' H' h=>by
 subst h0
 refine gt c' (H'.map fun _=>.dead) ⟨⟨h.fr.os.trans hs.fr.os,h.fr.tape.trans hs.fr.tape,h.fr.output.trans hs.fr.output,Nat.le_trans hs.fr.size h.fr.size,fun k hk hx=>?_⟩,hs.le.trans h.le,by simp[h.len],fun r b l hr hl=>?_,fun r r' x x' b m m' h1 h2 hl=>?_,h.imm,fun b hb=>?_⟩
 ·refine (h.fr.block k (Nat.lt_of_lt_of_le hk hs.fr.size) fun hh=>?_).trans (hs.fr.block k hk hx)
  rcases hX k hh with h1|h1
  ·omega
  ·exact hx h1
 ·simp only[List.getElem?_map,Option.map_eq_some_iff] at hr
  obtain⟨_,_,rfl⟩:=hr
  cases l with
  | none=>trivial
  | some l=>exact fun h=>h.elim
 ·simp only[List.getElem?_map,Option.map_eq_some_iff] at h1
  obtain⟨_,_,rfl⟩:=h1
  exact hl.elim
 ·rcases h.old b hb with h1|h1
  ·exact hs.old b h1
  ·exact .inr (Nat.le_trans hs.fr.size h1)
theorem Fr.kl_wr {c:Ctx} {H:Heap} (hs:SR F c H) (Pr:List Nat) (b:Nat) (h:(F.kl c H Pr).X b):Wr F b:=by
 obtain⟨r,m,x,h1,h2,h3⟩:=h
 rcases mf Pr H r x h1 with rfl | ⟨h4,_⟩
 ·exact h2.elim
 ·obtain⟨O,_,_,_,h5⟩:=hs.blk r x _ h4 h3 h2
  exact h5
theorem zsi (gt:GF P F) {ops:Array Oper} {late:List Nat} {KX:VM.X→Env→Heap→Prop} (hsel:Region.noSelect ops=true) (hnt:∀ o∈ops.toList,∀ x,o.dst=some x→x<F.nt) (hlate:zyd ops late=true) :
  ∀ (pl:PlanZ) (n:Nat) (L:Array Bool) (k:Nat) (c:Ctx) (E:Env) (H:Heap) (a:Act) (X:Nat→Bool),Closed .any ops L→St F c E H a X k→jh Pr H→xz P ops.toList late Pr pl k (KX .normal) E H →
   (kw .any ops late pl (Region.ready .any ops L) n L=true→ij P .any ops (df F KX) (fun i=>mem i late) (Zc Pr c) n L a c.w) ∧
   (∀ rs m,n=m+1→rs≠[]→rs ⊆ Region.ready .any ops L→pl.isFirst=false→kw .any ops late pl rs n L=true→∀ i∈rs,wpOp P ops (df F KX) i (fun a' w'=>(mem i late=false→c.w.Extends w')∧Kp (Zc Pr c) c.w w'∧∃ Z':Nat→Prop,(∀ k,Zc Pr c k→Z' k)∧ij P .any ops (df F KX) (fun i=>mem i late) Z' m (L.setIfInBounds i true) a' w') a c.w):=by
 have hto:ops.toList.toArray=ops:=by simp
 have step:∀ (s:PlanZ) (m:Nat) (L:Array Bool) (k:Nat) (c:Ctx) (E:Env) (H:Heap) (a:Act) (X:Nat→Bool) (i:Nat),
   (∀ (k:Nat) (c:Ctx) (E:Env) (H:Heap) (a:Act) (X:Nat→Bool),St F c E H a X k→jh Pr H→xz P ops.toList late Pr s k (KX .normal) E H→ij P .any ops (df F KX) (fun i=>mem i late) (Zc Pr c) m (L.setIfInBounds i true) a c.w) →
   St F c E H a X k→jh Pr H →
   (match onth ops.toList i with
   | some o=>(match gpd ops.toList E o.guard with
     | some p=>(match mem i late with
       | true=>xo P k o p E (oe Pr H) (fun _ _=>True)∧xo P k o p E H (fun E' H'=>jh Pr H'∧xz P ops.toList late Pr s (k+1) (KX .normal) E' H')
       | false=>xe P k o p E H (fun E' H'=>jh Pr H'∧xz P ops.toList late Pr s (k+1) (KX .normal) E' H'))
     | none=>False)
   | none=>False) →
   wpOp P ops (df F KX) i (fun a' w'=>(mem i late=false→c.w.Extends w')∧Kp (Zc Pr c) c.w w'∧∃ Z':Nat→Prop,(∀ k,Zc Pr c k→Z' k)∧ij P .any ops (df F KX) (fun i=>mem i late) Z' m (L.setIfInBounds i true) a' w') a c.w:=by
  intro s m L k c E H a X i ih hs ha h
  split at h
  case h_2=>exact h.elim
  rename_i o ho
  split at h
  case h_2=>exact h.elim
  rename_i p hg
  have ho':ops[i]? = some o:=by rw[ga] at ho;simpa using ho
  have hmem:o∈ops.toList:=by
   rw[ga] at ho
   exact List.mem_of_getElem? ho
  obtain⟨hp,hw⟩:=wz hs.er hs.ki rfl hg
  rw[hto] at hw
  have nx:∀ a' w',Nx (F.at c) (k+1) (fun E' H'=>jh Pr H'∧xz P ops.toList late Pr s (k+1) (KX .normal) E' H') a' w' →
    ∃ Z':Nat→Prop,(∀ k,Zc Pr c k→Z' k)∧ij P .any ops (df F KX) (fun i=>mem i late) Z' m (L.setIfInBounds i true) a' w':=by
   rintro a' w' ⟨c',E',H',X',rfl,hs',hal,hk⟩
   obtain⟨g1,g2⟩:=hs.un hs'
   exact⟨Zc Pr c',Zc_le g2,ih (k+1) c' E' H' a' X' g1 hal hk⟩
  unfold wpOp
  simp only[ho']
  split at h
  ·rename_i hl
   have hlo:zhw o=true:=by
    have:=List.all_eq_true.1 hlate i (mem_true.1 hl)
    rw[ho'] at this
    exact this
   have hok:=nk (Q:=df F KX) (gt.in hs.sr rfl fun _ h=>h) hs.at (hnt o hmem) hp h.2
   have hok2:=nk (Q:=df F KX) (gt.in hs.sr rfl (Fr.kl_wr hs.sr Pr)) (hs.kl Pr) (hnt o hmem) hp h.1
   by_cases hpc:pc p
   ·rw[if_pos (hw.2 hpc)]
    have hboth:=zup (zmj hlo (P:=P)) (hok.1 hpc) (hok2.1 hpc)
    refine .inl (Oper.wp_mono (fun a w h=>⟨fun h'=>(by rw[hl] at h';cases h'), ?_,nx a w h.1⟩) hboth)
    obtain⟨c2,E2,H2,X2,rfl,hs2,_⟩:=h.2
    exact Zc_kl hs.sr ha hs2.sr.fr
   ·rw[if_neg (fun h=>hpc (hw.1 h))]
    exact⟨fun _=>.refl _,.refl _ _,nx _ _ (hok.2 hpc)⟩
  ·have hok:=zat (Q:=df F KX) (gt.in hs.sr rfl fun _ h=>h) hs.at (hnt o hmem) hp h
   by_cases hpc:pc p
   ·rw[if_pos (hw.2 hpc)]
    exact .inl (Oper.wp_mono (fun a w h=>⟨fun _=>h.1,Zc_ext hs.sr ha h.1,nx a w h.2⟩) (hok.1 hpc))
   ·rw[if_neg (fun h=>hpc (hw.1 h))]
    exact⟨fun _=>.refl _,.refl _ _,nx _ _ (hok.2 hpc)⟩
 intro pl
 induction pl with
 | done =>
   intro n L k c E H a X hcl hs ha h
   refine⟨fun hB=>?_,fun rs m hn hne hsub _ hB=>?_⟩
   ·simp only[kw,Bool.and_eq_true,List.isEmpty_iff] at hB
    exact zgc hB.2 ⟨c,E,H,rfl,hs.sr,hs.er,hs.ao,h⟩ n
   ·simp only[kw,Bool.and_eq_true,List.isEmpty_iff] at hB
    exact absurd hB.1 hne
 | first i s ih =>
   intro n L k c E H a X hcl hs ha h
   refine⟨fun hB=>?_,fun rs m hn hne hsub hnf hB=>by cases hnf⟩
   cases n with
   | zero=>simp[kw] at hB
   | succ n =>
     simp only[kw] at hB
     split at hB
     case h_2=>cases hB
     rename_i o ho
     simp only[Bool.and_eq_true,List.all_eq_true,Bool.or_eq_true,List.contains_iff_mem,Bool.not_eq_true'] at hB
     obtain⟨⟨⟨⟨⟨b1,b2⟩,b3⟩,b4⟩,b5⟩,b6⟩:=hB
     simp only[xz] at h
     split at h
     case h_2=>exact h.elim
     rename_i o' ho'
     have:ops[i]? = some o':=by rw[ga] at ho';simpa using ho'
     obtain rfl:o=o':=Option.some.inj (ho.symm.trans this)
     split at h
     case h_2=>exact h.elim
     rename_i p hg
     have hmem:o∈ops.toList:=by
      rw[ga] at ho'
      exact List.mem_of_getElem? ho'
     obtain⟨hp,hw⟩:=wz hs.er hs.ki rfl hg
     rw[hto] at hw
     obtain⟨v,hK,hv⟩:=zap hs hp b1 h
     have hr:i∈Region.ready .any ops L:=b3
     have go:∀ u:Value,YieldsIf P ops c.w.Extends o u a→(∃ X',St F c (put E o.dst (k+1) p v) H (a.put o.dst u) X' (k+1))→ij P .any ops (df F KX) (fun i=>mem i late) (Zc Pr c) (n+1) L a c.w:=by
      rintro u hy ⟨X',hs'⟩
      have:=(ih n (L.setIfInBounds i true) (k+1) c _ H (a.put o.dst u) X' (hcl.set hr) hs' ha hK).1 b6
      exact zcr (N:=ops.size) ho (Region.noSelect_spec hsel) (fun _ _ _ h=>h.elim) n (Zc Pr c) L a c.w hcl (Region.free_spec ho b2) (fun j hj=>b4 j (mem_true.1 hj)) hr hy this
     by_cases hpc:pc p
     ·obtain⟨u,hu,hvu⟩:=hv hpc
      exact go u (.inl ⟨hw.2 hpc,hu⟩) (zgo hs (hnt o hmem) hp (fun _=>hvu) (fun h=>absurd hpc h))
     ·exact go undef (.inr ⟨by simpa using fun h=>hpc (hw.1 h),rfl⟩) (zgo hs (hnt o hmem) hp (fun h=>absurd h hpc) (fun _=>rfl))
 | firstZ i s ih =>
   intro n L k c E H a X hcl hs ha h
   refine⟨fun hB=>?_,fun rs m hn hne hsub hnf hB=>by cases hnf⟩
   cases n with
   | zero=>simp[kw] at hB
   | succ n =>
     simp only[kw] at hB
     split at hB
     case h_2=>cases hB
     rename_i o ho
     simp only[Bool.and_eq_true,List.contains_iff_mem,Bool.not_eq_true'] at hB
     obtain⟨⟨⟨⟨⟨b1,b2⟩,b3⟩,b4⟩,b5⟩,b6⟩:=hB
     simp only[xz] at h
     split at h
     case h_2=>exact h.elim
     rename_i o' ho'
     have:ops[i]? = some o':=by rw[ga] at ho';simpa using ho'
     obtain rfl:o=o':=Option.some.inj (ho.symm.trans this)
     split at h
     case h_2=>exact h.elim
     rename_i p hg
     have hmem:o∈ops.toList:=by
      rw[ga] at ho'
      exact List.mem_of_getElem? ho'
     obtain⟨hp,hw⟩:=wz hs.er hs.ki rfl hg
     rw[hto] at hw
     obtain⟨v,hK,hv⟩:=zpj hs hp b1 h.1 h.2
     have hr:i∈Region.ready .any ops L:=b3
     have go:∀ u:Value,YieldsIf P ops (Kp (Zc Pr c) c.w) o u a→(∃ X',St F c (put E o.dst (k+1) p v) H (a.put o.dst u) X' (k+1))→ij P .any ops (df F KX) (fun i=>mem i late) (Zc Pr c) (n+1) L a c.w:=by
      rintro u hy ⟨X',hs'⟩
      have:=(ih n (L.setIfInBounds i true) (k+1) c _ H (a.put o.dst u) X' (hcl.set hr) hs' ha hK).1 b6
      exact zam ho (Region.noSelect_spec hsel) (fun _ _ _ h=>h.elim) n (Zc Pr c) L a c.w hcl (Region.free_spec ho b2) b4 hr hy this
     by_cases hpc:pc p
     ·obtain⟨u,hu,hvu⟩:=hv hpc
      exact go u (.inl ⟨hw.2 hpc,hu⟩) (zgo hs (hnt o hmem) hp (fun _=>hvu) (fun h=>absurd hpc h))
     ·exact go undef (.inr ⟨by simpa using fun h=>hpc (hw.1 h),rfl⟩) (zgo hs (hnt o hmem) hp (fun h=>absurd h hpc) (fun _=>rfl))
 | one i s ih =>
   intro n L k c E H a X hcl hs ha h
   have key:∀ rs m,n=m+1→rs ⊆ Region.ready .any ops L→kw .any ops late (.one i s) rs n L=true→∀ j∈rs,wpOp P ops (df F KX) j (fun a' w'=>(mem j late=false→c.w.Extends w')∧Kp (Zc Pr c) c.w w'∧∃ Z':Nat→Prop,(∀ k,Zc Pr c k→Z' k)∧ij P .any ops (df F KX) (fun i=>mem i late) Z' m (L.setIfInBounds j true) a' w') a c.w:=by
    rintro rs m rfl hsub hB j hj
    simp only[kw,Bool.and_eq_true,beq_iff_eq] at hB
    obtain⟨rfl,b2⟩:=hB
    obtain rfl:j=i:=by simpa using hj
    exact step s m L k c E H a X j (fun k' c' E' H' a' X' hs' ha' hk=>(ih m _ k' c' E' H' a' X' (hcl.set (hsub hj)) hs' ha' hk).1 b2) hs ha h
   refine⟨fun hB=>?_,fun rs m hn hne hsub _ hB=>key rs m hn hsub hB⟩
   cases n with
   | zero=>simp[kw] at hB
   | succ n =>
     have hne:Region.ready .any ops L≠[]:=by
      intro h0
      rw[h0] at hB
      simp[kw] at hB
     exact yk rfl hne (key _ n rfl (fun _ h=>h) hB)
 | alt i s t ihs iht =>
   intro n L k c E H a X hcl hs ha h
   have key:∀ rs m,n=m+1→rs ⊆ Region.ready .any ops L→kw .any ops late (.alt i s t) rs n L=true→∀ j∈rs,wpOp P ops (df F KX) j (fun a' w'=>(mem j late=false→c.w.Extends w')∧Kp (Zc Pr c) c.w w'∧∃ Z':Nat→Prop,(∀ k,Zc Pr c k→Z' k)∧ij P .any ops (df F KX) (fun i=>mem i late) Z' m (L.setIfInBounds j true) a' w') a c.w:=by
    rintro rs m rfl hsub hB j hj
    simp only[kw] at hB
    split at hB
    case h_2=>cases hB
    rename_i j1 j2 rs
    simp only[Bool.and_eq_true,beq_iff_eq,Bool.not_eq_true'] at hB
    obtain⟨⟨rfl,b2⟩,b3⟩:=hB
    rcases List.mem_cons.1 hj with rfl|hj
    ·exact step s m L k c E H a X j (fun k' c' E' H' a' X' hs' ha' hk=>(ihs m _ k' c' E' H' a' X' (hcl.set (hsub (.head _))) hs' ha' hk).1 b2) hs ha h.1
    ·exact (iht (m+1) L k c E H a X hcl hs ha h.2).2 _ m rfl (by simp) (fun x hx=>hsub (.tail _ hx)) b3.1 b3.2 j hj
   refine⟨fun hB=>?_,fun rs m hn hne hsub _ hB=>key rs m hn hsub hB⟩
   cases n with
   | zero=>simp[kw] at hB
   | succ n =>
     have hne:Region.ready .any ops L≠[]:=by
      intro h0
      rw[h0] at hB
      simp[kw] at hB
     exact yk rfl hne (key _ n rfl (fun _ h=>h) hB)
theorem jd {n id:Nat} {ops:Array Oper} {E:Env} {H:Heap} {K:VM.X→Env→Heap→Prop} (hm:P.follows .mixedOrders=true) (Pr late:List Nat) (pl:PlanZ)
  (hB:(Region.noSelect ops && (zyd ops late && kw .any ops late pl (Region.ready .any ops (Array.replicate ops.size false)) ops.size (Array.replicate ops.size false)))=true)
  (h:jh Pr H∧xz P ops.toList late Pr pl 0 (K .normal) (gl E) H):cx P n (.region id ops true) E H K:=by
 intro F c a hn hs he ha hok
 simp only[Bool.and_eq_true] at hB
 obtain⟨hs',hle⟩:=hs.drew
 have hcl:Closed .any ops (Array.replicate ops.size false):=⟨by simp,fun j oj hj hl=>by
  have:(Array.replicate ops.size false).getD j false=false:=by
   rcases Nat.lt_or_ge j ops.size with h|h
   ·simp[h]
   ·simp[h]
  rw[this] at hl
  cases hl⟩
 have:=(zsi (F:=F) (KX:=K) hn.gt hB.1 (mr hok) hB.2.1 pl ops.size (Array.replicate ops.size false) 0 { c with w:=c.w.drew } (gl E) H a _ hcl ⟨hs',lh (fy hle he),lc E,ha⟩ h.1 h.2).1 hB.2.2
 exact wpIn_mono (oz hm og (pd hok) (zg _ _ _ _ _ this)) fun _ _ _=>ou
end
end Go.VM
end
section
namespace Go.VM
section
variable {P:Program} {ops:List Oper} {k i:Nat} {o:Oper} {os:List Oper} {K:Env→Heap→Prop} {E E':Env} {H H':Heap} {p p':Path} {late Pr:List Nat} {s t:PlanZ}
def kA (Pr:List Nat) (K:Env→Heap→Prop) (E:Env) (H:Heap):Prop:=jh Pr H∧K E H
def kT (E:Env) (H:Heap):Prop:=True
theorem kA_eq:kA Pr K E H=(jh Pr H∧K E H):=nr rfl
theorem kT_eq:kT E H=True:=nr rfl
@[congr] theorem kA_congr (h1:E=E') (h2:H=H'):kA Pr K E H=kA Pr K E' H':=by rw[h1,h2]
@[congr] theorem xz_congr (h1:E=E') (h2:H=H'):xz P ops late Pr s k K E H=xz P ops late Pr s k K E' H':=by rw[h1,h2]
def xpz (P:Program) (ops:List Oper) (Pr:List Nat) (late:Bool) (i k:Nat) (o:Option Oper) (E:Env) (H:Heap) (K:Env→Heap→Prop):Prop :=
 match o with
 | some o=>xg (gpd ops E o.guard) fun p=>(match late with
   | true=>xo P k o p E (oe Pr H) kT∧xo P k o p E H (kA Pr K)
   | false=>xe P k o p E H (kA Pr K))
 | none=>False
def xpf (P:Program) (ops:List Oper) (Pr:List Nat) (i k:Nat) (o:Option Oper) (E:Env) (H:Heap) (K:Env→Heap→Prop):Prop :=
 match o with
 | some o=>xg (gpd ops E o.guard) fun p=>zval P Pr o p E=true∧xo P k o p E H K
 | none=>False
@[congr] theorem xpz_congr {l l':Bool} {q q':Option Oper} (h:l=l') (h':q=q'):xpz P ops Pr l i k q E H K=xpz P ops Pr l' i k q' E H K:=by rw[h,h']
@[congr] theorem xpf_congr {q q':Option Oper} (h':q=q'):xpf P ops Pr i k q E H K=xpf P ops Pr i k q' E H K:=by rw[h']
theorem ztz:xpz P ops Pr true i k (some o) E H K=xg (gpd ops E o.guard) fun p=>xo P k o p E (oe Pr H) kT∧xo P k o p E H (kA Pr K):=nr rfl
theorem zno:xpz P ops Pr false i k (some o) E H K=xg (gpd ops E o.guard) fun p=>xe P k o p E H (kA Pr K):=nr rfl
theorem zwy:xpf P ops Pr i k (some o) E H K=xg (gpd ops E o.guard) fun p=>zval P Pr o p E=true∧xo P k o p E H K:=nr rfl
theorem z4e:xz P ops late Pr .done k K E H=K E H:=nr rfl
theorem zua:xz P ops late Pr (.first i s) k K E H=xp P ops true i k (onth ops i) E H (xz P ops late Pr s (k+1) K):=nr (by
 unfold xp xg;conv=>lhs;unfold xz
 all_goals (cases onth ops i<;>rfl))
theorem zli:xz P ops late Pr (.firstZ i s) k K E H=xpf P ops Pr i k (onth ops i) E H (xz P ops late Pr s (k+1) K):=nr (by
 unfold xpf xg;conv=>lhs;unfold xz
 all_goals (cases onth ops i<;>rfl))
theorem xz_one:xz P ops late Pr (.one i s) k K E H=xpz P ops Pr (mem i late) i k (onth ops i) E H (xz P ops late Pr s (k+1) K):=nr (by
 unfold xpz xg;conv=>lhs;unfold xz
 all_goals (cases onth ops i<;>rfl))
theorem xz_alt:xz P ops late Pr (.alt i s t) k K E H=(xpz P ops Pr (mem i late) i k (onth ops i) E H (xz P ops late Pr s (k+1) K)∧xz P ops late Pr t k K E H):=nr (by
 unfold xpz xg;conv=>lhs;unfold xz
 all_goals (cases onth ops i<;>rfl))
variable {d:Option Nat} {ty:TypeId} {pos:String} {aft:Array Edge} {g:Option (Nat × Bool)}
theorem z0w {x}:zval P Pr ⟨d,.move x,ty,pos,aft,g⟩ p E=true:=nq rfl
theorem zog {x}:zval P Pr ⟨d,.assign x,ty,pos,aft,g⟩ p E=true:=nq rfl
theorem z3f {x y z}:zval P Pr ⟨d,.pick x y z,ty,pos,aft,g⟩ p E=true:=nq rfl
theorem zvf {b T x y u}:zval P Pr ⟨d,.binOp b T x y u,ty,pos,aft,g⟩ p E=true:=nq rfl
theorem zys {b T x}:zval P Pr ⟨d,.unOp b T x,ty,pos,aft,g⟩ p E=true:=nq rfl
theorem zjt {x j}:zval P Pr ⟨d,.extract x j,ty,pos,aft,g⟩ p E=true:=nq rfl
theorem zfv {x}:zval P Pr ⟨d,.nilCheck x,ty,pos,aft,g⟩ p E=true:=nq rfl
theorem zcq {T x f}:zval P Pr ⟨d,.fieldAddr T x f,ty,pos,aft,g⟩ p E=true:=nq rfl
theorem zwm {T x f}:zval P Pr ⟨d,.index T x f,ty,pos,aft,g⟩ p E=true:=nq rfl
theorem zct {T x f}:zval P Pr ⟨d,.indexAddr T x f,ty,pos,aft,g⟩ p E=true:=nq rfl
theorem zrh {T x l h m}:zval P Pr ⟨d,.slice T x l h m,ty,pos,aft,g⟩ p E=true:=nq rfl
theorem ztg {T x f}:zval P Pr ⟨d,.field T x f,ty,pos,aft,g⟩ p E=true:=nq rfl
theorem zuv {T x}:zval P Pr ⟨d,.build T x,ty,pos,aft,g⟩ p E=true:=nq rfl
theorem z3l {T x}:zval P Pr ⟨d,.load T x,ty,pos,aft,g⟩ p E=ldOk Pr (ev E p x):=nq rfl
def zT (b:Bool):Bool:=match b with|true=>false|false=>true
theorem zkw {S D x}:zval P Pr ⟨d,.convert S D x,ty,pos,aft,g⟩ p E=zT (uh P S):=nq (by unfold zval zT;rfl)
theorem zwt:zT false=true:=nq rfl
theorem ld_ptr {r off:Nat}:ldOk Pr (.ptr r off)=mem r Pr:=nq rfl
theorem zzd {r e j off:Nat}:ldOk Pr (.eptr r e j off)=mem r Pr:=nq rfl
theorem z1k {cs:List V} {off:Nat}:ldOk Pr (.iptr cs off)=true:=nq rfl
def zL (vs:List V):Bool:=match vs with | [.mp _]=>false|_=>true
theorem z0a {c:Call}:zval P Pr ⟨d,.call c,ty,pos,aft,g⟩ p E=zL (evs E p c.args.toList):=nq (by unfold zval zL;rfl)
theorem zL_str {x}:zL [.str x]=true:=nq rfl
theorem zL_lst {a b c e f}:zL [.lst a b c e f]=true:=nq rfl
theorem zL_own {a b c e f h}:zL [.own a b c e f h]=true:=nq rfl
theorem zL_nil:zL [.nil]=true:=nq rfl
def lvB (b:Blk):Prop:=match b with | .dead=>False|_=>True
theorem z2j {cs}:lvB (.box cs)=True:=nr rfl
theorem z3r {e n f}:lvB (.arr e n f)=True:=nr rfl
theorem lvB_mp {es}:lvB (.mp es)=True:=nr rfl
theorem zla:jh [] H=True:=nr rfl
theorem zjd {r:Nat} {l:List Nat}:jh (r::l) H=(lvB (hget H r)∧jh l H):=nr (by
 unfold lvB
 conv=>lhs;unfold jh
 all_goals (cases hget H r<;>rfl))
end
attribute [go_sem] kA_eq kT_eq ztz zno zwy z4e zua zli xz_one xz_alt z0w zog z3f zvf zys zjt zfv zcq zwm zct zrh ztg zuv z3l zkw zwt ld_ptr zzd z1k z0a zL_str zL_lst zL_own zL_nil z2j z3r lvB_mp zla zjd oe
end Go.VM
end
