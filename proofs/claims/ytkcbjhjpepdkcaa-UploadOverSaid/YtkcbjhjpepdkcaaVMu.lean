import Derived.Test.YtkcbjhjpepdkcaaVMt
set_option linter.unusedVariables false
set_option linter.unusedSimpArgs false
set_option linter.unnecessarySimpa false
namespace Go.VM
/-- what reads only -/
def stillOp (o : Oper) : Bool :=
  match o.op with
  | .move _ | .assign _ | .pick _ _ _ | .binOp _ _ _ _ _ | .unOp _ _ _ | .extract _ _ | .nilCheck _ | .fieldAddr _ _ _ | .index _ _ _ | .indexAddr _ _ _ | .load _ _ | .slice _ _ _ _ _ | .convert _ _ _ | .field _ _ _ | .build _ _ => true
  | .call c => (match c.callee with | .builtin .len => true | _ => false)
  | _ => false
theorem bin_pin {op : BinOp} {K : TK} {x y z : V} (h : (bin op K x y).has z) : pinB z = true := by
  unfold bin at h
  have fin : ∀ {r : R}, r.has z → (∀ v, r = .ok v → pinB v = true) → (∀ q v, r = .chk q v → pinB v = true) → pinB z = true := by
    intro r h h1 h2
    cases r with
    | no => exact h.elim
    | ok v => simp only [R.has] at h; subst h; exact h1 _ rfl
    | chk q v => obtain ⟨_, rfl⟩ := h; exact h2 _ _ rfl
  refine fin h ?_ ?_
  · intro v hv
    simp only [cond_eq_ite] at hv
    repeat' split at hv
    all_goals first
      | (cases hv; rfl)
      | cases hv
  · intro q v hv
    simp only [cond_eq_ite] at hv
    repeat' split at hv
    all_goals first
      | (cases hv; rfl)
      | cases hv
theorem un_pin {op : UnOp} {x z : V} (h : (un op x).has z) : pinB z = true := by
  unfold un at h
  split at h <;> first | exact h.elim | (simp only [R.has] at h; subst h; rfl)
theorem len_pin {K : TK} {x z : V} (h : (vlen K x).has z) : pinB z = true := by
  unfold vlen at h
  split at h <;> first | exact h.elim | (simp only [R.has] at h; subst h; rfl)
theorem conv_pin {S D : TK} {x z : V} (h : (convV S D x).has z) : pinB z = true := by
  unfold convV at h
  split at h <;> first | exact h.elim | (simp only [R.has] at h; subst h; rfl)
theorem index_pin {K : TK} {x i z : V} (h : (indexS K x i).has z) : pinB z = true := by
  unfold indexS at h
  split at h <;> first | exact h.elim | (obtain ⟨_, rfl⟩ := h; rfl)
theorem pick_w {P : Program} {c : Ctx} {cv av bv z : V} {cu au bu : Value} (h : (pickV cv av bv).has z) (hc : VR c cv cu)
    (ha : cv = .bool true → VR c av au) (hb : cv = .bool false → VR c bv bu) :
    ∃ u, (∀ w, (do pure (Next.value (if ← asBool cu then au else bu)) : Sem Next).run P w = .ok (.value u) w) ∧ VR c z u := by
  have hcu : ∃ b, cv = .bool b := by
    unfold pickV at h
    split at h
    · exact ⟨_, rfl⟩
    · exact h.elim
  obtain ⟨b, rfl⟩ := hcu
  have hc' := hc
  simp only [VR] at hc'
  subst hc'
  refine ⟨if b then au else bu, fun w => by simp [asBool, Sem.run_bind], ?_⟩
  obtain ⟨u, h1, h2⟩ := pick_ok (P := P) (w := c.w) h hc ha hb
  have : u = if b then au else bu := by simpa [asBool, Sem.run_bind] using h1.symm
  rw [← this]; exact h2
section
variable {P : Program} {F : Fr} {c : Ctx} {E : Env} {H : Heap} {a : Act} {X : Nat → Bool} {k : Nat} {p : Path} {o : Oper} {K : Env → Heap → Prop}
def Stl (P : Program) (o : Oper) (k : Nat) (p : Path) (a : Act) (c : Ctx) (E : Env) (H : Heap) (K : Env → Heap → Prop) : Prop :=
  ∃ v, K (put E o.dst (k + 1) p v) H ∧ (pc p → ∃ u, (∀ w', c.w.Extends w' → (execOp a.eval o).run P w' = .ok (.value u) w') ∧ VR c v u)
theorem stl_rk {r : R} (hrun : pc p → ∀ v, r.has v → ∃ u, (∀ w', c.w.Extends w' → (execOp a.eval o).run P w' = .ok (.value u) w') ∧ VR c v u)
    (h : rk p r fun v => K (put E o.dst (k + 1) p v) H) : Stl P o k p a c E H K := by
  cases r with
  | no => exact h.elim
  | ok v => exact ⟨v, h, fun hpc => hrun hpc v rfl⟩
  | chk q v => exact ⟨v, h.2, fun hpc => hrun hpc v ⟨h.1 hpc, rfl⟩⟩
theorem stl_v {r : R} {s : Sem Value} (he : execOp a.eval o = (do pure (Next.value (← s)))) (hrun : pc p → ∀ v, r.has v → ∃ u, (∀ w, s.run P w = .ok u w) ∧ VR c v u)
    (h : rk p r fun v => K (put E o.dst (k + 1) p v) H) : Stl P o k p a c E H K := by
  refine stl_rk (fun hpc v hv => ?_) h
  obtain ⟨u, h1, h2⟩ := hrun hpc v hv
  exact ⟨u, fun w' _ => by rw [he]; exact exec_v (h1 w'), h2⟩
set_option maxHeartbeats 1000000 in
theorem xo_still (hs : St F c E H a X k) (hp : KP X k p) (hst : stillOp o = true) (h : xo P k o p E H K) : Stl P o k p a c E H K := by
  unfold xo at h
  have hev := fun hpc x => ev_ok hs.er hs.ki hp hpc x (a := a)
  have no : ∀ {q : Op}, o.op = q → (match q with
  | .move _ | .assign _ | .pick _ _ _ | .binOp _ _ _ _ _ | .unOp _ _ _ | .extract _ _ | .nilCheck _ | .fieldAddr _ _ _ | .index _ _ _ | .indexAddr _ _ _ | .load _ _ | .slice _ _ _ _ _ | .convert _ _ _ | .field _ _ _ | .build _ _ => true
  | .call c => (match c.callee with | .builtin .len => true | _ => false)
  | _ => false) = true := by
    intro q hq
    unfold stillOp at hst
    rw [hq] at hst
    exact hst
  split at h
  · rename_i x ho
    exact stl_v (r := .ok (ev E p x)) (s := pure (a.eval x)) (by simp [execOp, ho]) (fun hpc v hv => ⟨_, fun _ => rfl, by cases hv; exact hev hpc x⟩) h
  · rename_i x ho
    exact stl_v (r := .ok (ev E p x)) (s := pure (a.eval x)) (by simp [execOp, ho]) (fun hpc v hv => ⟨_, fun _ => rfl, by cases hv; exact hev hpc x⟩) h
  · rename_i cc x y ho
    refine stl_rk (fun hpc v hv => ?_) (rkv_rk h)
    obtain ⟨u, h1, h2⟩ := pick_w (P := P) (c := c) hv (hev hpc cc) (au := a.eval x) (bu := a.eval y)
      (fun hb => by obtain ⟨h1, h2⟩ := pk_ok hs hp hpc hb; exact ev_ok hs.er hs.ki h1 h2 x)
      (fun hb => by obtain ⟨h1, h2⟩ := pk_ok hs hp hpc hb; exact ev_ok hs.er hs.ki h1 h2 y)
    exact ⟨u, fun w' _ => by simpa [execOp, ho] using h1 w', h2⟩
  · rename_i op T x y yt ho
    exact stl_v (s := do eqGuard op T x y (a.eval x) (a.eval y); binOp op T (a.eval x) (a.eval y)) (by simp [execOp, ho]) (fun hpc v hv => pin_w (bin_pin hv) fun w => bin_ok (hev hpc x) (hev hpc y) hv) (rkv_rk h)
  · rename_i op T x ho
    exact stl_v (s := Op.unary op (a.eval x)) (by simp [execOp, ho]) (fun hpc v hv => pin_w (un_pin hv) fun w => un_ok (hev hpc x) hv) (rkv_rk h)
  · rename_i x i ho
    exact stl_v (s := Instr.extract (a.eval x) i) (by simp [execOp, ho]) (fun hpc v hv => extract_w (hev hpc x) hv) h
  · -- nilCheck
    rename_i x ho
    have hrun : ∀ A, a.eval x = .pointer (some A) → ∀ w', c.w.Extends w' → (execOp a.eval o).run P w' = .ok (.value (.pointer (some A))) w' := fun A hA w' _ => by simp [execOp, ho, hA]
    split at h
    · rename_i r off hv
      refine stl_rk (r := .ok (.ptr r off)) (fun hpc v hv' => ?_) h
      cases hv'
      have hx := hev hpc x
      rw [hv] at hx
      have hx' := hx
      simp only [VR] at hx'
      split at hx'
      · exact ⟨_, hrun _ hx', by rw [← hx']; exact hx⟩
      · exact hx'.elim
    · rename_i r e i off hv
      refine stl_rk (r := .ok (.eptr r e i off)) (fun hpc v hv' => ?_) h
      cases hv'
      have hx := hev hpc x
      rw [hv] at hx
      have hx' := hx
      simp only [VR] at hx'
      split at hx'
      · exact ⟨_, hrun _ hx', by rw [← hx']; exact hx⟩
      · exact hx'.elim
    · rename_i cs off hv
      refine stl_rk (r := .ok (.iptr cs off)) (fun hpc v hv' => ?_) h
      cases hv'
      have hx := hev hpc x
      rw [hv] at hx
      have hx' := hx
      simp only [VR] at hx'
      obtain ⟨b, o', hx', _⟩ := hx'
      exact ⟨_, hrun _ hx', by rw [← hx']; exact hx⟩
    · exact h.elim
  · rename_i T x f ho
    exact stl_v (s := Instr.fieldAt T (a.eval x) f) (by simp [execOp, ho]) (fun hpc v hv => fieldAddr_w (hev hpc x) hv) h
  · rename_i T x i ho
    exact stl_v (s := Instr.index T (a.eval x) (a.eval i)) (by simp [execOp, ho]) (fun hpc v hv => pin_w (index_pin hv) fun w => indexS_ok (hev hpc x) (hev hpc i) hv) (rkv_rk h)
  · rename_i T x i ho
    split at h
    · rename_i e hT
      exact stl_v (s := Instr.indexAt T (a.eval x) (a.eval i)) (by simp [execOp, ho]) (fun hpc v hv => indexAddr_w hT (hev hpc x) (hev hpc i) hv) h
    · exact h.elim
  · rename_i T x ho
    refine stl_rk (fun hpc v hv => ?_) h
    obtain ⟨u, h1, h2⟩ := load_w (P := P) hs.sr (hev hpc x) hv
    exact ⟨u, fun w' hw => by rw [show execOp a.eval o = (do pure (Next.value (← Instr.loadAt T (a.eval x)))) from by simp [execOp, ho]]; exact exec_v (h1 w' hw), h2⟩
  · rename_i T x lo hi mx ho
    exact stl_v (s := Instr.sliceAt T (a.eval x) (lo.map a.eval) (hi.map a.eval) (mx.map a.eval)) (by simp [execOp, ho])
      (fun hpc v hv => by
        refine sliceV_w (hev hpc x) (evo_ok hs hp hpc lo) (evo_ok hs hp hpc hi) (evo_ok hs hp hpc mx) (fun e' he' h0 => ?_) hv
        unfold tesize at h0 ⊢
        cases hte : telem P T with
        | none => rw [hte] at h0; exact absurd rfl h0
        | some e =>
          have := telem_some hte
          rw [this] at he'
          cases he'
          exact ⟨rfl, rfl⟩) h
  · rename_i S D x ho
    exact stl_v (s := convert S D (a.eval x)) (by simp [execOp, ho]) (fun hpc v hv => pin_w (conv_pin hv) fun w => conv_ok (hev hpc x) hv) (rkv_rk h)
  · rename_i T x f ho
    split at h
    · rename_i k' t hf
      exact stl_v (s := Instr.field T (a.eval x) f) (by simp [execOp, ho]) (fun hpc v hv => field_w hf (hev hpc x) hv) h
    · exact h.elim
  · rename_i f first caps ho; cases no ho
  · rename_i T ho; cases no ho
  · rename_i T x ho; cases no ho
  · rename_i T x y ho; cases no ho
  · rename_i T n parts ho; cases no ho
  · rename_i T parts ho
    split at h
    · rename_i z pl hz hpl
      split at h
      · rename_i cs hf
        refine stl_rk (r := .ok (.agg cs)) (fun hpc v hv => ?_) h
        cases hv
        obtain ⟨u, h1, h2⟩ := build_w (P := P) (c := c) hz hpl (vals := parts.map fun (i, x) => (i, a.eval x)) (by rw [Array.toList_map]; exact evp_ok hs hp hpc _) hf
        exact ⟨u, fun w' _ => by rw [show execOp a.eval o = (do pure (Next.value (← Instr.build T (parts.map fun (i, x) => (i, a.eval x))))) from by simp [execOp, ho]]; exact exec_v (h1 w'), h2⟩
      · exact h.elim
    · exact h.elim
  · rename_i cl ho
    have hno := no ho
    dsimp only at hno
    split at h
    · rename_i b hb
      rw [hb] at hno
      unfold xb at h
      split at h
      · rename_i t x hts hxs
        obtain ⟨y, hy, rfl⟩ := evs_two hxs
        refine stl_rk (fun hpc v hv => ?_) h
        obtain ⟨u, h1, h2⟩ := pin_w (c := c) (len_pin hv) fun w => len_ok (P := P) (w := w) (ty := o.type) (hev hpc y) hv
        refine ⟨u, fun w' _ => ?_, h2⟩
        have ea : cl.args = #[y] := by apply Array.ext'; simpa using hy
        have et : cl.argTypes = #[t] := by apply Array.ext'; simpa using hts
        simp [execOp, ho, resolve, hb, invoke, builtin, ea, et, h1]
      all_goals first | cases hno | exact h.elim
    · rename_i f hf
      rw [hf] at hno
      cases hno
    · exact h.elim
  · exact h.elim
end
end Go.VM
