import Derived.Test.YtbeimhhhgjaaaaaDoorWV5
import Derived.Shelf.Sort.Plain
import Derived.Shelf.Slices.In.SortNone
import Derived.Sort.OwnSorted
section
set_option linter.unusedVariables false
set_option linter.unusedSimpArgs false
namespace Go.VM
open Go.Sort Go.Proofs
variable {P : Program}
end Go.VM
end
section
set_option linter.unusedVariables false
set_option linter.unusedSimpArgs false
set_option linter.unnecessarySimpa false
namespace Go.VM
section
variable {P : Program} {ops : Array Oper} {Q : Exit → Act → World → Prop} {md : Region.Mode}
/-- some blocks are as they were -/
def Kp (Z : Nat → Prop) (w w' : World) : Prop := ∀ k, Z k → w'.heap[k]? = w.heap[k]?
theorem Kp.refl (Z : Nat → Prop) (w : World) : Kp Z w w := fun _ _ => rfl
def wpAnyZ (P : Program) (md : Region.Mode) (ops : Array Oper) (Q : Exit → Act → World → Prop) (late : Nat → Bool) : (Nat → Prop) → Nat → Array Bool → Act → World → Prop
  | _, 0, listed, a, w => Region.ready md ops listed = [] ∧ Q .normal a w
  | Z, fuel + 1, listed, a, w =>
    (Region.ready md ops listed = [] → Q .normal a w) ∧
    ∀ i ∈ Region.ready md ops listed, wpOp P ops Q i (fun a' w' => (late i = false → w.Extends w') ∧ Kp Z w w' ∧ ∃ Z' : Nat → Prop, (∀ k, Z k → Z' k) ∧ wpAnyZ P md ops Q late Z' fuel (listed.setIfInBounds i true) a' w') a w
theorem wpAny_of_Z {late : Nat → Bool} : ∀ (fuel : Nat) (Z : Nat → Prop) (listed : Array Bool) (a : Act) (w : World), wpAnyZ P md ops Q late Z fuel listed a w → wpAny P md ops Q fuel listed a w
  | 0, _, _, _, _, h => h
  | fuel + 1, Z, _, _, _, h => ⟨h.1, fun i hi => wpOp_mono (fun a' w' h' => by obtain ⟨_, _, Z', _, h'⟩ := h'; exact wpAny_of_Z fuel Z' _ a' w' h') (h.2 i hi)⟩
/-- **what reads only may be taken first** -/
theorem wpAnyZ_first {late : Nat → Bool} {N i : Nat} {oi : Oper} {v : Value} (hi : ops[i]? = some oi) (hsel : ∀ (j : Nat) (o : Oper) cs b, ops[j]? = some o → o.op ≠ .select cs b)
    (hQ : ∀ c a w, Q (.panic c) (a.put oi.dst v) w → Q (.panic c) a w) :
    ∀ (fuel : Nat) (Z : Nat → Prop) (listed : Array Bool) (a : Act) (w : World), Closed md ops listed →
      (∀ j oj, ops[j]? = some oj → j ≠ i → listed.getD j true = false → (∀ e ∈ oj.after, Region.binds md e = true → e.on ≠ i) → oi.apart ops oj = true) →
      (∀ j, late j = true → listed.getD j false = true ∨ anc md ops N i j = true) →
      i ∈ Region.ready md ops listed → YieldsIf P ops w.Extends oi v a →
      wpAnyZ P md ops Q late Z fuel (listed.setIfInBounds i true) (a.put oi.dst v) w → wpAnyZ P md ops Q late Z (fuel + 1) listed a w := by
  intro fuel
  induction fuel with
  | zero =>
    intro Z listed a w hcl _ _ hr hy H
    refine ⟨fun h => (by rw [h] at hr; cases hr), fun j hj => ?_⟩
    by_cases hji : j = i
    · subst hji; exact hy.wpOp hi (.refl w) ⟨fun _ => .refl w, .refl Z w, Z, fun _ h => h, H⟩
    · have := ready_mono hj hji
      rw [H.1] at this
      cases this
  | succ fuel ih =>
    intro Z listed a w hcl hfree hlate hr hy H
    refine ⟨fun h => (by rw [h] at hr; cases hr), fun j hj => ?_⟩
    by_cases hji : j = i
    · subst hji; exact hy.wpOp hi (.refl w) ⟨fun _ => .refl w, .refl Z w, Z, fun _ h => h, H⟩
    · have h1 := H.2 j (ready_mono hj hji)
      have hlj : late j = false := by
        cases hh : late j with
        | false => rfl
        | true =>
          rcases hlate j hh with h | h
          · rw [ready_unlisted hj] at h; cases h
          · exact absurd hj (anc_not_ready hcl (ready_unlisted hr) h)
      obtain ⟨hjun, oj, hoj, hall⟩ := mem_ready.1 hj
      have hnot : ∀ e ∈ oj.after, Region.binds md e = true → e.on ≠ i := fun e he hb heq => by
        have h1 := hall e he hb
        rw [heq, ready_unlisted hr] at h1
        cases h1
      have h2 := wpOp_putIf hoj (hfree j oj hoj hji hjun hnot) (fun cs b => hsel i oi cs b hi) (fun cs b => hsel j oj cs b hoj) hQ hy h1
      have hfree' : ∀ k ok, ops[k]? = some ok → k ≠ i → (listed.setIfInBounds j true).getD k true = false →
          (∀ e ∈ ok.after, Region.binds md e = true → e.on ≠ i) → oi.apart ops ok = true := fun k ok hk hki hun hno => by
        refine hfree k ok hk hki ?_ hno
        by_cases hjk : j = k
        · subst hjk; exact hjun
        · rw [getD_set_ne true hjk] at hun; exact hun
      have hlate' : ∀ k, late k = true → (listed.setIfInBounds j true).getD k false = true ∨ anc md ops N i k = true := fun k hk => by
        rcases hlate k hk with h | h
        · by_cases hjk : j = k
          · subst hjk; rw [hlj] at hk; cases hk
          · exact .inl (by rw [getD_set_ne false hjk]; exact h)
        · exact .inr h
      refine wpOp_mono (fun a' w' h3 => by
        obtain ⟨Z', hz1, hz2⟩ := h3.2.2.2
        refine ⟨h3.2.1, h3.2.2.1, Z', hz1, ih Z' (listed.setIfInBounds j true) a' w' (hcl.set hj) hfree' hlate' (ready_mono hr (Ne.symm hji)) ?_ ?_⟩
        · rcases h3.1 with ⟨g1, g2⟩ | g
          · exact .inl ⟨g1, fun x hx => g2 x ((h3.2.1 hlj).trans hx)⟩
          · exact .inr g
        · rw [Array.setIfInBounds_comm _ _ hji]
          exact hz2) h2
/-- likewise what asks only for what is kept -/
theorem wpAnyZ_firstZ {late : Nat → Bool} {i : Nat} {oi : Oper} {v : Value} (hi : ops[i]? = some oi) (hsel : ∀ (j : Nat) (o : Oper) cs b, ops[j]? = some o → o.op ≠ .select cs b)
    (hQ : ∀ c a w, Q (.panic c) (a.put oi.dst v) w → Q (.panic c) a w) :
    ∀ (fuel : Nat) (Z : Nat → Prop) (listed : Array Bool) (a : Act) (w : World), Closed md ops listed →
      (∀ j oj, ops[j]? = some oj → j ≠ i → listed.getD j true = false → (∀ e ∈ oj.after, Region.binds md e = true → e.on ≠ i) → oi.apart ops oj = true) →
      late i = false → i ∈ Region.ready md ops listed → YieldsIf P ops (Kp Z w) oi v a →
      wpAnyZ P md ops Q late Z fuel (listed.setIfInBounds i true) (a.put oi.dst v) w → wpAnyZ P md ops Q late Z (fuel + 1) listed a w := by
  intro fuel
  induction fuel with
  | zero =>
    intro Z listed a w hcl _ _ hr hy H
    refine ⟨fun h => (by rw [h] at hr; cases hr), fun j hj => ?_⟩
    by_cases hji : j = i
    · subst hji; exact hy.wpOp hi (.refl Z w) ⟨fun _ => .refl w, .refl Z w, Z, fun _ h => h, H⟩
    · have := ready_mono hj hji
      rw [H.1] at this
      cases this
  | succ fuel ih =>
    intro Z listed a w hcl hfree hlate hr hy H
    refine ⟨fun h => (by rw [h] at hr; cases hr), fun j hj => ?_⟩
    by_cases hji : j = i
    · subst hji; exact hy.wpOp hi (.refl Z w) ⟨fun _ => .refl w, .refl Z w, Z, fun _ h => h, H⟩
    · have h1 := H.2 j (ready_mono hj hji)
      obtain ⟨hjun, oj, hoj, hall⟩ := mem_ready.1 hj
      have hnot : ∀ e ∈ oj.after, Region.binds md e = true → e.on ≠ i := fun e he hb heq => by
        have h1 := hall e he hb
        rw [heq, ready_unlisted hr] at h1
        cases h1
      have h2 := wpOp_putIf hoj (hfree j oj hoj hji hjun hnot) (fun cs b => hsel i oi cs b hi) (fun cs b => hsel j oj cs b hoj) hQ hy h1
      have hfree' : ∀ k ok, ops[k]? = some ok → k ≠ i → (listed.setIfInBounds j true).getD k true = false →
          (∀ e ∈ ok.after, Region.binds md e = true → e.on ≠ i) → oi.apart ops ok = true := fun k ok hk hki hun hno => by
        refine hfree k ok hk hki ?_ hno
        by_cases hjk : j = k
        · subst hjk; exact hjun
        · rw [getD_set_ne true hjk] at hun; exact hun
      refine wpOp_mono (fun a' w' h3 => by
        obtain ⟨hk, Z', hz1, hz2⟩ := h3.2.2
        refine ⟨h3.2.1, hk, Z', hz1, ih Z' (listed.setIfInBounds j true) a' w' (hcl.set hj) hfree' hlate (ready_mono hr (Ne.symm hji)) ?_ ?_⟩
        · rcases h3.1 with ⟨g1, g2⟩ | g
          · exact .inl ⟨g1, fun x hx => g2 x fun k hZ => (hx k (hz1 k hZ)).trans (hk k hZ)⟩
          · exact .inr g
        · rw [Array.setIfInBounds_comm _ _ hji]
          exact hz2) h2
theorem wpAnyZ_all {late : Nat → Bool} {Z : Nat → Prop} {rs : List Nat} {fuel : Nat} {listed : Array Bool} {a : Act} {w : World} (hr : Region.ready md ops listed = rs) (hne : rs ≠ [])
    (h : ∀ i ∈ rs, wpOp P ops Q i (fun a' w' => (late i = false → w.Extends w') ∧ Kp Z w w' ∧ ∃ Z' : Nat → Prop, (∀ k, Z k → Z' k) ∧ wpAnyZ P md ops Q late Z' fuel (listed.setIfInBounds i true) a' w') a w) : wpAnyZ P md ops Q late Z (fuel + 1) listed a w :=
  ⟨fun h0 => absurd (hr ▸ h0) hne, hr ▸ h⟩
theorem wpAnyZ_done {late : Nat → Bool} {Z : Nat → Prop} {listed : Array Bool} {a : Act} {w : World} (hr : Region.ready md ops listed = []) (h : Q .normal a w) : ∀ fuel, wpAnyZ P md ops Q late Z fuel listed a w
  | 0 => ⟨hr, h⟩
  | _ + 1 => ⟨fun _ => h, by rw [hr]; simp⟩
end
section
variable {P : Program} {F : Fr} {c : Ctx} {E : Env} {H : Heap} {a : Act} {X : Nat → Bool} {k : Nat} {p : Path} {o : Oper} {K : Env → Heap → Prop} {Pr : List Nat}
/-- the blocks that are kept: of some own ones, and all that does not change -/
def Zc (Pr : List Nat) (c : Ctx) (k : Nat) : Prop := c.I k ∨ ∃ r ∈ Pr, ∃ m, c.locs[r]? = some (some (k, m))
def StlZ (P : Program) (Pr : List Nat) (o : Oper) (k : Nat) (p : Path) (a : Act) (c : Ctx) (E : Env) (H : Heap) (K : Env → Heap → Prop) : Prop :=
  ∃ v, K (put E o.dst (k + 1) p v) H ∧ (pc p → ∃ u, (∀ w', Kp (Zc Pr c) c.w w' → (execOp a.eval o).run P w' = .ok (.value u) w') ∧ VR c v u)
theorem stlz_rk {r : R} (hrun : pc p → ∀ v, r.has v → ∃ u, (∀ w', Kp (Zc Pr c) c.w w' → (execOp a.eval o).run P w' = .ok (.value u) w') ∧ VR c v u)
    (h : rk p r fun v => K (put E o.dst (k + 1) p v) H) : StlZ P Pr o k p a c E H K := by
  cases r with
  | no => exact h.elim
  | ok v => exact ⟨v, h, fun hpc => hrun hpc v rfl⟩
  | chk q v => exact ⟨v, h.2, fun hpc => hrun hpc v ⟨h.1 hpc, rfl⟩⟩
theorem stlz_v {r : R} {s : Sem Value} (he : execOp a.eval o = (do pure (Next.value (← s)))) (hrun : pc p → ∀ v, r.has v → ∃ u, (∀ w, s.run P w = .ok u w) ∧ VR c v u)
    (h : rk p r fun v => K (put E o.dst (k + 1) p v) H) : StlZ P Pr o k p a c E H K := by
  refine stlz_rk (fun hpc v hv => ?_) h
  obtain ⟨u, h1, h2⟩ := hrun hpc v hv
  exact ⟨u, fun w' _ => by rw [he]; exact exec_v (h1 w'), h2⟩
def ldOk (Pr : List Nat) (v : V) : Bool :=
  match v with
  | .ptr r _ => mem r Pr
  | .eptr r _ _ _ => mem r Pr
  | .iptr _ _ => true
  | _ => false
/-- does an operation ask only for what is kept? -/
def zval (P : Program) (Pr : List Nat) (o : Oper) (p : Path) (E : Env) : Bool :=
  match o.op with
  | .load _ x => ldOk Pr (ev E p x)
  | .convert S _ _ => (match tbyte P S with | true => false | false => true)
  | .lookup _ _ _ _ => false
  | .call c => (match evs E p c.args.toList with
    | [.mp _] => false
    | _ => true)
  | _ => true
theorem kp_cell {Z : Nat → Prop} {w w' : World} (h : Kp Z w w') {a : Addr} (hz : Z a.block) : w'.cell? a = w.cell? a := by
  unfold World.cell?; rw [h _ hz]
theorem load_z (hs : SR F c H) {T : Nat} {x z : V} {u : Value} (hx : VR c x u) (hz : ldOk Pr x = true) (h : (load (ti P T) H x).has z) : ∃ r, (∀ w', Kp (Zc Pr c) c.w w' → (Instr.loadAt T u).run P w' = .ok r w') ∧ VR c z r := by
  unfold load at h
  split at h
  · rename_i r off
    simp only [VR] at hx
    split at hx
    · rename_i b m hr
      subst hx
      split at h
      · rename_i cs hb
        obtain ⟨h1, h2⟩ := hs.get hr
        rw [hb] at h2
        obtain ⟨_, g1, ⟨C, el, rfl, g2, g3, g4⟩, _⟩ := h2 trivial
        have := loadV_w (P := P) (b := b) (o := 0) g4 g3 h
        obtain ⟨u, hu, hv⟩ := this
        exact ⟨u, fun w' hx => by simpa [Instr.loadAt, Instr.sureAddr] using hu w' (fun j x _ hj => (kp_cell hx (.inr ⟨r, mem_true.1 hz, m, hr⟩)).trans (by rw [Nat.zero_add, cell_row g1]; exact hj)), hv⟩
      · exact h.elim
    · exact hx.elim
  · rename_i r e i off
    simp only [VR] at hx
    split at hx
    · rename_i b m hr
      subst hx
      split at h
      · rename_i e' n f hb
        obtain ⟨h1, h2⟩ := hs.get hr
        rw [hb] at h2
        obtain ⟨_, g1, ⟨C, el, rfl, g2, g3, g4⟩, _⟩ := h2 trivial
        cases hbb : Nat.beq e e' with
        | false => rw [hbb] at h; exact h.elim
        | true =>
          rw [hbb] at h
          obtain rfl := beq_nat hbb
          dsimp only [cond] at h
          split at h
          · rename_i v hv
            obtain ⟨hi, rfl⟩ := h
            obtain ⟨k1, k2, k3⟩ := g4 i hi
            have := loadV_w (P := P) (T := T) (off := off) (z := z) (b := b) (o := i * e) k3 (by rw [k1]; exact k2) (by rw [hv]; rfl)
            obtain ⟨u, hu, hv⟩ := this
            exact ⟨u, fun w' hx => by simpa [Instr.loadAt, Instr.sureAddr] using hu w' (fun j x _ hj => (kp_cell hx (.inr ⟨r, mem_true.1 hz, m, hr⟩)).trans (by rw [cell_row g1]; exact hj)), hv⟩
          · exact h.elim
      · exact h.elim
    · exact hx.elim
  · rename_i cs off
    simp only [VR] at hx
    obtain ⟨b, o, rfl, h1, h2, h3⟩ := hx
    have := loadV_w (P := P) (b := b) (o := o) (VRs.ofBare h3) h2 h
    obtain ⟨u, hu, hv⟩ := this
    exact ⟨u, fun w' hx => by simpa [Instr.loadAt, Instr.sureAddr] using hu w' (fun j x _ hj => (kp_cell hx (.inl h1)).trans hj), hv⟩
  · exact h.elim
set_option maxHeartbeats 1000000 in
theorem xo_stillZ (hs : St F c E H a X k) (hp : KP X k p) (hst : stillOp o = true) (hz : zval P Pr o p E = true) (h : xo P k o p E H K) : StlZ P Pr o k p a c E H K := by
  unfold xo at h
  have hev := fun hpc x => ev_ok hs.er hs.ki hp hpc x (a := a)
  have no : ∀ {q : Op}, o.op = q → (match q with
  | .move _ | .assign _ | .pick _ _ _ | .binOp _ _ _ _ _ | .unOp _ _ _ | .extract _ _ | .nilCheck _ | .fieldAddr _ _ _ | .index _ _ _ | .indexAddr _ _ _ | .load _ _ | .slice _ _ _ _ _ | .convert _ _ _ | .field _ _ _ | .build _ _ | .lookup _ _ _ _ => true
  | .call c => (match c.callee with | .builtin .len => true | _ => false)
  | _ => false) = true := by
    intro q hq
    unfold stillOp at hst
    rw [hq] at hst
    exact hst
  split at h
  · rename_i x ho
    exact stlz_v (r := .ok (ev E p x)) (s := pure (a.eval x)) (by simp [execOp, ho]) (fun hpc v hv => ⟨_, fun _ => rfl, by cases hv; exact hev hpc x⟩) h
  · rename_i x ho
    exact stlz_v (r := .ok (ev E p x)) (s := pure (a.eval x)) (by simp [execOp, ho]) (fun hpc v hv => ⟨_, fun _ => rfl, by cases hv; exact hev hpc x⟩) h
  · rename_i cc x y ho
    refine stlz_rk (fun hpc v hv => ?_) (rkv_rk h)
    obtain ⟨u, h1, h2⟩ := pick_w (P := P) (c := c) hv (hev hpc cc) (au := a.eval x) (bu := a.eval y)
      (fun hb => by obtain ⟨h1, h2⟩ := pk_ok hs hp hpc hb; exact ev_ok hs.er hs.ki h1 h2 x)
      (fun hb => by obtain ⟨h1, h2⟩ := pk_ok hs hp hpc hb; exact ev_ok hs.er hs.ki h1 h2 y)
    exact ⟨u, fun w' _ => by simpa [execOp, ho] using h1 w', h2⟩
  · rename_i op T x y yt ho
    exact stlz_v (s := do eqGuard op T x y (a.eval x) (a.eval y); binOp op T (a.eval x) (a.eval y)) (by simp [execOp, ho]) (fun hpc v hv => pin_w (bin_pin hv) fun w => bin_ok (hev hpc x) (hev hpc y) hv) (rkv_rk h)
  · rename_i op T x ho
    exact stlz_v (s := Op.unary op (a.eval x)) (by simp [execOp, ho]) (fun hpc v hv => pin_w (un_pin hv) fun w => un_ok (hev hpc x) hv) (rkv_rk h)
  · rename_i x i ho
    exact stlz_v (s := Instr.extract (a.eval x) i) (by simp [execOp, ho]) (fun hpc v hv => extract_w (hev hpc x) hv) h
  · -- nilCheck
    rename_i x ho
    have hrun : ∀ A, a.eval x = .pointer (some A) → ∀ w', Kp (Zc Pr c) c.w w' → (execOp a.eval o).run P w' = .ok (.value (.pointer (some A))) w' := fun A hA w' _ => by simp [execOp, ho, hA]
    split at h
    · rename_i r off hv
      refine stlz_rk (r := .ok (.ptr r off)) (fun hpc v hv' => ?_) h
      cases hv'
      have hx := hev hpc x
      rw [hv] at hx
      have hx' := hx
      simp only [VR] at hx'
      split at hx'
      · exact ⟨_, hrun _ hx', by rw [← hx']; exact hx⟩
      · exact hx'.elim
    · rename_i r e i off hv
      refine stlz_rk (r := .ok (.eptr r e i off)) (fun hpc v hv' => ?_) h
      cases hv'
      have hx := hev hpc x
      rw [hv] at hx
      have hx' := hx
      simp only [VR] at hx'
      split at hx'
      · exact ⟨_, hrun _ hx', by rw [← hx']; exact hx⟩
      · exact hx'.elim
    · rename_i cs off hv
      refine stlz_rk (r := .ok (.iptr cs off)) (fun hpc v hv' => ?_) h
      cases hv'
      have hx := hev hpc x
      rw [hv] at hx
      have hx' := hx
      simp only [VR] at hx'
      obtain ⟨b, o', hx', _⟩ := hx'
      exact ⟨_, hrun _ hx', by rw [← hx']; exact hx⟩
    · exact h.elim
  · rename_i T x f ho
    exact stlz_v (s := Instr.fieldAt T (a.eval x) f) (by simp [execOp, ho]) (fun hpc v hv => fieldAddr_w (hev hpc x) hv) h
  · rename_i T x i ho
    exact stlz_v (s := Instr.index T (a.eval x) (a.eval i)) (by simp [execOp, ho]) (fun hpc v hv => pin_w (index_pin hv) fun w => indexS_ok (hev hpc x) (hev hpc i) hv) (rkv_rk h)
  · rename_i T x i ho
    split at h
    · rename_i e hT
      exact stlz_v (s := Instr.indexAt T (a.eval x) (a.eval i)) (by simp [execOp, ho]) (fun hpc v hv => indexAddr_w hT (hev hpc x) (hev hpc i) hv) h
    · exact h.elim
  · rename_i T x ho
    refine stlz_rk (fun hpc v hv => ?_) h
    have hzz : ldOk Pr (ev E p x) = true := by
      unfold zval at hz
      rw [ho] at hz
      exact hz
    obtain ⟨u, h1, h2⟩ := load_z (P := P) hs.sr (hev hpc x) hzz hv
    exact ⟨u, fun w' hw => by rw [show execOp a.eval o = (do pure (Next.value (← Instr.loadAt T (a.eval x)))) from by simp [execOp, ho]]; exact exec_v (h1 w' hw), h2⟩
  · rename_i T x lo hi mx ho
    exact stlz_v (s := Instr.sliceAt T (a.eval x) (lo.map a.eval) (hi.map a.eval) (mx.map a.eval)) (by simp [execOp, ho])
      (fun hpc v hv => by
        refine sliceV_w (hev hpc x) (evo_ok hs hp hpc lo) (evo_ok hs hp hpc hi) (evo_ok hs hp hpc mx) (fun e' he' h0 => ?_) hv
        unfold tesize at h0 ⊢
        cases hte : telem P T with
        | none => rw [hte] at h0; exact absurd rfl h0
        | some e =>
          have := telem_some hte
          rw [this] at he'
          cases he'
          exact ⟨rfl, rfl⟩) h
  · rename_i S D x ho
    refine stlz_rk (fun hpc v hv => ?_) (rkv_rk h)
    have hzz : (match tbyte P S with | true => false | false => true) = true := by
      unfold zval at hz
      rw [ho] at hz
      exact hz
    have : ∃ u, (∀ w', Kp (Zc Pr c) c.w w' → (convert S D (a.eval x)).run P w' = .ok u w') ∧ VR c v u := by
      rcases convH_has hv with ⟨h1, h2, hv⟩ | hv
      · rw [h1] at hzz; cases hzz
      · obtain ⟨u, h1, h2⟩ := pin_w (conv_pin hv) fun w => conv_ok (P := P) (w := w) (hev hpc x) hv
        exact ⟨u, fun w' _ => h1 w', h2⟩
    obtain ⟨u, h1, h2⟩ := this
    exact ⟨u, fun w' hw => by rw [show execOp a.eval o = (do pure (Next.value (← convert S D (a.eval x)))) from by simp [execOp, ho]]; exact exec_v (h1 w' hw), h2⟩
  · rename_i T x f ho
    split at h
    · rename_i k' t hf
      exact stlz_v (s := Instr.field T (a.eval x) f) (by simp [execOp, ho]) (fun hpc v hv => field_w hf (hev hpc x) hv) h
    · exact h.elim
  · rename_i f first caps ho; cases no ho
  · rename_i T ho; cases no ho
  · rename_i T x ho; cases no ho
  · rename_i T x y ho; cases no ho
  · rename_i T ho; cases no ho
  · rename_i T m x y ho; cases no ho
  · rename_i T m x y ho; cases no ho
  · rename_i T m x b ho
    unfold zval at hz
    rw [ho] at hz
    cases hz
  · rename_i T n parts ho; cases no ho
  · rename_i T parts ho
    split at h
    · rename_i z pl hz hpl
      split at h
      · rename_i cs hf
        refine stlz_rk (r := .ok (.agg cs)) (fun hpc v hv => ?_) h
        cases hv
        obtain ⟨u, h1, h2⟩ := build_w (P := P) (c := c) hz hpl (vals := parts.map fun (i, x) => (i, a.eval x)) (by rw [Array.toList_map]; exact evp_ok hs hp hpc _) hf
        exact ⟨u, fun w' _ => by rw [show execOp a.eval o = (do pure (Next.value (← Instr.build T (parts.map fun (i, x) => (i, a.eval x))))) from by simp [execOp, ho]]; exact exec_v (h1 w'), h2⟩
      · exact h.elim
    · exact h.elim
  · rename_i cl ho
    have hno := no ho
    dsimp only at hno
    split at h
    · rename_i b hb
      rw [hb] at hno
      unfold xb at h
      split at h
      · rename_i t x hts hxs
        obtain ⟨y, hy, rfl⟩ := evs_two hxs
        refine stlz_rk (fun hpc v hv => ?_) h
        have hzz : ∀ r, ev E p y ≠ .mp r := by
          intro r hr
          unfold zval at hz
          rw [ho] at hz
          dsimp only at hz
          rw [hxs, hr] at hz
          cases hz
        have hv' : (vlen (tkind P t) (ev E p y)).has v := by
          unfold lenV at hv
          split at hv
          · rename_i r hr
            exact absurd hr (hzz r)
          · exact hv
        obtain ⟨u, h1, h2⟩ := pin_w (len_pin hv') fun w => len_ok (P := P) (w := w) (ty := o.type) (hev hpc y) hv'
        refine ⟨u, fun w' hw => ?_, h2⟩
        have h1 := h1 w'
        have ea : cl.args = #[y] := by apply Array.ext'; simpa using hy
        have et : cl.argTypes = #[t] := by apply Array.ext'; simpa using hts
        simp [execOp, ho, resolve, hb, invoke, builtin, ea, et, h1]
      all_goals first | cases hno | exact h.elim
    · rename_i f hf
      rw [hf] at hno
      cases hno
    · exact h.elim
  · exact h.elim
end
end Go.VM
end
section
set_option linter.unusedVariables false
set_option linter.unusedSimpArgs false
set_option linter.unnecessarySimpa false
namespace Go.VM
inductive PlanZ where
  | done
  | first (i : Nat) (s : PlanZ)
  | firstZ (i : Nat) (s : PlanZ)
  | one (i : Nat) (s : PlanZ)
  | alt (i : Nat) (s : PlanZ) (t : PlanZ)
def PlanZ.isFirst : PlanZ → Bool
  | .first _ _ => true
  | .firstZ _ _ => true
  | _ => false
def alive : List Nat → Heap → Prop
  | [], _ => True
  | r :: l, H => (match hget H r with | .dead => False | _ => True) ∧ alive l H
def killH : List Nat → Heap → Heap
  | [], H => H
  | r :: l, H => killH l (hset H r .dead)
/-- an operation that writes by itself -/
def lateOp (o : Oper) : Bool :=
  match o.op with
  | .store _ _ _ => true
  | .mapUpdate _ _ _ _ => true
  | .call c => (match c.callee with
    | .builtin .append => true
    | .builtin .delete => true
    | .builtin .copy => true
    | .builtin .clear => true
    | _ => false)
  | _ => false
def xz (P : Program) (ops : List Oper) (late Pr : List Nat) : PlanZ → Nat → (Env → Heap → Prop) → Env → Heap → Prop
  | .done, _, K, E, H => K E H
  | .first i s, k, K, E, H => (match onth ops i with
    | some o => (match gpd ops E o.guard with
      | some p => xo P k o p E H (xz P ops late Pr s (k + 1) K)
      | none => False)
    | none => False)
  | .firstZ i s, k, K, E, H => (match onth ops i with
    | some o => (match gpd ops E o.guard with
      | some p => zval P Pr o p E = true ∧ xo P k o p E H (xz P ops late Pr s (k + 1) K)
      | none => False)
    | none => False)
  | .one i s, k, K, E, H => (match onth ops i with
    | some o => (match gpd ops E o.guard with
      | some p => (match mem i late with
        | true => xo P k o p E (killH Pr H) (fun _ _ => True) ∧ xo P k o p E H (fun E' H' => alive Pr H' ∧ xz P ops late Pr s (k + 1) K E' H')
        | false => xe P k o p E H (fun E' H' => alive Pr H' ∧ xz P ops late Pr s (k + 1) K E' H'))
      | none => False)
    | none => False)
  | .alt i s t, k, K, E, H => (match onth ops i with
    | some o => (match gpd ops E o.guard with
      | some p => (match mem i late with
        | true => xo P k o p E (killH Pr H) (fun _ _ => True) ∧ xo P k o p E H (fun E' H' => alive Pr H' ∧ xz P ops late Pr s (k + 1) K E' H')
        | false => xe P k o p E H (fun E' H' => alive Pr H' ∧ xz P ops late Pr s (k + 1) K E' H'))
      | none => False)
    | none => False) ∧ xz P ops late Pr t k K E H
/-- the plan goes through all orders -/
def planZ (md : Region.Mode) (ops : Array Oper) (late : List Nat) : PlanZ → List Nat → Nat → Array Bool → Bool
  | .done, rs, _, L => rs.isEmpty && (Region.ready md ops L).isEmpty
  | .first i s, rs, n + 1, L => (match ops[i]? with
    | some o => stillOp o && Region.free md ops L i && (Region.ready md ops L).contains i && (late.all fun j => L.getD j false || anc md ops ops.size i j) && rs == Region.ready md ops L &&
      planZ md ops late s (Region.ready md ops (L.setIfInBounds i true)) n (L.setIfInBounds i true)
    | none => false)
  | .firstZ i s, rs, n + 1, L => (match ops[i]? with
    | some o => stillOp o && Region.free md ops L i && (Region.ready md ops L).contains i && !mem i late && rs == Region.ready md ops L &&
      planZ md ops late s (Region.ready md ops (L.setIfInBounds i true)) n (L.setIfInBounds i true)
    | none => false)
  | .one i s, rs, n + 1, L => rs == [i] && planZ md ops late s (Region.ready md ops (L.setIfInBounds i true)) n (L.setIfInBounds i true)
  | .alt i s t, rs, n + 1, L => (match rs with
    | j :: k :: rs => i == j && planZ md ops late s (Region.ready md ops (L.setIfInBounds i true)) n (L.setIfInBounds i true) && (!PlanZ.isFirst t && planZ md ops late t (k :: rs) (n + 1) L)
    | _ => false)
  | _, _, 0, _ => false
def lateOk (ops : Array Oper) (late : List Nat) : Bool := late.all fun i => match ops[i]? with | some o => lateOp o | none => true
section
variable {P : Program} {F : Fr} {c : Ctx} {E : Env} {H : Heap} {a : Act} {X : Nat → Bool} {k : Nat} {p : Path} {o : Oper} {K : Env → Heap → Prop} {Q : Exit → Act → World → Prop} {Pr : List Nat}
theorem upon_and {n1 n2 : Act → World → Prop} {r : Result Next} (hv : ∀ n w', r = .ok n w' → (∃ v, n = .value v) ∨ n = .skip) (h1 : o.upon P a n1 Q r) (h2 : o.upon P a n2 Q r) : o.upon P a (fun a w => n1 a w ∧ n2 a w) Q r := by
  cases r with
  | ok n w' =>
    rcases hv n w' rfl with ⟨v, rfl⟩ | rfl
    · exact ⟨h1, h2⟩
    · exact ⟨h1, h2⟩
  | halt h w' =>
    cases h with
    | panic v => exact h1
    | _ => exact h1.elim
theorem val_form {s : Sem Value} {w : World} : ∀ n w', (do pure (Next.value (← s)) : Sem Next).run P w = .ok n w' → (∃ v, n = .value v) ∨ n = .skip := by
  intro n w' h
  rw [Sem.run_bind] at h
  cases hs : s.run P w with
  | ok v w2 =>
    rw [hs] at h
    simp at h
    exact .inl ⟨v, h.1.symm⟩
  | halt x w2 => rw [hs] at h; cases h
theorem skip_form {s : Sem Unit} {w : World} : ∀ n w', (do s; pure Next.skip : Sem Next).run P w = .ok n w' → (∃ v, n = .value v) ∨ n = .skip := by
  intro n w' h
  rw [Sem.run_bind] at h
  cases hs : s.run P w with
  | ok v w2 =>
    rw [hs] at h
    simp at h
    exact .inr h.1.symm
  | halt x w2 => rw [hs] at h; cases h
theorem late_form (h : lateOp o = true) {w : World} : ∀ n w', (execOp a.eval o).run P w = .ok n w' → (∃ v, n = .value v) ∨ n = .skip := by
  unfold lateOp at h
  split at h
  · rename_i T x y ho
    rw [show execOp a.eval o = (do Instr.storeAt T (a.eval x) (a.eval y); pure Next.skip) from by simp [execOp, ho]]
    exact skip_form
  · rename_i T m x y ho
    rw [show execOp a.eval o = (do Instr.mapUpdate T (a.eval m) (a.eval x) (a.eval y); pure Next.skip) from by simp [execOp, ho]]
    exact skip_form
  · rename_i cl ho
    split at h
    · rename_i hb
      rw [show execOp a.eval o = (do pure (Next.value (← Builtin.append_ cl.argTypes o.type (cl.args.map a.eval)))) from by simp [execOp, ho, resolve, hb, invoke, builtin]]
      exact val_form
    · rename_i hb
      rw [show execOp a.eval o = (do pure (Next.value (← Builtin.delete_ cl.argTypes o.type (cl.args.map a.eval)))) from by simp [execOp, ho, resolve, hb, invoke, builtin]]
      exact val_form
    · rename_i hb
      rw [show execOp a.eval o = (do pure (Next.value (← Builtin.copy_ cl.argTypes o.type (cl.args.map a.eval)))) from by simp [execOp, ho, resolve, hb, invoke, builtin]]
      exact val_form
    · rename_i hb
      rw [show execOp a.eval o = (do pure (Next.value (← Builtin.clear_ cl.argTypes o.type (cl.args.map a.eval)))) from by simp [execOp, ho, resolve, hb, invoke, builtin]]
      exact val_form
    · cases h
  · cases h
theorem St_put (hs : St F c E H a X k) (hd : ∀ x, o.dst = some x → x < F.nt) (hp : KP X k p) {v : V} {u : Value} (h1 : pc p → VR c v u) (h2 : ¬ pc p → u = undef) : ∃ X', St F c (put E o.dst (k + 1) p v) H (a.put o.dst u) X' (k + 1) := by
  obtain ⟨X', hX⟩ := KI_put (v := v) hs.ki (d := o.dst) hp
  exact ⟨X', hs.sr, ER_put hs.er (fun x hx => by rw [hs.ao.size]; exact hd x hx) h1 h2, hX, hs.ao.put _ _⟩
/-- a frame that begins here -/
def Fr.at (F : Fr) (c : Ctx) : Fr := ⟨c, fun k => Wr F k, F.nt, F.ro, F.ds⟩
theorem SR.at (hs : SR F c H) : SR (F.at c) c H :=
  ⟨⟨rfl, rfl, rfl, Nat.le_refl _, fun _ _ _ => rfl⟩, Le.refl _, hs.len, fun r b l hr hl => by
    have := hs.blk r b l hr hl
    cases l with
    | none => exact this
    | some l =>
      intro hL
      obtain ⟨O, h1, h2, h3, h4⟩ := this hL
      exact ⟨O, h1, h2, h3, .inr h4⟩, hs.inj, hs.imm, fun b h => .inl h⟩
theorem SR.un {c' : Ctx} {H' : Heap} (hs : SR F c H) (h : SR (F.at c) c' H') : SR F c' H' ∧ Le c c' := by
  refine ⟨⟨⟨h.fr.os.trans hs.fr.os, h.fr.tape.trans hs.fr.tape, h.fr.output.trans hs.fr.output, Nat.le_trans hs.fr.size h.fr.size, fun k hk hx => ?_⟩, hs.le.trans h.le, h.len, fun r b l hr hl => ?_, h.inj, h.imm, fun b hb => ?_⟩, h.le⟩
  · have h1 : c'.w.heap[k]? = c.w.heap[k]? := h.fr.block k (Nat.lt_of_lt_of_le hk hs.fr.size) (by
      rintro (h1 | h1)
      · omega
      · exact hx h1)
    rw [h1]
    exact hs.fr.block k hk hx
  · have := h.blk r b l hr hl
    cases l with
    | none => exact this
    | some l =>
      intro hL
      obtain ⟨O, h1, h2, h3, h4⟩ := this hL
      refine ⟨O, h1, h2, h3, ?_⟩
      rcases h4 with h4 | h4
      · exact .inl (Nat.le_trans hs.fr.size h4)
      · exact h4
  · rcases h.old b hb with h1 | h1
    · exact hs.old b h1
    · exact .inr (Nat.le_trans hs.fr.size h1)
theorem killH_get : ∀ (Pr : List Nat) (H : Heap) (r : Nat) (x : Blk), (killH Pr H)[r]? = some x → x = .dead ∨ (H[r]? = some x ∧ r ∉ Pr)
  | [], H, r, x, h => .inr ⟨h, by simp⟩
  | q :: Pr, H, r, x, h => by
    rcases killH_get Pr (hset H q .dead) r x h with h1 | ⟨h1, h2⟩
    · exact .inl h1
    · rw [hset_get] at h1
      split at h1
      · cases h1; exact .inl rfl
      · rename_i hne
        by_cases hrq : r = q
        · subst hrq
          have : H[r]? = none := by
            rw [List.getElem?_eq_none_iff]
            exact Nat.le_of_not_lt fun h => hne ⟨rfl, h⟩
          rw [this] at h1
          cases h1
        · exact .inr ⟨h1, by simp [hrq, h2]⟩
theorem killH_length : ∀ (Pr : List Nat) (H : Heap), (killH Pr H).length = H.length
  | [], H => rfl
  | q :: Pr, H => by rw [killH, killH_length Pr, hset_length]
theorem alive_get : ∀ {Pr : List Nat} {H : Heap}, alive Pr H → ∀ r ∈ Pr, ∃ x, H[r]? = some x ∧ Live x
  | q :: Pr, H, h, r, hr => by
    rcases List.mem_cons.1 hr with rfl | hr
    · have h1 := h.1
      cases hx : hget H r with
      | dead => rw [hx] at h1; exact h1.elim
      | box cs => exact ⟨_, hget_live hx trivial, trivial⟩
      | arr e n f => exact ⟨_, hget_live hx trivial, trivial⟩
      | mp es => exact ⟨_, hget_live hx trivial, trivial⟩
    · exact alive_get h.2 r hr
def Fr.kl (F : Fr) (c : Ctx) (H : Heap) (Pr : List Nat) : Fr := ⟨c, fun k => ∃ (r m : Nat) (x : Blk), (killH Pr H)[r]? = some x ∧ Live x ∧ c.locs[r]? = some (some (k, m)), F.nt, F.ro, F.ds⟩
theorem SR.kl (hs : SR F c H) (Pr : List Nat) : SR (F.kl c H Pr) c (killH Pr H) := by
  refine ⟨⟨rfl, rfl, rfl, Nat.le_refl _, fun _ _ _ => rfl⟩, Le.refl _, by rw [killH_length]; exact hs.len, fun r b l hr hl => ?_, fun r r' x x' b m m' hr hr' hx hx' hl hl' => ?_, hs.imm, fun b h => .inl h⟩
  · rcases killH_get Pr H r b hr with rfl | ⟨h1, h2⟩
    · cases l with
      | none => trivial
      | some l => exact fun h => h.elim
    · have := hs.blk r b l h1 hl
      cases l with
      | none => exact this
      | some l =>
        intro hL
        obtain ⟨O, g1, g2, g3, g4⟩ := this hL
        exact ⟨O, g1, g2, g3, .inr ⟨r, l.2, b, hr, hL, hl⟩⟩
  · rcases killH_get Pr H r x hr with rfl | ⟨h1, _⟩
    · exact hx.elim
    · rcases killH_get Pr H r' x' hr' with rfl | ⟨h1', _⟩
      · exact hx'.elim
      · exact hs.inj r r' x x' b m m' h1 h1' hx hx' hl hl'
/-- what is kept lies in the world -/
theorem Zc_lt (hs : SR F c H) (ha : alive Pr H) {k : Nat} (h : Zc Pr c k) : k < c.w.heap.size := by
  rcases h with h | ⟨r, hr, m, hl⟩
  · exact hs.imm k h
  · obtain ⟨x, hx, hL⟩ := alive_get ha r hr
    obtain ⟨O, h1, _⟩ := hs.blk r x _ hx hl hL
    exact (Array.getElem?_eq_some_iff.1 h1).1
theorem Zc_kl (hs : SR F c H) (ha : alive Pr H) {w' : World} (h : FR (F.kl c H Pr) w') : Kp (Zc Pr c) c.w w' := by
  intro k hk
  refine h.block k (Zc_lt hs ha hk) ?_
  rintro ⟨r', m', x', g1, g2, g3⟩
  rcases killH_get Pr H r' x' g1 with rfl | ⟨g4, g5⟩
  · exact g2
  · rcases hk with hk | ⟨r, hr, m, hl⟩
    · obtain ⟨O, h1, h2, h3, h4⟩ := hs.blk r' x' _ g4 g3 g2
      exact h3 hk
    · obtain ⟨x, hx, hL⟩ := alive_get ha r hr
      have := hs.inj r r' x x' k m m' hx g4 hL g2 hl g3
      subst this
      exact g5 hr
theorem Zc_ext (hs : SR F c H) (ha : alive Pr H) {w' : World} (h : c.w.Extends w') : Kp (Zc Pr c) c.w w' := fun k hk => h.block k (Zc_lt hs ha hk)
theorem Zc_le {c' : Ctx} (h : Le c c') (k : Nat) (hk : Zc Pr c k) : Zc Pr c' k := by
  rcases hk with hk | ⟨r, hr, m, hl⟩
  · exact .inl (h.I k hk)
  · exact .inr ⟨r, hr, m, h.locs r _ hl⟩
theorem St.at (hs : St F c E H a X k) : St (F.at c) c E H a X k := ⟨hs.sr.at, hs.er, hs.ki, ⟨hs.ao.defers, hs.ao.size⟩⟩
theorem St.kl (hs : St F c E H a X k) (Pr : List Nat) : St (F.kl c H Pr) c E (killH Pr H) a X k := ⟨hs.sr.kl Pr, hs.er, hs.ki, ⟨hs.ao.defers, hs.ao.size⟩⟩
theorem St.un {c' : Ctx} {E' : Env} {H' : Heap} {a' : Act} {X' : Nat → Bool} {k' : Nat} (hs : St F c E H a X k) (h : St (F.at c) c' E' H' a' X' k') : St F c' E' H' a' X' k' ∧ Le c c' :=
  ⟨⟨(hs.sr.un h.sr).1, h.er, h.ki, ⟨h.ao.defers, h.ao.size⟩⟩, (hs.sr.un h.sr).2⟩
end
section
variable {P : Program} {F : Fr} {Pr : List Nat}
/-- what the choices of a plan come to -/
theorem GF.in {c : Ctx} {H : Heap} (gt : GF P F) (hs : SR F c H) {F' : Fr} (h0 : F'.c0 = c) (hX : ∀ b, F'.X b → Wr F b) : GF P F' := fun c' H' h => by
  subst h0
  refine gt c' (H'.map fun _ => .dead) ⟨⟨h.fr.os.trans hs.fr.os, h.fr.tape.trans hs.fr.tape, h.fr.output.trans hs.fr.output, Nat.le_trans hs.fr.size h.fr.size, fun k hk hx => ?_⟩, hs.le.trans h.le, by simp [h.len], fun r b l hr hl => ?_, fun r r' x x' b m m' h1 h2 hl => ?_, h.imm, fun b hb => ?_⟩
  · refine (h.fr.block k (Nat.lt_of_lt_of_le hk hs.fr.size) fun hh => ?_).trans (hs.fr.block k hk hx)
    rcases hX k hh with h1 | h1
    · omega
    · exact hx h1
  · simp only [List.getElem?_map, Option.map_eq_some_iff] at hr
    obtain ⟨_, _, rfl⟩ := hr
    cases l with
    | none => trivial
    | some l => exact fun h => h.elim
  · simp only [List.getElem?_map, Option.map_eq_some_iff] at h1
    obtain ⟨_, _, rfl⟩ := h1
    exact hl.elim
  · rcases h.old b hb with h1 | h1
    · exact hs.old b h1
    · exact .inr (Nat.le_trans hs.fr.size h1)
theorem Fr.kl_wr {c : Ctx} {H : Heap} (hs : SR F c H) (Pr : List Nat) (b : Nat) (h : (F.kl c H Pr).X b) : Wr F b := by
  obtain ⟨r, m, x, h1, h2, h3⟩ := h
  rcases killH_get Pr H r x h1 with rfl | ⟨h4, _⟩
  · exact h2.elim
  · obtain ⟨O, _, _, _, h5⟩ := hs.blk r x _ h4 h3 h2
    exact h5
theorem xz_sound (gt : GF P F) {ops : Array Oper} {late : List Nat} {KX : VM.X → Env → Heap → Prop} (hsel : Region.noSelect ops = true) (hnt : ∀ o ∈ ops.toList, ∀ x, o.dst = some x → x < F.nt) (hlate : lateOk ops late = true) :
    ∀ (pl : PlanZ) (n : Nat) (L : Array Bool) (k : Nat) (c : Ctx) (E : Env) (H : Heap) (a : Act) (X : Nat → Bool), Closed .any ops L → St F c E H a X k → alive Pr H → xz P ops.toList late Pr pl k (KX .normal) E H →
      (planZ .any ops late pl (Region.ready .any ops L) n L = true → wpAnyZ P .any ops (liftS F KX) (fun i => mem i late) (Zc Pr c) n L a c.w) ∧
      (∀ rs m, n = m + 1 → rs ≠ [] → rs ⊆ Region.ready .any ops L → pl.isFirst = false → planZ .any ops late pl rs n L = true → ∀ i ∈ rs, wpOp P ops (liftS F KX) i (fun a' w' => (mem i late = false → c.w.Extends w') ∧ Kp (Zc Pr c) c.w w' ∧ ∃ Z' : Nat → Prop, (∀ k, Zc Pr c k → Z' k) ∧ wpAnyZ P .any ops (liftS F KX) (fun i => mem i late) Z' m (L.setIfInBounds i true) a' w') a c.w) := by
  have hto : ops.toList.toArray = ops := by simp
  have step : ∀ (s : PlanZ) (m : Nat) (L : Array Bool) (k : Nat) (c : Ctx) (E : Env) (H : Heap) (a : Act) (X : Nat → Bool) (i : Nat),
      (∀ (k : Nat) (c : Ctx) (E : Env) (H : Heap) (a : Act) (X : Nat → Bool), St F c E H a X k → alive Pr H → xz P ops.toList late Pr s k (KX .normal) E H → wpAnyZ P .any ops (liftS F KX) (fun i => mem i late) (Zc Pr c) m (L.setIfInBounds i true) a c.w) →
      St F c E H a X k → alive Pr H →
      (match onth ops.toList i with
      | some o => (match gpd ops.toList E o.guard with
        | some p => (match mem i late with
          | true => xo P k o p E (killH Pr H) (fun _ _ => True) ∧ xo P k o p E H (fun E' H' => alive Pr H' ∧ xz P ops.toList late Pr s (k + 1) (KX .normal) E' H')
          | false => xe P k o p E H (fun E' H' => alive Pr H' ∧ xz P ops.toList late Pr s (k + 1) (KX .normal) E' H'))
        | none => False)
      | none => False) →
      wpOp P ops (liftS F KX) i (fun a' w' => (mem i late = false → c.w.Extends w') ∧ Kp (Zc Pr c) c.w w' ∧ ∃ Z' : Nat → Prop, (∀ k, Zc Pr c k → Z' k) ∧ wpAnyZ P .any ops (liftS F KX) (fun i => mem i late) Z' m (L.setIfInBounds i true) a' w') a c.w := by
    intro s m L k c E H a X i ih hs ha h
    split at h
    case h_2 => exact h.elim
    rename_i o ho
    split at h
    case h_2 => exact h.elim
    rename_i p hg
    have ho' : ops[i]? = some o := by rw [onth_eq] at ho; simpa using ho
    have hmem : o ∈ ops.toList := by
      rw [onth_eq] at ho
      exact List.mem_of_getElem? ho
    obtain ⟨hp, hw⟩ := gpd_ok hs.er hs.ki rfl hg
    rw [hto] at hw
    have nx : ∀ a' w', Nx (F.at c) (k + 1) (fun E' H' => alive Pr H' ∧ xz P ops.toList late Pr s (k + 1) (KX .normal) E' H') a' w' →
        ∃ Z' : Nat → Prop, (∀ k, Zc Pr c k → Z' k) ∧ wpAnyZ P .any ops (liftS F KX) (fun i => mem i late) Z' m (L.setIfInBounds i true) a' w' := by
      rintro a' w' ⟨c', E', H', X', rfl, hs', hal, hk⟩
      obtain ⟨g1, g2⟩ := hs.un hs'
      exact ⟨Zc Pr c', Zc_le g2, ih (k + 1) c' E' H' a' X' g1 hal hk⟩
    unfold wpOp
    simp only [ho']
    split at h
    · rename_i hl
      have hlo : lateOp o = true := by
        have := List.all_eq_true.1 hlate i (mem_true.1 hl)
        rw [ho'] at this
        exact this
      have hok := xo_sound (Q := liftS F KX) (gt.in hs.sr rfl fun _ h => h) hs.at (hnt o hmem) hp h.2
      have hok2 := xo_sound (Q := liftS F KX) (gt.in hs.sr rfl (Fr.kl_wr hs.sr Pr)) (hs.kl Pr) (hnt o hmem) hp h.1
      by_cases hpc : pc p
      · rw [if_pos (hw.2 hpc)]
        have hboth := upon_and (late_form hlo (P := P)) (hok.1 hpc) (hok2.1 hpc)
        refine .inl (Oper.wp_mono (fun a w h => ⟨fun h' => (by rw [hl] at h'; cases h'), ?_, nx a w h.1⟩) hboth)
        obtain ⟨c2, E2, H2, X2, rfl, hs2, _⟩ := h.2
        exact Zc_kl hs.sr ha hs2.sr.fr
      · rw [if_neg (fun h => hpc (hw.1 h))]
        exact ⟨fun _ => .refl _, .refl _ _, nx _ _ (hok.2 hpc)⟩
    · have hok := xe_sound (Q := liftS F KX) (gt.in hs.sr rfl fun _ h => h) hs.at (hnt o hmem) hp h
      by_cases hpc : pc p
      · rw [if_pos (hw.2 hpc)]
        exact .inl (Oper.wp_mono (fun a w h => ⟨fun _ => h.1, Zc_ext hs.sr ha h.1, nx a w h.2⟩) (hok.1 hpc))
      · rw [if_neg (fun h => hpc (hw.1 h))]
        exact ⟨fun _ => .refl _, .refl _ _, nx _ _ (hok.2 hpc)⟩
  intro pl
  induction pl with
  | done =>
    intro n L k c E H a X hcl hs ha h
    refine ⟨fun hB => ?_, fun rs m hn hne hsub _ hB => ?_⟩
    · simp only [planZ, Bool.and_eq_true, List.isEmpty_iff] at hB
      exact wpAnyZ_done hB.2 ⟨c, E, H, rfl, hs.sr, hs.er, hs.ao, h⟩ n
    · simp only [planZ, Bool.and_eq_true, List.isEmpty_iff] at hB
      exact absurd hB.1 hne
  | first i s ih =>
    intro n L k c E H a X hcl hs ha h
    refine ⟨fun hB => ?_, fun rs m hn hne hsub hnf hB => by cases hnf⟩
    cases n with
    | zero => simp [planZ] at hB
    | succ n =>
      simp only [planZ] at hB
      split at hB
      case h_2 => cases hB
      rename_i o ho
      simp only [Bool.and_eq_true, List.all_eq_true, Bool.or_eq_true, List.contains_iff_mem, Bool.not_eq_true'] at hB
      obtain ⟨⟨⟨⟨⟨b1, b2⟩, b3⟩, b4⟩, b5⟩, b6⟩ := hB
      simp only [xz] at h
      split at h
      case h_2 => exact h.elim
      rename_i o' ho'
      have : ops[i]? = some o' := by rw [onth_eq] at ho'; simpa using ho'
      obtain rfl : o = o' := Option.some.inj (ho.symm.trans this)
      split at h
      case h_2 => exact h.elim
      rename_i p hg
      have hmem : o ∈ ops.toList := by
        rw [onth_eq] at ho'
        exact List.mem_of_getElem? ho'
      obtain ⟨hp, hw⟩ := gpd_ok hs.er hs.ki rfl hg
      rw [hto] at hw
      obtain ⟨v, hK, hv⟩ := xo_still hs hp b1 h
      have hr : i ∈ Region.ready .any ops L := b3
      have go : ∀ u : Value, YieldsIf P ops c.w.Extends o u a → (∃ X', St F c (put E o.dst (k + 1) p v) H (a.put o.dst u) X' (k + 1)) → wpAnyZ P .any ops (liftS F KX) (fun i => mem i late) (Zc Pr c) (n + 1) L a c.w := by
        rintro u hy ⟨X', hs'⟩
        have := (ih n (L.setIfInBounds i true) (k + 1) c _ H (a.put o.dst u) X' (hcl.set hr) hs' ha hK).1 b6
        exact wpAnyZ_first (N := ops.size) ho (Region.noSelect_spec hsel) (fun _ _ _ h => h.elim) n (Zc Pr c) L a c.w hcl (Region.free_spec ho b2) (fun j hj => b4 j (mem_true.1 hj)) hr hy this
      by_cases hpc : pc p
      · obtain ⟨u, hu, hvu⟩ := hv hpc
        exact go u (.inl ⟨hw.2 hpc, hu⟩) (St_put hs (hnt o hmem) hp (fun _ => hvu) (fun h => absurd hpc h))
      · exact go undef (.inr ⟨by simpa using fun h => hpc (hw.1 h), rfl⟩) (St_put hs (hnt o hmem) hp (fun h => absurd h hpc) (fun _ => rfl))
  | firstZ i s ih =>
    intro n L k c E H a X hcl hs ha h
    refine ⟨fun hB => ?_, fun rs m hn hne hsub hnf hB => by cases hnf⟩
    cases n with
    | zero => simp [planZ] at hB
    | succ n =>
      simp only [planZ] at hB
      split at hB
      case h_2 => cases hB
      rename_i o ho
      simp only [Bool.and_eq_true, List.contains_iff_mem, Bool.not_eq_true'] at hB
      obtain ⟨⟨⟨⟨⟨b1, b2⟩, b3⟩, b4⟩, b5⟩, b6⟩ := hB
      simp only [xz] at h
      split at h
      case h_2 => exact h.elim
      rename_i o' ho'
      have : ops[i]? = some o' := by rw [onth_eq] at ho'; simpa using ho'
      obtain rfl : o = o' := Option.some.inj (ho.symm.trans this)
      split at h
      case h_2 => exact h.elim
      rename_i p hg
      have hmem : o ∈ ops.toList := by
        rw [onth_eq] at ho'
        exact List.mem_of_getElem? ho'
      obtain ⟨hp, hw⟩ := gpd_ok hs.er hs.ki rfl hg
      rw [hto] at hw
      obtain ⟨v, hK, hv⟩ := xo_stillZ hs hp b1 h.1 h.2
      have hr : i ∈ Region.ready .any ops L := b3
      have go : ∀ u : Value, YieldsIf P ops (Kp (Zc Pr c) c.w) o u a → (∃ X', St F c (put E o.dst (k + 1) p v) H (a.put o.dst u) X' (k + 1)) → wpAnyZ P .any ops (liftS F KX) (fun i => mem i late) (Zc Pr c) (n + 1) L a c.w := by
        rintro u hy ⟨X', hs'⟩
        have := (ih n (L.setIfInBounds i true) (k + 1) c _ H (a.put o.dst u) X' (hcl.set hr) hs' ha hK).1 b6
        exact wpAnyZ_firstZ ho (Region.noSelect_spec hsel) (fun _ _ _ h => h.elim) n (Zc Pr c) L a c.w hcl (Region.free_spec ho b2) b4 hr hy this
      by_cases hpc : pc p
      · obtain ⟨u, hu, hvu⟩ := hv hpc
        exact go u (.inl ⟨hw.2 hpc, hu⟩) (St_put hs (hnt o hmem) hp (fun _ => hvu) (fun h => absurd hpc h))
      · exact go undef (.inr ⟨by simpa using fun h => hpc (hw.1 h), rfl⟩) (St_put hs (hnt o hmem) hp (fun h => absurd h hpc) (fun _ => rfl))
  | one i s ih =>
    intro n L k c E H a X hcl hs ha h
    have key : ∀ rs m, n = m + 1 → rs ⊆ Region.ready .any ops L → planZ .any ops late (.one i s) rs n L = true → ∀ j ∈ rs, wpOp P ops (liftS F KX) j (fun a' w' => (mem j late = false → c.w.Extends w') ∧ Kp (Zc Pr c) c.w w' ∧ ∃ Z' : Nat → Prop, (∀ k, Zc Pr c k → Z' k) ∧ wpAnyZ P .any ops (liftS F KX) (fun i => mem i late) Z' m (L.setIfInBounds j true) a' w') a c.w := by
      rintro rs m rfl hsub hB j hj
      simp only [planZ, Bool.and_eq_true, beq_iff_eq] at hB
      obtain ⟨rfl, b2⟩ := hB
      obtain rfl : j = i := by simpa using hj
      exact step s m L k c E H a X j (fun k' c' E' H' a' X' hs' ha' hk => (ih m _ k' c' E' H' a' X' (hcl.set (hsub hj)) hs' ha' hk).1 b2) hs ha h
    refine ⟨fun hB => ?_, fun rs m hn hne hsub _ hB => key rs m hn hsub hB⟩
    cases n with
    | zero => simp [planZ] at hB
    | succ n =>
      have hne : Region.ready .any ops L ≠ [] := by
        intro h0
        rw [h0] at hB
        simp [planZ] at hB
      exact wpAnyZ_all rfl hne (key _ n rfl (fun _ h => h) hB)
  | alt i s t ihs iht =>
    intro n L k c E H a X hcl hs ha h
    have key : ∀ rs m, n = m + 1 → rs ⊆ Region.ready .any ops L → planZ .any ops late (.alt i s t) rs n L = true → ∀ j ∈ rs, wpOp P ops (liftS F KX) j (fun a' w' => (mem j late = false → c.w.Extends w') ∧ Kp (Zc Pr c) c.w w' ∧ ∃ Z' : Nat → Prop, (∀ k, Zc Pr c k → Z' k) ∧ wpAnyZ P .any ops (liftS F KX) (fun i => mem i late) Z' m (L.setIfInBounds j true) a' w') a c.w := by
      rintro rs m rfl hsub hB j hj
      simp only [planZ] at hB
      split at hB
      case h_2 => cases hB
      rename_i j1 j2 rs
      simp only [Bool.and_eq_true, beq_iff_eq, Bool.not_eq_true'] at hB
      obtain ⟨⟨rfl, b2⟩, b3⟩ := hB
      rcases List.mem_cons.1 hj with rfl | hj
      · exact step s m L k c E H a X j (fun k' c' E' H' a' X' hs' ha' hk => (ihs m _ k' c' E' H' a' X' (hcl.set (hsub (.head _))) hs' ha' hk).1 b2) hs ha h.1
      · exact (iht (m + 1) L k c E H a X hcl hs ha h.2).2 _ m rfl (by simp) (fun x hx => hsub (.tail _ hx)) b3.1 b3.2 j hj
    refine ⟨fun hB => ?_, fun rs m hn hne hsub _ hB => key rs m hn hsub hB⟩
    cases n with
    | zero => simp [planZ] at hB
    | succ n =>
      have hne : Region.ready .any ops L ≠ [] := by
        intro h0
        rw [h0] at hB
        simp [planZ] at hB
      exact wpAnyZ_all rfl hne (key _ n rfl (fun _ h => h) hB)
/-- A REGION THAT DRAWS ITS ORDER, by a plan; some blocks are written by nothing meanwhile. -/
theorem cx_drawZ {n id : Nat} {ops : Array Oper} {E : Env} {H : Heap} {K : VM.X → Env → Heap → Prop} (hm : P.follows .mixedOrders = true) (Pr late : List Nat) (pl : PlanZ)
    (hB : (Region.noSelect ops && (lateOk ops late && planZ .any ops late pl (Region.ready .any ops (Array.replicate ops.size false)) ops.size (Array.replicate ops.size false))) = true)
    (h : alive Pr H ∧ xz P ops.toList late Pr pl 0 (K .normal) (clean E) H) : cx P n (.region id ops true) E H K := by
  intro F c a hn hs he ha hok
  simp only [Bool.and_eq_true] at hB
  obtain ⟨hs', hle⟩ := hs.drew
  have hcl : Closed .any ops (Array.replicate ops.size false) := ⟨by simp, fun j oj hj hl => by
    have : (Array.replicate ops.size false).getD j false = false := by
      rcases Nat.lt_or_ge j ops.size with h | h
      · simp [h]
      · simp [h]
    rw [this] at hl
    cases hl⟩
  have := (xz_sound (F := F) (KX := K) hn.gt hB.1 (okc_region hok) hB.2.1 pl ops.size (Array.replicate ops.size false) 0 { c with w := c.w.drew } (clean E) H a _ hcl ⟨hs', ER_clean (ER_mono hle he), KI_clean E, ha⟩ h.1 h.2).1 hB.2.2
  exact wpIn_mono (regionIn_any hm liftS_out (okc_nodef hok) (wpAny_of_Z _ _ _ _ _ this)) fun _ _ _ => lift_of
end
end Go.VM
end
section
set_option linter.unusedVariables false
set_option linter.unusedSimpArgs false
namespace Go.VM
section
variable {P : Program} {ops : List Oper} {k i : Nat} {o : Oper} {os : List Oper} {K : Env → Heap → Prop} {E E' : Env} {H H' : Heap} {p p' : Path} {late Pr : List Nat} {s t : PlanZ}
/-- what goes on, with the kept blocks alive -/
def kA (Pr : List Nat) (K : Env → Heap → Prop) (E : Env) (H : Heap) : Prop := alive Pr H ∧ K E H
def kT (E : Env) (H : Heap) : Prop := True
theorem kA_eq : kA Pr K E H = (alive Pr H ∧ K E H) := nr rfl
theorem kT_eq : kT E H = True := nr rfl
@[congr] theorem kA_congr (h1 : E = E') (h2 : H = H') : kA Pr K E H = kA Pr K E' H' := by rw [h1, h2]
@[congr] theorem xz_congr (h1 : E = E') (h2 : H = H') : xz P ops late Pr s k K E H = xz P ops late Pr s k K E' H' := by rw [h1, h2]
def xpz (P : Program) (ops : List Oper) (Pr : List Nat) (late : Bool) (i k : Nat) (o : Option Oper) (E : Env) (H : Heap) (K : Env → Heap → Prop) : Prop :=
  match o with
  | some o => xg (gpd ops E o.guard) fun p => (match late with
    | true => xo P k o p E (killH Pr H) kT ∧ xo P k o p E H (kA Pr K)
    | false => xe P k o p E H (kA Pr K))
  | none => False
def xpf (P : Program) (ops : List Oper) (Pr : List Nat) (i k : Nat) (o : Option Oper) (E : Env) (H : Heap) (K : Env → Heap → Prop) : Prop :=
  match o with
  | some o => xg (gpd ops E o.guard) fun p => zval P Pr o p E = true ∧ xo P k o p E H K
  | none => False
@[congr] theorem xpz_congr {l l' : Bool} {q q' : Option Oper} (h : l = l') (h' : q = q') : xpz P ops Pr l i k q E H K = xpz P ops Pr l' i k q' E H K := by rw [h, h']
@[congr] theorem xpf_congr {q q' : Option Oper} (h' : q = q') : xpf P ops Pr i k q E H K = xpf P ops Pr i k q' E H K := by rw [h']
theorem xpz_true : xpz P ops Pr true i k (some o) E H K = xg (gpd ops E o.guard) fun p => xo P k o p E (killH Pr H) kT ∧ xo P k o p E H (kA Pr K) := nr rfl
theorem xpz_false : xpz P ops Pr false i k (some o) E H K = xg (gpd ops E o.guard) fun p => xe P k o p E H (kA Pr K) := nr rfl
theorem xpf_some : xpf P ops Pr i k (some o) E H K = xg (gpd ops E o.guard) fun p => zval P Pr o p E = true ∧ xo P k o p E H K := nr rfl
theorem xz_done : xz P ops late Pr .done k K E H = K E H := nr rfl
theorem xz_first : xz P ops late Pr (.first i s) k K E H = xp P ops true i k (onth ops i) E H (xz P ops late Pr s (k + 1) K) := nr (by
  unfold xp xg; conv => lhs; unfold xz
  all_goals (cases onth ops i <;> rfl))
theorem xz_firstZ : xz P ops late Pr (.firstZ i s) k K E H = xpf P ops Pr i k (onth ops i) E H (xz P ops late Pr s (k + 1) K) := nr (by
  unfold xpf xg; conv => lhs; unfold xz
  all_goals (cases onth ops i <;> rfl))
theorem xz_one : xz P ops late Pr (.one i s) k K E H = xpz P ops Pr (mem i late) i k (onth ops i) E H (xz P ops late Pr s (k + 1) K) := nr (by
  unfold xpz xg; conv => lhs; unfold xz
  all_goals (cases onth ops i <;> rfl))
theorem xz_alt : xz P ops late Pr (.alt i s t) k K E H = (xpz P ops Pr (mem i late) i k (onth ops i) E H (xz P ops late Pr s (k + 1) K) ∧ xz P ops late Pr t k K E H) := nr (by
  unfold xpz xg; conv => lhs; unfold xz
  all_goals (cases onth ops i <;> rfl))
variable {d : Option Nat} {ty : TypeId} {pos : String} {aft : Array Edge} {g : Option (Nat × Bool)}
theorem zv_move {x} : zval P Pr ⟨d, .move x, ty, pos, aft, g⟩ p E = true := nq rfl
theorem zv_assign {x} : zval P Pr ⟨d, .assign x, ty, pos, aft, g⟩ p E = true := nq rfl
theorem zv_pick {x y z} : zval P Pr ⟨d, .pick x y z, ty, pos, aft, g⟩ p E = true := nq rfl
theorem zv_binOp {b T x y u} : zval P Pr ⟨d, .binOp b T x y u, ty, pos, aft, g⟩ p E = true := nq rfl
theorem zv_unOp {b T x} : zval P Pr ⟨d, .unOp b T x, ty, pos, aft, g⟩ p E = true := nq rfl
theorem zv_extract {x j} : zval P Pr ⟨d, .extract x j, ty, pos, aft, g⟩ p E = true := nq rfl
theorem zv_nilCheck {x} : zval P Pr ⟨d, .nilCheck x, ty, pos, aft, g⟩ p E = true := nq rfl
theorem zv_fieldAddr {T x f} : zval P Pr ⟨d, .fieldAddr T x f, ty, pos, aft, g⟩ p E = true := nq rfl
theorem zv_index {T x f} : zval P Pr ⟨d, .index T x f, ty, pos, aft, g⟩ p E = true := nq rfl
theorem zv_indexAddr {T x f} : zval P Pr ⟨d, .indexAddr T x f, ty, pos, aft, g⟩ p E = true := nq rfl
theorem zv_slice {T x l h m} : zval P Pr ⟨d, .slice T x l h m, ty, pos, aft, g⟩ p E = true := nq rfl
theorem zv_field {T x f} : zval P Pr ⟨d, .field T x f, ty, pos, aft, g⟩ p E = true := nq rfl
theorem zv_build {T x} : zval P Pr ⟨d, .build T x, ty, pos, aft, g⟩ p E = true := nq rfl
theorem zv_load {T x} : zval P Pr ⟨d, .load T x, ty, pos, aft, g⟩ p E = ldOk Pr (ev E p x) := nq rfl
def zT (b : Bool) : Bool := match b with | true => false | false => true
theorem zv_convert {S D x} : zval P Pr ⟨d, .convert S D x, ty, pos, aft, g⟩ p E = zT (tbyte P S) := nq (by unfold zval zT; rfl)
theorem zT_false : zT false = true := nq rfl
theorem ld_ptr {r off : Nat} : ldOk Pr (.ptr r off) = mem r Pr := nq rfl
theorem ld_eptr {r e j off : Nat} : ldOk Pr (.eptr r e j off) = mem r Pr := nq rfl
theorem ld_iptr {cs : List V} {off : Nat} : ldOk Pr (.iptr cs off) = true := nq rfl
/-- of a length -/
def zL (vs : List V) : Bool := match vs with | [.mp _] => false | _ => true
theorem zv_call {c : Call} : zval P Pr ⟨d, .call c, ty, pos, aft, g⟩ p E = zL (evs E p c.args.toList) := nq (by unfold zval zL; rfl)
theorem zL_str {x} : zL [.str x] = true := nq rfl
theorem zL_lst {a b c e f} : zL [.lst a b c e f] = true := nq rfl
theorem zL_own {a b c e f h} : zL [.own a b c e f h] = true := nq rfl
theorem zL_nil : zL [.nil] = true := nq rfl
/-- is a block there? -/
def lvB (b : Blk) : Prop := match b with | .dead => False | _ => True
theorem lvB_box {cs} : lvB (.box cs) = True := nr rfl
theorem lvB_arr {e n f} : lvB (.arr e n f) = True := nr rfl
theorem lvB_mp {es} : lvB (.mp es) = True := nr rfl
theorem alive_nil : alive [] H = True := nr rfl
theorem alive_cons {r : Nat} {l : List Nat} : alive (r :: l) H = (lvB (hget H r) ∧ alive l H) := nr (by
  unfold lvB
  conv => lhs; unfold alive
  all_goals (cases hget H r <;> rfl))
end
attribute [go_sem] kA_eq kT_eq xpz_true xpz_false xpf_some xz_done xz_first xz_firstZ xz_one xz_alt zv_move zv_assign zv_pick zv_binOp zv_unOp zv_extract zv_nilCheck zv_fieldAddr zv_index zv_indexAddr zv_slice zv_field zv_build zv_load zv_convert zT_false ld_ptr ld_eptr ld_iptr zv_call zL_str zL_lst zL_own zL_nil lvB_box lvB_arr lvB_mp alive_nil alive_cons killH
end Go.VM
end
section
set_option linter.unusedVariables false
set_option linter.unusedSimpArgs false
namespace Go.VM
end Go.VM
end
section
set_option linter.unusedVariables false
set_option linter.unusedSimpArgs false
namespace Go.VM
section
variable {P : Program} {F : Fr} {c : Ctx} {E : Env} {H : Heap} {a : Act} {X : Nat → Bool} {k : Nat} {p : Path} {o : Oper} {K : Env → Heap → Prop} {Q : Exit → Act → World → Prop}
/-- a literal list that nobody writes -/
def buildSliceF (e : Nat) (z : Option (List V)) (n : Nat) (parts : List (Nat × V)) (H : Heap) (K : V → Heap → Prop) : Prop :=
  match z with
  | some z => (match fillV (fun i => some (i * e, e)) (rep n z) parts with
    | some cs => (∀ i, i < n → ltrs 0 (mkArr e n cs i) = true) ∧ Nat.blt 0 n = true ∧ (bif Nat.ble (n * e) 16777216 then K (.lst (some false) .loose e n (mkArr e n cs)) (hadd H .dead) else False)
    | none => False)
  | none => False
def xoF (P : Program) (k : Nat) (o : Oper) (p : Path) (E : Env) (H : Heap) (K : Env → Heap → Prop) : Prop :=
  match o.op with
  | .buildSlice T n parts => (match p, telem P T with
    | [], some e => buildSliceF (tsize P e) (tzero P e) n (evp E p parts.toList) H fun v H => K (put E o.dst (k + 1) p v) H
    | _, _ => False)
  | _ => xo P k o p E H K
/-- operations one after the other; some literal lists are written by nobody -/
def xsF (P : Program) (ops : List Oper) (fz : List Nat) (k : Nat) : List Oper → (Env → Heap → Prop) → Env → Heap → Prop
  | [], K, E, H => K E H
  | o :: os, K, E, H => match gp ops E o.guard with
    | some p => (match mem k fz with
      | true => xoF P k o p E H (xsF P ops fz (k + 1) os K)
      | false => xo P k o p E H (xsF P ops fz (k + 1) os K))
    | none => False
end
section
variable {P : Program} {ops os : List Oper} {fz : List Nat} {k : Nat} {o : Oper} {K : Env → Heap → Prop} {KV : V → Heap → Prop} {E : Env} {H : Heap} {p : Path} {d : Option Nat} {ty : TypeId} {pos : String} {aft : Array Edge} {g : Option (Nat × Bool)}
def xoB (P : Program) (b : Bool) (k : Nat) (o : Oper) (p : Path) (E : Env) (H : Heap) (K : Env → Heap → Prop) : Prop :=
  match b with
  | true => xoF P k o p E H K
  | false => xo P k o p E H K
@[congr] theorem xoB_congr {b b' : Bool} {p p' : Path} (h : b = b') (h' : p = p') : xoB P b k o p E H K = xoB P b' k o p' E H K := by rw [h, h']
theorem xoB_false : xoB P false k o p E H K = xo P k o p E H K := nr rfl
theorem xoB_true : xoB P true k o p E H K = xoF P k o p E H K := nr rfl
@[congr] theorem xsF_congr {E' : Env} {H' : Heap} (h1 : E = E') (h2 : H = H') : xsF P ops fz k os K E H = xsF P ops fz k os K E' H' := by rw [h1, h2]
@[congr] theorem xoF_congr {p' : Path} (h : p = p') : xoF P k o p E H K = xoF P k o p' E H K := by rw [h]
theorem xsF_nil : xsF P ops fz k [] K E H = K E H := nr rfl
theorem xsF_cons : xsF P ops fz k (o :: os) K E H = xg (gp ops E o.guard) fun p => xoB P (mem k fz) k o p E H (xsF P ops fz (k + 1) os K) := nr (by unfold xsF xg xoB; rfl)
/-- a literal list, as a view -/
def bsF (o : Option Nat) (P : Program) (n : Nat) (parts : List (Nat × V)) (H : Heap) (K : V → Heap → Prop) : Prop :=
  match o with
  | some e => buildSliceF (tsize P e) (tzero P e) n parts H K
  | none => False
theorem bsF_some {e : Nat} {parts : List (Nat × V)} {n : Nat} : bsF (some e) P n parts H KV = buildSliceF (tsize P e) (tzero P e) n parts H KV := nr rfl
@[congr] theorem bsF_congr {o o' : Option Nat} {n : Nat} {parts parts' : List (Nat × V)} (h : o = o') (h' : parts = parts') : bsF o P n parts H KV = bsF o' P n parts' H KV := by rw [h, h']
theorem xoF_build {T n : Nat} {parts : Array (Nat × Operand)} : xoF P k ⟨d, .buildSlice T n parts, ty, pos, aft, g⟩ [] E H K = bsF (telem P T) P n (evp E [] parts.toList) H fun v H => K (put E d (k + 1) [] v) H := nr (by
  unfold xoF bsF
  dsimp only
  all_goals (cases telem P T <;> rfl))
def bsG (q : Option (List V)) (e n : Nat) (H : Heap) (K : V → Heap → Prop) : Prop :=
  match q with
  | some cs => (∀ i, i < n → ltrs 0 (mkArr e n cs i) = true) ∧ Nat.blt 0 n = true ∧ (bif Nat.ble (n * e) 16777216 then K (.lst (some false) .loose e n (mkArr e n cs)) (hadd H .dead) else False)
  | none => False
theorem bsG_some {cs : List V} {e n : Nat} : bsG (some cs) e n H KV = ((∀ i, i < n → ltrs 0 (mkArr e n cs i) = true) ∧ Nat.blt 0 n = true ∧ (bif Nat.ble (n * e) 16777216 then KV (.lst (some false) .loose e n (mkArr e n cs)) (hadd H .dead) else False)) := nr rfl
@[congr] theorem bsG_congr {q q' : Option (List V)} {e n : Nat} (h : q = q') : bsG q e n H KV = bsG q' e n H KV := by rw [h]
theorem buildSliceF_eq {e n : Nat} {z : List V} {parts : List (Nat × V)} : buildSliceF e (some z) n parts H KV = bsG (fillV (fun i => some (i * e, e)) (rep n z) parts) e n H KV := nr rfl
end
attribute [go_sem] xoB_false xoB_true xsF_nil xsF_cons bsF_some xoF_build bsG_some buildSliceF_eq
end Go.VM
end
