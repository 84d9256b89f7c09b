import Derived.Test.YtkcbjhjpepdkcaaVMr
import Derived.OrdersHeld
import Derived.Extends
set_option linter.unusedVariables false
set_option linter.unusedSimpArgs false
set_option linter.unnecessarySimpa false
namespace Go.VM
/-! ### Regions that draw their order: what reads only is taken first; the others are gone through as they may come up -/
section
variable {P : Program} {ops : Array Oper} {Q : Exit → Act → World → Prop} {md : Region.Mode}
/-- whatever order is picked from here on; an operation that is not among the late ones leaves all that was there as it was -/
def wpAnyE (P : Program) (md : Region.Mode) (ops : Array Oper) (Q : Exit → Act → World → Prop) (late : Nat → Bool) : Nat → Array Bool → Act → World → Prop
  | 0, listed, a, w => Region.ready md ops listed = [] ∧ Q .normal a w
  | fuel + 1, listed, a, w =>
    (Region.ready md ops listed = [] → Q .normal a w) ∧
    ∀ i ∈ Region.ready md ops listed, wpOp P ops Q i (fun a' w' => (late i = false → w.Extends w') ∧ wpAnyE P md ops Q late fuel (listed.setIfInBounds i true) a' w') a w
theorem wpAny_of_E {late : Nat → Bool} : ∀ (fuel : Nat) (listed : Array Bool) (a : Act) (w : World), wpAnyE P md ops Q late fuel listed a w → wpAny P md ops Q fuel listed a w
  | 0, _, _, _, h => h
  | fuel + 1, _, _, _, h => ⟨h.1, fun i hi => wpOp_mono (fun a' w' h' => wpAny_of_E fuel _ a' w' h'.2) (h.2 i hi)⟩
/-- who is listed has all that it waits for listed -/
def Closed (md : Region.Mode) (ops : Array Oper) (listed : Array Bool) : Prop :=
  listed.size = ops.size ∧ ∀ j oj, ops[j]? = some oj → listed.getD j false = true → ∀ e ∈ oj.after, Region.binds md e = true → listed.getD e.on false = true
/-- the first one stands ahead of the second one -/
def anc (md : Region.Mode) (ops : Array Oper) : Nat → Nat → Nat → Bool
  | 0, _, _ => false
  | n + 1, i, j => match ops[j]? with
    | some oj => oj.after.any fun e => Region.binds md e && (Nat.beq e.on i || anc md ops n i e.on)
    | none => false
theorem anc_unlisted {listed : Array Bool} (hc : Closed md ops listed) {i : Nat} (hi : listed.getD i false = false) : ∀ (n j : Nat), anc md ops n i j = true → ∃ oj e, ops[j]? = some oj ∧ e ∈ oj.after ∧ Region.binds md e = true ∧ listed.getD e.on false = false := by
  intro n
  induction n with
  | zero => intro j h; cases h
  | succ n ih =>
    intro j h
    unfold anc at h
    split at h
    · rename_i oj hj
      obtain ⟨e, he, hb⟩ := Array.any_eq_true'.1 h
      simp only [Bool.and_eq_true, Bool.or_eq_true] at hb
      refine ⟨oj, e, hj, he, hb.1, ?_⟩
      rcases hb.2 with h1 | h1
      · rw [beq_nat h1]; exact hi
      · obtain ⟨ok, e', h2, h3, h4, h5⟩ := ih _ h1
        cases hh : listed.getD e.on false with
        | false => rfl
        | true => rw [hc.2 _ ok h2 hh e' h3 h4] at h5; cases h5
    · cases h
theorem anc_not_ready {listed : Array Bool} (hc : Closed md ops listed) {i : Nat} (hi : listed.getD i false = false) {n j : Nat} (h : anc md ops n i j = true) : j ∉ Region.ready md ops listed := by
  intro hr
  obtain ⟨oj, e, h1, h2, h3, h4⟩ := anc_unlisted hc hi n j h
  obtain ⟨_, o', ho', hall⟩ := mem_ready.1 hr
  obtain rfl : oj = o' := Option.some.inj (h1.symm.trans ho')
  have := hall e h2 h3
  rw [h4] at this
  cases this
theorem Closed.set {listed : Array Bool} (hc : Closed md ops listed) {i : Nat} (hi : i ∈ Region.ready md ops listed) : Closed md ops (listed.setIfInBounds i true) := by
  obtain ⟨_, oi, hoi, hall⟩ := mem_ready.1 hi
  have key : ∀ k, listed.getD k false = true → (listed.setIfInBounds i true).getD k false = true := fun k hk => by
    by_cases hik : i = k
    · subst hik
      have : i < listed.size := by
        rcases Nat.lt_or_ge i listed.size with h | h
        · exact h
        · simp [Array.getElem?_eq_none h] at hk
      simp [this]
    · rw [getD_set_ne false hik]; exact hk
  refine ⟨by simp [hc.1], fun j oj hj hl e he hb => ?_⟩
  by_cases hij : i = j
  · subst hij
    obtain rfl : oj = oi := Option.some.inj (hj.symm.trans hoi)
    exact key _ (hall e he hb)
  · rw [getD_set_ne false hij] at hl
    exact key _ (hc.2 j oj hj hl e he hb)
theorem ready_unlisted {listed : Array Bool} {i : Nat} (h : i ∈ Region.ready md ops listed) : listed.getD i false = false := by
  obtain ⟨h0, _⟩ := mem_ready.1 h
  rcases Nat.lt_or_ge i listed.size with h' | h'
  · simp [h'] at h0 ⊢; exact h0
  · simp [Array.getElem?_eq_none h']
/-- **what reads only may be taken first** -/
theorem wpAnyE_first {late : Nat → Bool} {N i : Nat} {oi : Oper} {v : Value} (hi : ops[i]? = some oi) (hsel : ∀ (j : Nat) (o : Oper) cs b, ops[j]? = some o → o.op ≠ .select cs b)
    (hQ : ∀ c a w, Q (.panic c) (a.put oi.dst v) w → Q (.panic c) a w) :
    ∀ (fuel : Nat) (listed : Array Bool) (a : Act) (w : World), Closed md ops listed →
      (∀ j oj, ops[j]? = some oj → j ≠ i → listed.getD j true = false → (∀ e ∈ oj.after, Region.binds md e = true → e.on ≠ i) → oi.apart ops oj = true) →
      (∀ j, late j = true → listed.getD j false = true ∨ anc md ops N i j = true) →
      i ∈ Region.ready md ops listed → YieldsIf P ops w.Extends oi v a →
      wpAnyE P md ops Q late fuel (listed.setIfInBounds i true) (a.put oi.dst v) w → wpAnyE P md ops Q late (fuel + 1) listed a w := by
  intro fuel
  induction fuel with
  | zero =>
    intro listed a w hcl _ _ hr hy H
    refine ⟨fun h => (by rw [h] at hr; cases hr), fun j hj => ?_⟩
    by_cases hji : j = i
    · subst hji; exact hy.wpOp hi (.refl w) ⟨fun _ => .refl w, H⟩
    · have := ready_mono hj hji
      rw [H.1] at this
      cases this
  | succ fuel ih =>
    intro listed a w hcl hfree hlate hr hy H
    refine ⟨fun h => (by rw [h] at hr; cases hr), fun j hj => ?_⟩
    by_cases hji : j = i
    · subst hji; exact hy.wpOp hi (.refl w) ⟨fun _ => .refl w, H⟩
    · have h1 := H.2 j (ready_mono hj hji)
      have hlj : late j = false := by
        cases hh : late j with
        | false => rfl
        | true =>
          rcases hlate j hh with h | h
          · rw [ready_unlisted hj] at h; cases h
          · exact absurd hj (anc_not_ready hcl (ready_unlisted hr) h)
      obtain ⟨hjun, oj, hoj, hall⟩ := mem_ready.1 hj
      have hnot : ∀ e ∈ oj.after, Region.binds md e = true → e.on ≠ i := fun e he hb heq => by
        have h1 := hall e he hb
        rw [heq, ready_unlisted hr] at h1
        cases h1
      have h2 := wpOp_putIf hoj (hfree j oj hoj hji hjun hnot) (fun cs b => hsel i oi cs b hi) (fun cs b => hsel j oj cs b hoj) hQ hy h1
      have hfree' : ∀ k ok, ops[k]? = some ok → k ≠ i → (listed.setIfInBounds j true).getD k true = false →
          (∀ e ∈ ok.after, Region.binds md e = true → e.on ≠ i) → oi.apart ops ok = true := fun k ok hk hki hun hno => by
        refine hfree k ok hk hki ?_ hno
        by_cases hjk : j = k
        · subst hjk; exact hjun
        · rw [getD_set_ne true hjk] at hun; exact hun
      have hlate' : ∀ k, late k = true → (listed.setIfInBounds j true).getD k false = true ∨ anc md ops N i k = true := fun k hk => by
        rcases hlate k hk with h | h
        · by_cases hjk : j = k
          · subst hjk; rw [hlj] at hk; cases hk
          · exact .inl (by rw [getD_set_ne false hjk]; exact h)
        · exact .inr h
      refine wpOp_mono (fun a' w' h3 => ⟨h3.2.1, ih (listed.setIfInBounds j true) a' w' (hcl.set hj) hfree' hlate' (ready_mono hr (Ne.symm hji)) ?_ ?_⟩) h2
      · rcases h3.1 with ⟨g1, g2⟩ | g
        · exact .inl ⟨g1, fun x hx => g2 x ((h3.2.1 hlj).trans hx)⟩
        · exact .inr g
      · rw [Array.setIfInBounds_comm _ _ hji]
        exact h3.2.2
theorem wpAnyE_all {late : Nat → Bool} {rs : List Nat} {fuel : Nat} {listed : Array Bool} {a : Act} {w : World} (hr : Region.ready md ops listed = rs) (hne : rs ≠ [])
    (h : ∀ i ∈ rs, wpOp P ops Q i (fun a' w' => (late i = false → w.Extends w') ∧ wpAnyE P md ops Q late fuel (listed.setIfInBounds i true) a' w') a w) : wpAnyE P md ops Q late (fuel + 1) listed a w :=
  ⟨fun h0 => absurd (hr ▸ h0) hne, hr ▸ h⟩
theorem wpAnyE_done {late : Nat → Bool} {listed : Array Bool} {a : Act} {w : World} (hr : Region.ready md ops listed = []) (h : Q .normal a w) : ∀ fuel, wpAnyE P md ops Q late fuel listed a w
  | 0 => ⟨hr, h⟩
  | _ + 1 => ⟨fun _ => h, by rw [hr]; simp⟩
end
/-- a plan for a region that draws its order -/
inductive Sch where
  | done
  | first (i : Nat) (s : Sch)
  | all (l : List (Nat × Sch))
end Go.VM
