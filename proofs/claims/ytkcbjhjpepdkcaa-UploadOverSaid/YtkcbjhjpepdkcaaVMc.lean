import Derived.Test.YtkcbjhjpepdkcaaVMx
import Derived.Laws.Entries
import Derived.Laws.Slices
import Derived.Laws.StructEq
import Derived.Laws.Cells
import Derived.Laws.Append
set_option linter.unusedVariables false
set_option linter.unusedSimpArgs false
namespace Go.VM
/-! ### Guards -/
def KP (X : Nat → Bool) (k : Nat) (p : Path) : Prop := ∀ i b x, (i, b, x) ∈ p → x = X i ∧ i < k
def KI (X : Nat → Bool) (k : Nat) (E : Env) : Prop := ∀ t, KP X k (get E t).2.1 ∧ ∀ i, (get E t).1 = i + 1 → i < k ∧ ∀ x, (get E t).2.2 = .bool x → x = X i
theorem pc_iff (p : Path) : pc p ↔ ∀ i b x, (i, b, x) ∈ p → x = b := by
  induction p with
  | nil => simp [pc]
  | cons y p ih =>
    obtain ⟨i, b, x⟩ := y
    simp only [pc, ih, List.mem_cons]
    constructor
    · rintro ⟨h1, h2⟩ i' b' x' (h | h)
      · cases h; exact h1
      · exact h2 i' b' x' h
    · intro h
      exact ⟨h i b x (.inl rfl), fun i' b' x' hm => h i' b' x' (.inr hm)⟩
theorem ppre_sub {X : Nat → Bool} {k k' : Nat} {q p : Path} (hq : KP X k q) (hp : KP X k' p) (h : ppre q p = true) (hpc : pc p) : pc q := by
  induction q generalizing p with
  | nil => trivial
  | cons y q ih =>
    obtain ⟨i, b, x⟩ := y
    cases p with
    | nil => simp [ppre] at h
    | cons z p =>
      obtain ⟨j, d, z⟩ := z
      simp only [ppre] at h
      obtain ⟨h1, h2⟩ := band_true h
      obtain ⟨h2, h3⟩ := band_true h2
      have e1 := beq_nat h1
      have e2 := beqB_true h2
      subst e1 e2
      simp only [pc] at hpc ⊢
      refine ⟨?_, ih (fun i b x hm => hq i b x (.tail _ hm)) (fun i b x hm => hp i b x (.tail _ hm)) h3 hpc.2⟩
      rw [(hq i b x (.head _)).1, ← (hp i b z (.head _)).1]
      exact hpc.1
theorem evt_ok {c : Ctx} {E : Env} {a : Act} {X : Nat → Bool} {k : Nat} {p : Path} (hE : ER c E a) (hK : KI X k E) (hp : KP X k p) (hpc : pc p) (t : Nat) :
    VR c (evt E p t) (tmpOf a t) := by
  unfold evt
  have h1 := hE t
  have h2 := hK t
  generalize get E t = g at *
  obtain ⟨s, q, v⟩ := g
  dsimp only at *
  cases hpre : ppre q p with
  | false => simp [VR]
  | true => exact h1.1 (ppre_sub h2.1 hp hpre hpc)
theorem eval_tmp (a : Act) (t : Nat) : a.eval (.tmp t) = tmpOf a t := rfl
theorem ev_ok {c : Ctx} {E : Env} {a : Act} {X : Nat → Bool} {k : Nat} {p : Path} (hE : ER c E a) (hK : KI X k E) (hp : KP X k p) (hpc : pc p) (x : Operand) :
    VR c (ev E p x) (a.eval x) := by
  cases x with
  | tmp t => exact evt_ok hE hK hp hpc t
  | const v => exact VR_ofV c v
  | global g => simp [ev, VR]
  | func f => simp [ev, VR, Act.eval, VRs]
theorem evs_ok {c : Ctx} {E : Env} {a : Act} {X : Nat → Bool} {k : Nat} {p : Path} (hE : ER c E a) (hK : KI X k E) (hp : KP X k p) (hpc : pc p) (l : Array Operand) :
    VRs c (evs E p l.toList) fun j => (l.map a.eval)[j]? := by
  refine VRs_of fun i v hi => ?_
  rw [evs_eq] at hi
  simp only [List.getElem?_map, Option.map_eq_some_iff] at hi
  obtain ⟨x, hx, rfl⟩ := hi
  exact ⟨a.eval x, by simp [Array.getElem?_map]; exact ⟨x, by simpa using hx, rfl⟩, ev_ok hE hK hp hpc x⟩
/-! ### A value put into a temporary -/
theorem get_put (E : Env) (d : Option Nat) (s : Nat) (p : Path) (v : V) (t : Nat) : get (put E d s p v) t = if d = some t then (s, p, v) else get E t := by
  cases d with
  | none => simp [put]
  | some d =>
    simp only [put, get, Option.some.injEq]
    by_cases h : d = t
    · subst h; simp
    · rw [if_neg h]
      have : Nat.beq d t = false := by
        cases hb : Nat.beq d t with
        | false => rfl
        | true => exact absurd (beq_nat hb) h
      simp [this]
theorem tmpOf_put (a : Act) (d : Option Nat) (u : Value) (t : Nat) (hd : ∀ x, d = some x → x < a.tmps.size) : tmpOf (a.put d u) t = if d = some t then u else tmpOf a t := by
  cases d with
  | none => simp [Act.put]
  | some d =>
    simp only [Act.put, tmpOf, Option.some.injEq]
    have := hd d rfl
    by_cases h : d = t
    · subst h; simp [Array.getD, this]
    · rw [if_neg h]
      simp only [Array.getD_eq_getD_getElem?, Array.getElem?_setIfInBounds_ne h]
theorem ER_put {c : Ctx} {E : Env} {a : Act} (hE : ER c E a) {d : Option Nat} (hd : ∀ x, d = some x → x < a.tmps.size) {s : Nat} {p : Path} {v : V} {u : Value}
    (h1 : pc p → VR c v u) (h2 : ¬ pc p → u = undef) : ER c (put E d s p v) (a.put d u) := by
  intro t
  rw [get_put, tmpOf_put a d u t hd]
  by_cases h : d = some t
  · simp only [h, if_true]; exact ⟨h1, h2⟩
  · simp only [h, if_false]; exact hE t
theorem KI_put {X : Nat → Bool} {k : Nat} {E : Env} (hK : KI X k E) {d : Option Nat} {p : Path} {v : V} (hp : KP X k p) :
    ∃ X', KI X' (k + 1) (put E d (k + 1) p v) := by
  refine ⟨fun i => if i = k then (match v with | .bool x => x | _ => false) else X i, fun t => ?_⟩
  have mono : ∀ q, KP X k q → KP (fun i => if i = k then (match v with | .bool x => x | _ => false) else X i) (k + 1) q := by
    intro q hq i b x hm
    obtain ⟨e, hl⟩ := hq i b x hm
    exact ⟨by show x = if i = k then _ else X i; rw [if_neg (by omega)]; exact e, by omega⟩
  rw [get_put]
  by_cases h : d = some t
  · simp only [h, if_true]
    refine ⟨mono p hp, fun i hi => ?_⟩
    obtain rfl : k = i := by omega
    exact ⟨by omega, fun x hx => by simp [hx]⟩
  · simp only [h, if_false]
    refine ⟨mono _ (hK t).1, fun i hi => ?_⟩
    obtain ⟨h1, h2⟩ := (hK t).2 i hi
    exact ⟨by omega, fun x hx => by show x = if i = k then _ else X i; rw [if_neg (by omega)]; exact h2 x hx⟩
theorem AO.put {F : Fr} {a : Act} (h : AO F a) (d : Option Nat) (u : Value) : AO F (a.put d u) := by
  cases d with
  | none => exact h
  | some d => exact ⟨h.defers, by simp [Act.put, h.size]⟩
theorem get_cons (e : Ent) (r : Env) (t : Nat) : get (e :: r) t = if e.t = t then (e.s, e.p, e.v) else get r t := by
  simp only [get]
  by_cases h : e.t = t
  · subst h; simp
  · rw [if_neg h]
    have : Nat.beq e.t t = false := by
      cases hb : Nat.beq e.t t with
      | false => rfl
      | true => exact absurd (beq_nat hb) h
    simp [this]
theorem clean_get (E : Env) (t : Nat) : (get (clean E) t).1 = 0 ∧ (get (clean E) t).2.1 = [] ∧ ((get E t).2.1 = [] → (get (clean E) t).2.2 = (get E t).2.2) ∧ ((get E t).2.1 ≠ [] → (get (clean E) t).2.2 = .bad) := by
  induction E with
  | nil => simp [clean, get]
  | cons e r ih =>
    obtain ⟨t', s, p, v⟩ := e
    cases p with
    | nil =>
      simp only [clean, get_cons]
      by_cases hb : t' = t
      · simp [hb]
      · simpa [hb] using ih
    | cons y p =>
      simp only [clean, get_cons]
      by_cases hb : t' = t
      · simp [hb]
      · simpa [hb] using ih
theorem ER_clean {c : Ctx} {E : Env} {a : Act} (hE : ER c E a) : ER c (clean E) a := by
  intro t
  obtain ⟨h0, h1, h2, h3⟩ := clean_get E t
  rw [h1]
  refine ⟨fun _ => ?_, fun h => absurd trivial h⟩
  by_cases h : (get E t).2.1 = []
  · rw [h2 h]
    exact (hE t).1 (by rw [h]; trivial)
  · rw [h3 h]; simp [VR]
theorem KI_clean (E : Env) : KI (fun _ => false) 0 (clean E) := by
  intro t
  obtain ⟨h0, h1, h2, h3⟩ := clean_get E t
  rw [h1, h0]
  exact ⟨fun i b x h => by simp at h, fun i h => by simp at h⟩
end Go.VM
