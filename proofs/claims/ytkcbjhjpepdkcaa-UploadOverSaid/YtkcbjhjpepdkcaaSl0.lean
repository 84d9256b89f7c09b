import Derived.Test.YtkcbjhjpepdkcaaTU
set_option linter.unusedVariables false
set_option linter.unusedSimpArgs false
open Go Go.VM
namespace Tether
/-- where the first one is; -1: nowhere -/
def idxF {α : Type} (p : α → Bool) (l : List α) : Int := match l.findIdx? p with | some i => (i : Int) | none => -1
theorem idxF_at {α : Type} {p : α → Bool} {l : List α} {d : α} {i : Nat} (hi : i < l.length) (hb : ∀ j, j < i → p (l.getD j d) = false) (h : p (l.getD i d) = true) : idxF p l = i := by
  have : l.findIdx? p = some i := by
    rw [List.findIdx?_eq_some_iff_getElem]
    refine ⟨hi, by simpa [List.getD, hi] using h, fun j hj => ?_⟩
    have hj' : j < l.length := by omega
    simpa [List.getD, hj'] using hb j hj
  rw [idxF, this]
theorem idxF_none {α : Type} {p : α → Bool} {l : List α} {d : α} (hb : ∀ j, j < l.length → p (l.getD j d) = false) : idxF p l = -1 := by
  have : l.findIdx? p = none := by
    rw [List.findIdx?_eq_none_iff]
    intro x hx
    obtain ⟨i, hi, rfl⟩ := List.getElem_of_mem hx
    simpa [List.getD, hi] using hb i hi
  rw [idxF, this]
theorem idxF_spec {α : Type} {p : α → Bool} {l : List α} (d : α) (h : ¬ idxF p l = -1) : ∃ i : Nat, idxF p l = (i : Int) ∧ i < l.length ∧ p (l.getD i d) = true ∧ (l.take (i + 1)).filter (fun x => !p x) = l.take i := by
  unfold idxF at h ⊢
  cases hf : l.findIdx? p with
  | none => rw [hf] at h; exact absurd rfl h
  | some i =>
    rw [List.findIdx?_eq_some_iff_getElem] at hf
    obtain ⟨hi, h1, h2⟩ := hf
    refine ⟨i, rfl, hi, by simpa [List.getD, hi] using h1, ?_⟩
    rw [List.take_succ_eq_append_getElem hi, List.filter_append]
    simp only [List.filter_cons, h1, Bool.not_true, List.filter_nil]
    simp only [Bool.false_eq_true, if_false, List.append_nil]
    rw [List.filter_eq_self]
    intro x hx
    obtain ⟨j, hj, rfl⟩ := List.getElem_of_mem hx
    have := h2 j (by simp at hj; omega)
    simpa using this
theorem idxF_all {α : Type} {p : α → Bool} {l : List α} (h : idxF p l = -1) : l.filter (fun x => !p x) = l := by
  rw [List.filter_eq_self]
  unfold idxF at h
  cases hf : l.findIdx? p with
  | some i => rw [hf] at h; simp at h
  | none =>
    rw [List.findIdx?_eq_none_iff] at hf
    intro x hx
    simp [hf x hx]
/-- a round of DeleteFunc: what stays is put ahead -/
theorem del_keep {α : Type} {p : α → Bool} {l L : List α} {d : α} {i j : Nat} (h1 : i < j) (h2 : j < l.length) (h3 : L.length = l.length) (h4 : L.take i = (l.take j).filter (fun x => !p x)) (h5 : L.drop j = l.drop j) (hp : p (L.getD j d) = false) :
    (L.set i (L.getD j d)).take (i + 1) = (l.take (j + 1)).filter (fun x => !p x) ∧ (L.set i (L.getD j d)).drop (j + 1) = l.drop (j + 1) := by
  have e : L.getD j d = l.getD j d := by
    have := congrArg (fun l => l.getD 0 d) h5
    simpa [List.getD] using this
  constructor
  · rw [List.take_succ_eq_append_getElem (by simp; omega), List.take_set, List.set_eq_of_length_le (by simp; omega), h4]
    rw [List.take_succ_eq_append_getElem h2, List.filter_append]
    have : l[j] = l.getD j d := by simp [List.getD, h2]
    rw [this, ← e]
    rw [List.getElem_set_self]
    generalize L.getD j d = y at hp ⊢
    simp [hp]
  · rw [List.drop_set_of_lt (by omega)]
    have := congrArg (List.drop 1) h5
    simpa [List.drop_drop, Nat.add_comm] using this
theorem del_drop {α : Type} {p : α → Bool} {l L : List α} {d : α} {i j : Nat} (h2 : j < l.length) (h4 : L.take i = (l.take j).filter (fun x => !p x)) (h5 : L.drop j = l.drop j) (hp : p (L.getD j d) = true) :
    L.take i = (l.take (j + 1)).filter (fun x => !p x) ∧ L.drop (j + 1) = l.drop (j + 1) := by
  have e : L.getD j d = l.getD j d := by
    have := congrArg (fun l => l.getD 0 d) h5
    simpa [List.getD] using this
  constructor
  · rw [List.take_succ_eq_append_getElem h2, List.filter_append, h4]
    have : l[j] = l.getD j d := by simp [List.getD, h2]
    rw [this, ← e]
    generalize L.getD j d = y at hp ⊢
    simp [hp]
  · have := congrArg (List.drop 1) h5
    simpa [List.drop_drop, Nat.add_comm] using this
end Tether
