import Derived.Test.YtkcbjhjpepdkcaaTU2
set_option linter.unusedVariables false
set_option linter.unusedSimpArgs false
open Go Go.VM
namespace Tether
def sgnR (c : Int) : Bool := decide (97 ≤ c) && decide (c ≤ 122) || decide (65 ≤ c) && decide (c ≤ 90) || decide (48 ≤ c) && decide (c ≤ 57) || decide (c = 45) || decide (c = 95) || decide (c = 46) || decide (c = 40) || decide (c = 41) || decide (c = 32)
theorem sgnR_eq (c : UInt8) : signB (c.toNat : Int) = sgnR (c.toNat : Int) := by
  have h : ∀ n : Fin 256, signB (((UInt8.ofNat n.val).toNat : Nat) : Int) = sgnR (((UInt8.ofNat n.val).toNat : Nat) : Int) := by decide +kernel
  have := h ⟨c.toNat, c.toNat_lt⟩
  simpa using this
/-- may a sign stand there? -/
def okAt (s : Str) (i : Nat) : Bool := sgnR (at8 s i) && !(decide (at8 s i = 32) && (decide (i = 0) || decide ((i : Int) = (s.length : Int) - 1)))
theorem isName_okAt (s : Str) : ((List.range s.length).all (okAt s) && (((!decide (s = []) && decide ((s.length : Int) ≤ 20)) && !decide (s = [46])) && !decide (s = [46, 46]))) = isName s := by
  unfold isName
  by_cases h0 : s = []
  · subst h0; rfl
  have hpos : 0 < s.length := by rcases s with _ | ⟨x, s⟩; exact absurd rfl h0; simp
  have key : (List.range s.length).all (okAt s) = (!(decide (at8 s 0 = 32) || decide (at8 s (s.length - 1) = 32)) && (List.range s.length).all fun i => signB (at8 s i)) := by
    rw [Bool.eq_iff_iff]
    simp only [List.all_eq_true, List.mem_range, Bool.and_eq_true, Bool.not_eq_true', Bool.or_eq_false_iff, decide_eq_false_iff_not]
    have hs : ∀ i, sgnR (at8 s i) = signB (at8 s i) := fun i => (sgnR_eq _).symm
    constructor
    · intro h
      refine ⟨⟨fun e => ?_, fun e => ?_⟩, fun i hi => ?_⟩
      · have := h 0 hpos
        simp [okAt, e] at this
      · have := h (s.length - 1) (by omega)
        have hk : ((s.length - 1 : Nat) : Int) = (s.length : Int) - 1 := by omega
        simp [okAt, e, hk] at this
      · have := h i hi
        rw [okAt, hs] at this
        exact (Bool.and_eq_true_iff.1 this).1
    · rintro ⟨⟨e1, e2⟩, h⟩ i hi
      rw [okAt, hs, h i hi, Bool.true_and, Bool.not_eq_true']
      by_cases e : at8 s i = 32
      · have i0 : i ≠ 0 := by rintro rfl; exact e1 e
        have i1 : ¬ (i : Int) = (s.length : Int) - 1 := by
          intro h
          have : i = s.length - 1 := by omega
          subst this; exact e2 e
        simp [e, i0, i1]
      · simp [e]
  rw [key]
  have e1 : decide ((s.length : Int) ≤ 20) = !decide (20 < (s.length : Int)) := by
    by_cases h : (s.length : Int) ≤ 20
    · have : ¬ 20 < (s.length : Int) := by omega
      simp [h, this]
    · have : 20 < (s.length : Int) := by omega
      simp [h, this]
  rw [e1]
  generalize decide (s = []) = a, decide (20 < (s.length : Int)) = b, decide (s = [46]) = c, decide (s = [46, 46]) = d, (!(decide (at8 s 0 = 32) || decide (at8 s (s.length - 1) = 32))) = e, ((List.range s.length).all fun i => signB (at8 s i)) = f
  cases a <;> cases b <;> cases c <;> cases d <;> cases e <;> cases f <;> rfl
def sameS (s t : Session) : Bool := decide (s.num = t.num) && (decide (s.who = t.who) && (decide (s.text = t.text) && (decide (s.size = t.size) && decide (s.till = t.till))))
theorem sameS_self (s : Session) : sameS s s = true := by simp [sameS]
def sameU (a b : Uploads) : Bool := decide (a.next = b.next) && decide (a.lasts = b.lasts) && decide (a.room = b.room) && decide ((a.ss.length : Int) = (b.ss.length : Int)) && (List.range a.ss.length).all fun i => sameS (a.ss.getD i default) (b.ss.getD i default)
theorem sameU_self (a : Uploads) : sameU a a = true := by
  simp only [sameU, decide_true, Bool.true_and]
  exact range_all_true fun i _ => sameS_self _
end Tether
