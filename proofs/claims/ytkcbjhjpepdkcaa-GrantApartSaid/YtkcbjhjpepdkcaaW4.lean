import Derived.Test.YtkcbjhjpepdkcaaW3
section
set_option linter.unusedVariables false
set_option linter.unusedSimpArgs false
open Go Go.VM Go.Proofs Tether
namespace Go.VM.Try
set_option maxRecDepth 100000
set_option maxHeartbeats 1000000
theorem SameGrants_c (a b : List Grant) (ha : a.length < 4611686018427387904) (hb : b.length < 4611686018427387904) : Meets Try.prog 63 [lstV 3 Grant.enc default a, lstV 3 Grant.enc default b] (.bool (sameL a b)) [] := by
  refine meets_x (fn := Try.f63) Try.func63 rfl fb63 (by kernel_rfl) (Nat.le_of_ble_eq_true rfl) ?_
  refine cx_sr ?_
  simp only [go_sem]
  repeat first | (with_reducible refine side_d ?_ ?_; exact byD) | (with_reducible refine side_q ?_ ?_; exact byQ)
  refine cx_seq ?_
  refine cx_sr ?_
  simp only [go_sem]
  repeat first | (with_reducible refine side_d ?_ ?_; exact byD) | (with_reducible refine side_q ?_ ?_; exact byQ)
  intro t10 e10
  repeat first | (with_reducible refine side_d ?_ ?_; exact byD) | (with_reducible refine side_q ?_ ?_; exact byQ)
  subst e10
  refine cx_if _ rfl (fun h10 => ?_) (fun h10 => ?_)
  ·
    (try simp only [go_sem] at h10)
    refine cx_sr ?_
    simp only [go_sem]
    repeat first | (with_reducible refine side_d ?_ ?_; exact byD) | (with_reducible refine side_q ?_ ?_; exact byQ)
    refine cx_ret ?_
    simp only [go_sem]
    refine finw_bool ?_
    have : a ≠ b := fun e => by subst e; exact h10 rfl
    simp [sameL, this]
  ·
    (try simp only [go_sem] at h10)
    refine cx_skip ?_
    (try simp only [go_sem])
    refine cx_seq ?_
    refine cx_sr ?_
    simp only [go_sem]
    repeat first | (with_reducible refine side_d ?_ ?_; exact byD) | (with_reducible refine side_q ?_ ?_; exact byQ)
    refine cx_block ?_
    refine cx_loop0 (σ := Nat) (fun i => i ≤ a.length ∧ ∀ j, j < i → a.getD j default = b.getD j default) (fun i => [⟨5, 0, [], .int .i64 (i : Nat)⟩]) [0, 1] (fun i => a.length - i) 0 ⟨Nat.zero_le _, fun j hj => absurd hj (Nat.not_lt_zero j)⟩ (Nat.zero_le _) byC (fun i hI1 => ?_)
    simp only [go_sem]
    refine cx_seq ?_
    refine cx_sr ?_
    simp only [go_sem]
    repeat first | (with_reducible refine side_d ?_ ?_; exact byD) | (with_reducible refine side_q ?_ ?_; exact byQ)
    intro t14 e14
    repeat first | (with_reducible refine side_d ?_ ?_; exact byD) | (with_reducible refine side_q ?_ ?_; exact byQ)
    subst e14
    refine cx_if _ rfl (fun h14 => ?_) (fun h14 => ?_)
    ·
      (try simp only [go_sem] at h14)
      refine cx_skip ?_
      (try simp only [go_sem])
      refine cx_seq (cx_block ?_)
      refine cx_seq (cx_draw mixed [] (.first 0 (.first 1 (.first 2 (.first 3 (.first 4 (.first 5 (.first 6 (.first 7 (.first 8 (.done)))))))))) (by kernel_rfl) ?_)
      simp only [go_sem]
      repeat first | (with_reducible refine side_d ?_ ?_; exact byD) | (with_reducible refine side_q ?_ ?_; exact byQ)
      intro t25 e25
      repeat first | (with_reducible refine side_d ?_ ?_; exact byD) | (with_reducible refine side_q ?_ ?_; exact byQ)
      subst e25
      refine cx_if _ rfl (fun h25 => ?_) (fun h25 => ?_)
      ·
        (try simp only [go_sem] at h25)
        refine cx_sr ?_
        simp only [go_sem]
        repeat first | (with_reducible refine side_d ?_ ?_; exact byD) | (with_reducible refine side_q ?_ ?_; exact byQ)
        refine cx_ret ?_
        simp only [go_sem]
        refine finw_bool ?_
        have : a ≠ b := fun e => by
          subst e
          grind
        simp [sameL, this]
      ·
        (try simp only [go_sem] at h25)
        refine cx_skip ?_
        (try simp only [go_sem])
        refine cx_region ?_
        simp only [go_sem]
        repeat first | (with_reducible refine side_d ?_ ?_; exact byD) | (with_reducible refine side_q ?_ ?_; exact byQ)
        intro t16 e16
        (try replace e16 := w64 e16 (by omega) (by omega))
        repeat first | (with_reducible refine side_d ?_ ?_; exact byD) | (with_reducible refine side_q ?_ ?_; exact byQ)
        have hk : a.getD i default = b.getD i default := by
          exact Grant.of_eq h25
        refine rnd_next (i + 1) ⟨by omega, all_next hI1.2 hk⟩ (by first | omega | (dsimp only; omega)) byC
    ·
      (try simp only [go_sem] at h14)
      refine cx_exit ?_
      simp only [go_sem]
      refine cx_sr ?_
      simp only [go_sem]
      repeat first | (with_reducible refine side_d ?_ ?_; exact byD) | (with_reducible refine side_q ?_ ?_; exact byQ)
      refine cx_ret ?_
      simp only [go_sem]
      refine finw_bool ?_
      have : a = b := list_eq_of (d := default) (by omega) (fun j hj => hI1.2 j (by omega))
      simp [sameL, this]
theorem SameTexts_c (a b : List Str) (ha : a.length < 4611686018427387904) (hb : b.length < 4611686018427387904) : Meets Try.prog 44 [lstV 1 strE [] a, lstV 1 strE [] b] (.bool (sameL a b)) [] := by
  refine meets_x (fn := Try.f44) Try.func44 rfl fb44 (by kernel_rfl) (Nat.le_of_ble_eq_true rfl) ?_
  refine cx_sr ?_
  simp only [go_sem]
  repeat first | (with_reducible refine side_d ?_ ?_; exact byD) | (with_reducible refine side_q ?_ ?_; exact byQ)
  refine cx_seq ?_
  refine cx_sr ?_
  simp only [go_sem]
  repeat first | (with_reducible refine side_d ?_ ?_; exact byD) | (with_reducible refine side_q ?_ ?_; exact byQ)
  intro t10 e10
  repeat first | (with_reducible refine side_d ?_ ?_; exact byD) | (with_reducible refine side_q ?_ ?_; exact byQ)
  subst e10
  refine cx_if _ rfl (fun h10 => ?_) (fun h10 => ?_)
  ·
    (try simp only [go_sem] at h10)
    refine cx_sr ?_
    simp only [go_sem]
    repeat first | (with_reducible refine side_d ?_ ?_; exact byD) | (with_reducible refine side_q ?_ ?_; exact byQ)
    refine cx_ret ?_
    simp only [go_sem]
    refine finw_bool ?_
    have : a ≠ b := fun e => by subst e; exact h10 rfl
    simp [sameL, this]
  ·
    (try simp only [go_sem] at h10)
    refine cx_skip ?_
    (try simp only [go_sem])
    refine cx_seq ?_
    refine cx_sr ?_
    simp only [go_sem]
    repeat first | (with_reducible refine side_d ?_ ?_; exact byD) | (with_reducible refine side_q ?_ ?_; exact byQ)
    refine cx_block ?_
    refine cx_loop0 (σ := Nat) (fun i => i ≤ a.length ∧ ∀ j, j < i → a.getD j [] = b.getD j []) (fun i => [⟨5, 0, [], .int .i64 (i : Nat)⟩]) [0, 1] (fun i => a.length - i) 0 ⟨Nat.zero_le _, fun j hj => absurd hj (Nat.not_lt_zero j)⟩ (Nat.zero_le _) byC (fun i hI1 => ?_)
    simp only [go_sem]
    refine cx_seq ?_
    refine cx_sr ?_
    simp only [go_sem]
    repeat first | (with_reducible refine side_d ?_ ?_; exact byD) | (with_reducible refine side_q ?_ ?_; exact byQ)
    intro t14 e14
    repeat first | (with_reducible refine side_d ?_ ?_; exact byD) | (with_reducible refine side_q ?_ ?_; exact byQ)
    subst e14
    refine cx_if _ rfl (fun h14 => ?_) (fun h14 => ?_)
    ·
      (try simp only [go_sem] at h14)
      refine cx_skip ?_
      (try simp only [go_sem])
      refine cx_seq (cx_block ?_)
      refine cx_seq (cx_draw mixed [] (.first 0 (.first 1 (.first 2 (.first 3 (.first 4 (.first 5 (.first 6 (.first 7 (.first 8 (.done)))))))))) (by kernel_rfl) ?_)
      simp only [go_sem]
      repeat first | (with_reducible refine side_d ?_ ?_; exact byD) | (with_reducible refine side_q ?_ ?_; exact byQ)
      intro t25 e25
      repeat first | (with_reducible refine side_d ?_ ?_; exact byD) | (with_reducible refine side_q ?_ ?_; exact byQ)
      subst e25
      refine cx_if _ rfl (fun h25 => ?_) (fun h25 => ?_)
      ·
        (try simp only [go_sem] at h25)
        refine cx_sr ?_
        simp only [go_sem]
        repeat first | (with_reducible refine side_d ?_ ?_; exact byD) | (with_reducible refine side_q ?_ ?_; exact byQ)
        refine cx_ret ?_
        simp only [go_sem]
        refine finw_bool ?_
        have : a ≠ b := fun e => by
          subst e
          grind
        simp [sameL, this]
      ·
        (try simp only [go_sem] at h25)
        refine cx_skip ?_
        (try simp only [go_sem])
        refine cx_region ?_
        simp only [go_sem]
        repeat first | (with_reducible refine side_d ?_ ?_; exact byD) | (with_reducible refine side_q ?_ ?_; exact byQ)
        intro t16 e16
        (try replace e16 := w64 e16 (by omega) (by omega))
        repeat first | (with_reducible refine side_d ?_ ?_; exact byD) | (with_reducible refine side_q ?_ ?_; exact byQ)
        have hk : a.getD i [] = b.getD i [] := by
          grind
        refine rnd_next (i + 1) ⟨by omega, all_next hI1.2 hk⟩ (by first | omega | (dsimp only; omega)) byC
    ·
      (try simp only [go_sem] at h14)
      refine cx_exit ?_
      simp only [go_sem]
      refine cx_sr ?_
      simp only [go_sem]
      repeat first | (with_reducible refine side_d ?_ ?_; exact byD) | (with_reducible refine side_q ?_ ?_; exact byQ)
      refine cx_ret ?_
      simp only [go_sem]
      refine finw_bool ?_
      have : a = b := list_eq_of (d := []) (by omega) (fun j hj => hI1.2 j (by omega))
      simp [sameL, this]
theorem ROwned_c (l : List Grant) (hl : l.length < 4611686018427387904) (f : Str) : Meets Try.prog 57 [gsV l, .str f] (.bool (l.any fun h => decide (h.folder = f) && decide (h.right = 3))) [] := by
  refine meets_x (fn := Try.f57) Try.func57 rfl fb57 (by kernel_rfl) (Nat.le_of_ble_eq_true rfl) ?_
  refine cx_sr ?_
  simp only [go_sem]
  repeat first | (with_reducible refine side_d ?_ ?_; exact byD) | (with_reducible refine side_q ?_ ?_; exact byQ)
  refine cx_seq ?_
  refine cx_sr ?_
  simp only [go_sem]
  repeat first | (with_reducible refine side_d ?_ ?_; exact byD) | (with_reducible refine side_q ?_ ?_; exact byQ)
  refine cx_block ?_
  refine cx_loop0 (σ := Nat) (fun i => i ≤ l.length ∧ ∀ j, j < i → ¬ ((l.getD j default).folder = f ∧ (l.getD j default).right = 3)) (fun i => [⟨5, 0, [], .int .i64 (i : Nat)⟩]) [0, 1] (fun i => l.length - i) 0 ⟨Nat.zero_le _, fun j hj => absurd hj (Nat.not_lt_zero j)⟩ (Nat.zero_le _) byC (fun i hI1 => ?_)
  simp only [go_sem]
  refine cx_seq ?_
  refine cx_sr ?_
  simp only [go_sem]
  repeat first | (with_reducible refine side_d ?_ ?_; exact byD) | (with_reducible refine side_q ?_ ?_; exact byQ)
  intro t9 e9
  repeat first | (with_reducible refine side_d ?_ ?_; exact byD) | (with_reducible refine side_q ?_ ?_; exact byQ)
  subst e9
  refine cx_if _ rfl (fun h9 => ?_) (fun h9 => ?_)
  ·
    (try simp only [go_sem] at h9)
    refine cx_skip ?_
    (try simp only [go_sem])
    refine cx_seq (cx_block ?_)
    refine cx_sr ?_
    simp only [go_sem]
    repeat first | (with_reducible refine side_d ?_ ?_; exact byD) | (with_reducible refine side_q ?_ ?_; exact byQ)
    intro t18 e18
    repeat first | (with_reducible refine side_d ?_ ?_; exact byD) | (with_reducible refine side_q ?_ ?_; exact byQ)
    intro t25 e25
    repeat first | (with_reducible refine side_d ?_ ?_; exact byD) | (with_reducible refine side_q ?_ ?_; exact byQ)
    intro t26 e26
    rw [bsel_and] at e26
    repeat first | (with_reducible refine side_d ?_ ?_; exact byD) | (with_reducible refine side_q ?_ ?_; exact byQ)
    subst e18 e25 e26
    refine cx_if _ rfl (fun h26 => ?_) (fun h26 => ?_)
    ·
      (try simp only [go_sem] at h26)
      refine cx_sr ?_
      simp only [go_sem]
      repeat first | (with_reducible refine side_d ?_ ?_; exact byD) | (with_reducible refine side_q ?_ ?_; exact byQ)
      refine cx_ret ?_
      simp only [go_sem]
      refine finw_bool ?_
      exact (List.any_eq_true.2 ⟨l.getD i default, getD_mem (by omega), by grind⟩).symm
    ·
      (try simp only [go_sem] at h26)
      refine cx_skip ?_
      (try simp only [go_sem])
      refine cx_region ?_
      simp only [go_sem]
      repeat first | (with_reducible refine side_d ?_ ?_; exact byD) | (with_reducible refine side_q ?_ ?_; exact byQ)
      intro t11 e11
      (try replace e11 := w64 e11 (by omega) (by omega))
      repeat first | (with_reducible refine side_d ?_ ?_; exact byD) | (with_reducible refine side_q ?_ ?_; exact byQ)
      refine rnd_next (i + 1) ⟨by omega, all_next hI1.2 (by grind)⟩ (by first | omega | (dsimp only; omega)) byC
  ·
    (try simp only [go_sem] at h9)
    refine cx_exit ?_
    simp only [go_sem]
    refine cx_sr ?_
    simp only [go_sem]
    repeat first | (with_reducible refine side_d ?_ ?_; exact byD) | (with_reducible refine side_q ?_ ?_; exact byQ)
    refine cx_ret ?_
    simp only [go_sem]
    refine finw_bool ?_
    refine (List.any_eq_false.2 fun x hx => ?_).symm
    obtain ⟨j, hj, rfl⟩ := List.getElem_of_mem hx
    have := hI1.2 j (by omega)
    simpa [List.getD, hj] using this
theorem RRightOf_c (l : List Grant) (hl : l.length < 4611686018427387904) (f w : Str) : Meets Try.prog 42 [gsV l, .str f, .str w] (.int .i64 (rightG l f w)) [] := by
  refine meets_x (fn := Try.f42) Try.func42 rfl fb42 (by kernel_rfl) (Nat.le_of_ble_eq_true rfl) ?_
  refine cx_sr ?_
  simp only [go_sem]
  repeat first | (with_reducible refine side_d ?_ ?_; exact byD) | (with_reducible refine side_q ?_ ?_; exact byQ)
  refine cx_seq ?_
  refine cx_sr ?_
  simp only [go_sem]
  repeat first | (with_reducible refine side_d ?_ ?_; exact byD) | (with_reducible refine side_q ?_ ?_; exact byQ)
  refine cx_block ?_
  refine cx_loop0 (σ := Nat) (fun i => i ≤ l.length ∧ ∀ j, j < i → isG f w (l.getD j default) = false) (fun i => [⟨7, 0, [], .int .i64 (i : Nat)⟩]) [0, 1, 2] (fun i => l.length - i) 0 ⟨Nat.zero_le _, fun j hj => absurd hj (Nat.not_lt_zero j)⟩ (Nat.zero_le _) byC (fun i hI1 => ?_)
  simp only [go_sem]
  refine cx_seq ?_
  refine cx_sr ?_
  simp only [go_sem]
  repeat first | (with_reducible refine side_d ?_ ?_; exact byD) | (with_reducible refine side_q ?_ ?_; exact byQ)
  intro t11 e11
  repeat first | (with_reducible refine side_d ?_ ?_; exact byD) | (with_reducible refine side_q ?_ ?_; exact byQ)
  subst e11
  refine cx_if _ rfl (fun h11 => ?_) (fun h11 => ?_)
  ·
    (try simp only [go_sem] at h11)
    refine cx_skip ?_
    (try simp only [go_sem])
    refine cx_seq (cx_block ?_)
    refine cx_sr ?_
    simp only [go_sem]
    repeat first | (with_reducible refine side_d ?_ ?_; exact byD) | (with_reducible refine side_q ?_ ?_; exact byQ)
    intro t20 e20
    repeat first | (with_reducible refine side_d ?_ ?_; exact byD) | (with_reducible refine side_q ?_ ?_; exact byQ)
    intro t28 e28
    repeat first | (with_reducible refine side_d ?_ ?_; exact byD) | (with_reducible refine side_q ?_ ?_; exact byQ)
    intro t29 e29
    rw [bsel_and] at e29
    repeat first | (with_reducible refine side_d ?_ ?_; exact byD) | (with_reducible refine side_q ?_ ?_; exact byQ)
    subst e20 e28 e29
    refine cx_if _ rfl (fun h29 => ?_) (fun h29 => ?_)
    ·
      (try simp only [go_sem] at h29)
      refine cx_sr ?_
      simp only [go_sem]
      repeat first | (with_reducible refine side_d ?_ ?_; exact byD) | (with_reducible refine side_q ?_ ?_; exact byQ)
      refine cx_ret ?_
      simp only [go_sem]
      refine finw_int ?_
      have hi : i < l.length := by omega
      have : l.find? (isG f w) = some (l.getD i default) := by
        rw [List.find?_eq_some_iff_getElem]
        refine ⟨by grind [isG], i, hi, by simp [List.getD, hi], fun j hj => ?_⟩
        have := hI1.2 j hj
        simpa [List.getD, show j < l.length by omega] using this
      rw [rightG, this]
    ·
      (try simp only [go_sem] at h29)
      refine cx_skip ?_
      (try simp only [go_sem])
      refine cx_region ?_
      simp only [go_sem]
      repeat first | (with_reducible refine side_d ?_ ?_; exact byD) | (with_reducible refine side_q ?_ ?_; exact byQ)
      intro t13 e13
      (try replace e13 := w64 e13 (by omega) (by omega))
      repeat first | (with_reducible refine side_d ?_ ?_; exact byD) | (with_reducible refine side_q ?_ ?_; exact byQ)
      refine rnd_next (i + 1) ⟨by omega, all_next hI1.2 (by grind [isG])⟩ (by first | omega | (dsimp only; omega)) byC
  ·
    (try simp only [go_sem] at h11)
    refine cx_exit ?_
    simp only [go_sem]
    refine cx_sr ?_
    simp only [go_sem]
    repeat first | (with_reducible refine side_d ?_ ?_; exact byD) | (with_reducible refine side_q ?_ ?_; exact byQ)
    refine cx_ret ?_
    simp only [go_sem]
    refine finw_int ?_
    have : l.find? (isG f w) = none := by
      rw [List.find?_eq_none]
      intro x hx
      obtain ⟨j, hj, rfl⟩ := List.getElem_of_mem hx
      have := hI1.2 j (by omega)
      simpa [List.getD, hj] using this
    rw [rightG, this]
theorem RWhoOf_c (l : List Grant) (hl : l.length < 4611686018427387904) (hl2 : l.length * 16 ≤ 140737488355328) (f : Str) : Meets Try.prog 43 [gsV l, .str f] (strsV (whoG l f)) [] := by
  refine meets_x (fn := Try.f43) Try.func43 rfl fb43 (by kernel_rfl) (Nat.le_of_ble_eq_true rfl) ?_
  refine cx_sr ?_
  simp only [go_sem]
  repeat first | (with_reducible refine side_d ?_ ?_; exact byD) | (with_reducible refine side_q ?_ ?_; exact byQ)
  refine cx_sr ?_
  simp only [go_sem]
  repeat first | (with_reducible refine side_d ?_ ?_; exact byD) | (with_reducible refine side_q ?_ ?_; exact byQ)
  refine cx_virt 5 1 (En strE [] []) rfl ?_
  refine cx_seq ?_
  refine cx_sr ?_
  simp only [go_sem]
  repeat first | (with_reducible refine side_d ?_ ?_; exact byD) | (with_reducible refine side_q ?_ ?_; exact byQ)
  refine cx_block ?_
  refine cx_loopk (σ := Nat) (fun i => i ≤ l.length) (fun i => [⟨6, 0, [], .int .i64 (i : Nat)⟩, ⟨5, 0, [], .own none 0 1 0 (whoG (l.take i) f).length .loose⟩]) [0, 1, 4] (fun i => [.arr 1 (whoG (l.take i) f).length (En strE [] (whoG (l.take i) f))]) (fun i => l.length - i) 0 (by first | trivial | omega | simp) (fun _ => (Nat.zero_le _)) byC (fun i hI1 => ?_)
  simp only [go_sem]
  have hwl := whoG_len (l.take i) f
  have hwl2 : (l.take i).length ≤ i := by simp; omega
  refine cx_seq ?_
  refine cx_sr ?_
  simp only [go_sem]
  repeat first | (with_reducible refine side_d ?_ ?_; exact byD) | (with_reducible refine side_q ?_ ?_; exact byQ)
  intro t10 e10
  repeat first | (with_reducible refine side_d ?_ ?_; exact byD) | (with_reducible refine side_q ?_ ?_; exact byQ)
  subst e10
  refine cx_if _ rfl (fun h10 => ?_) (fun h10 => ?_)
  ·
    (try simp only [go_sem] at h10)
    refine cx_skip ?_
    (try simp only [go_sem])
    refine cx_seq (cx_block ?_)
    refine cx_sr ?_
    simp only [go_sem]
    repeat first | (with_reducible refine side_d ?_ ?_; exact byD) | (with_reducible refine side_q ?_ ?_; exact byQ)
    intro t19 e19
    repeat first | (with_reducible refine side_d ?_ ?_; exact byD) | (with_reducible refine side_q ?_ ?_; exact byQ)
    subst e19
    refine cx_if _ rfl (fun h19 => ?_) (fun h19 => ?_)
    ·
      (try simp only [go_sem] at h19)
      refine cx_region ?_
      simp only [go_sem]
      repeat first | (with_reducible refine side_d ?_ ?_; exact byD) | (with_reducible refine side_q ?_ ?_; exact byQ)
      refine cx_region ?_
      simp only [go_sem]
      repeat first | (with_reducible refine side_d ?_ ?_; exact byD) | (with_reducible refine side_q ?_ ?_; exact byQ)
      intro t12 e12
      (try replace e12 := w64 e12 (by omega) (by omega))
      repeat first | (with_reducible refine side_d ?_ ?_; exact byD) | (with_reducible refine side_q ?_ ?_; exact byQ)
      refine rnd_nextr (i + 1) [2] (by omega) (by first | omega | (dsimp only; omega)) ⟨rfl, rfl, ?_, ?_⟩
      · rw [whoG_T (by omega) h19]; exact byC
      · rw [whoG_T (by omega) h19]
        simp only [go_sem, wk, wks, wkB, wkH, List.length_append, List.length_cons, List.length_nil]
        first | exact fun q hq => wks_mp_snoc (fun x => rnVs_no _ rfl) rfl hq | (and_intros <;> first | trivial | rfl | (exact fun q hq => wks_mp_snoc (fun x => rnVs_no _ rfl) rfl hq) | exact wks_refl _ | exact byC)
    ·
      (try simp only [go_sem] at h19)
      refine cx_skip ?_
      (try simp only [go_sem])
      refine cx_region ?_
      simp only [go_sem]
      repeat first | (with_reducible refine side_d ?_ ?_; exact byD) | (with_reducible refine side_q ?_ ?_; exact byQ)
      intro t12 e12
      (try replace e12 := w64 e12 (by omega) (by omega))
      repeat first | (with_reducible refine side_d ?_ ?_; exact byD) | (with_reducible refine side_q ?_ ?_; exact byQ)
      refine rnd_next (i + 1) (by omega) (by first | omega | (dsimp only; omega)) ?_
      rw [whoG_F (by omega) h19]
      exact byC
  ·
    (try simp only [go_sem] at h10)
    refine cx_exit ?_
    simp only [go_sem]
    refine cx_sr ?_
    simp only [go_sem]
    repeat first | (with_reducible refine side_d ?_ ?_; exact byD) | (with_reducible refine side_q ?_ ?_; exact byQ)
    refine cx_ret ?_
    simp only [go_sem]
    have : l.take i = l := List.take_of_length_le (by omega)
    rw [this]
    exact finx_of 1 [] rfl byC byC byC byC
theorem RCheckGrants_c (l : List Grant) (hl : okG l) : Meets Try.prog 34 [gsV l] (.int .i64 (checkG l)) [] := by
  refine meets_x (fn := Try.f34) Try.func34 rfl fb34 (by kernel_rfl) (Nat.le_of_ble_eq_true rfl) ?_
  have hln := hl.len
  refine cx_sr ?_
  simp only [go_sem]
  repeat first | (with_reducible refine side_d ?_ ?_; exact byD) | (with_reducible refine side_q ?_ ?_; exact byQ)
  refine cx_seq ?_
  refine cx_sr ?_
  simp only [go_sem]
  repeat first | (with_reducible refine side_d ?_ ?_; exact byD) | (with_reducible refine side_q ?_ ?_; exact byQ)
  intro t8 e8
  repeat first | (with_reducible refine side_d ?_ ?_; exact byD) | (with_reducible refine side_q ?_ ?_; exact byQ)
  subst e8
  refine cx_if _ rfl (fun h8 => ?_) (fun h8 => ?_)
  ·
    (try simp only [go_sem] at h8)
    refine cx_sr ?_
    simp only [go_sem]
    repeat first | (with_reducible refine side_d ?_ ?_; exact byD) | (with_reducible refine side_q ?_ ?_; exact byQ)
    refine cx_ret ?_
    simp only [go_sem]
    refine finw_int ?_
    simp [checkG, h8]
  ·
    (try simp only [go_sem] at h8)
    refine cx_skip ?_
    (try simp only [go_sem])
    refine cx_seq ?_
    refine cx_sr ?_
    simp only [go_sem]
    repeat first | (with_reducible refine side_d ?_ ?_; exact byD) | (with_reducible refine side_q ?_ ?_; exact byQ)
    refine cx_block ?_
    refine cx_loop0 (σ := Nat) (fun i => i ≤ l.length ∧ ∀ j, j < i → gErr (l.getD j default) = 0) (fun i => [⟨3, 0, [], .int .i64 (i : Nat)⟩]) [0] (fun i => l.length - i) 0 ⟨Nat.zero_le _, fun j hj => absurd hj (Nat.not_lt_zero j)⟩ (Nat.zero_le _) byC (fun i hI1 => ?_)
    simp only [go_sem]
    refine cx_seq ?_
    refine cx_sr ?_
    simp only [go_sem]
    repeat first | (with_reducible refine side_d ?_ ?_; exact byD) | (with_reducible refine side_q ?_ ?_; exact byQ)
    intro t12 e12
    repeat first | (with_reducible refine side_d ?_ ?_; exact byD) | (with_reducible refine side_q ?_ ?_; exact byQ)
    subst e12
    refine cx_if _ rfl (fun h12 => ?_) (fun h12 => ?_)
    ·
      (try simp only [go_sem] at h12)
      have hm := hl.2 _ (getD_mem (l := l) (d := default) (show i < l.length by omega))
      refine cx_skip ?_
      (try simp only [go_sem])
      refine cx_seq (cx_block ?_)
      refine cx_seq ?_
      refine cx_sr ?_
      simp only [go_sem]
      repeat first | (with_reducible refine side_d ?_ ?_; exact byD) | (with_reducible refine side_q ?_ ?_; exact byQ)
      refine cw_m (RIsName_c _ hm.1) byW byT ?_
      simp only [go_sem]
      repeat first | (with_reducible refine side_d ?_ ?_; exact byD) | (with_reducible refine side_q ?_ ?_; exact byQ)
      intro t21 e21
      repeat first | (with_reducible refine side_d ?_ ?_; exact byD) | (with_reducible refine side_q ?_ ?_; exact byQ)
      refine ⟨_, fun hp => cw_m (RIsName_c (l.getD i default).who hm.2) byW byT ⟨rfl, rfl⟩, ?_⟩
      simp only [go_sem]
      repeat first | (with_reducible refine side_d ?_ ?_; exact byD) | (with_reducible refine side_q ?_ ?_; exact byQ)
      intro t29 e29
      repeat first | (with_reducible refine side_d ?_ ?_; exact byD) | (with_reducible refine side_q ?_ ?_; exact byQ)
      intro t30 e30
      rw [bsel_or] at e30
      repeat first | (with_reducible refine side_d ?_ ?_; exact byD) | (with_reducible refine side_q ?_ ?_; exact byQ)
      subst e21 e29 e30
      refine cx_if _ rfl (fun h30 => ?_) (fun h30 => ?_)
      ·
        (try simp only [go_sem] at h30)
        refine cx_sr ?_
        simp only [go_sem]
        repeat first | (with_reducible refine side_d ?_ ?_; exact byD) | (with_reducible refine side_q ?_ ?_; exact byQ)
        refine cx_ret ?_
        simp only [go_sem]
        refine finw_int ?_
        have hg : gErr (l.getD i default) = 1 := by grind [gErr]
        have hf := firstErr_at (f := gErr) (l := l) (d := default) (i := i) (by omega) hI1.2 (by rw [hg]; decide)
        rw [checkG, if_neg h8, hf, hg, if_pos (by decide)]
      ·
        (try simp only [go_sem] at h30)
        refine cx_skip ?_
        (try simp only [go_sem])
        refine cx_sr ?_
        simp only [go_sem]
        repeat first | (with_reducible refine side_d ?_ ?_; exact byD) | (with_reducible refine side_q ?_ ?_; exact byQ)
        intro t36 e36
        repeat first | (with_reducible refine side_d ?_ ?_; exact byD) | (with_reducible refine side_q ?_ ?_; exact byQ)
        intro t43 e43
        repeat first | (with_reducible refine side_d ?_ ?_; exact byD) | (with_reducible refine side_q ?_ ?_; exact byQ)
        intro t44 e44
        rw [bsel_or] at e44
        repeat first | (with_reducible refine side_d ?_ ?_; exact byD) | (with_reducible refine side_q ?_ ?_; exact byQ)
        subst e36 e43 e44
        refine cx_if _ rfl (fun h44 => ?_) (fun h44 => ?_)
        ·
          (try simp only [go_sem] at h44)
          refine cx_sr ?_
          simp only [go_sem]
          repeat first | (with_reducible refine side_d ?_ ?_; exact byD) | (with_reducible refine side_q ?_ ?_; exact byQ)
          refine cx_ret ?_
          simp only [go_sem]
          refine finw_int ?_
          have hg : gErr (l.getD i default) = 3 := by grind [gErr]
          have hf := firstErr_at (f := gErr) (l := l) (d := default) (i := i) (by omega) hI1.2 (by rw [hg]; decide)
          rw [checkG, if_neg h8, hf, hg, if_pos (by decide)]
        ·
          (try simp only [go_sem] at h44)
          refine cx_skip ?_
          (try simp only [go_sem])
          refine cx_region ?_
          simp only [go_sem]
          repeat first | (with_reducible refine side_d ?_ ?_; exact byD) | (with_reducible refine side_q ?_ ?_; exact byQ)
          intro t14 e14
          (try replace e14 := w64 e14 (by omega) (by omega))
          repeat first | (with_reducible refine side_d ?_ ?_; exact byD) | (with_reducible refine side_q ?_ ?_; exact byQ)
          refine rnd_next (i + 1) ⟨by omega, all_next hI1.2 (by grind [gErr])⟩ (by first | omega | (dsimp only; omega)) byC
    ·
      (try simp only [go_sem] at h12)
      have hf := firstErr_none (f := gErr) (l := l) (d := default) fun j hj => hI1.2 j (by omega)
      refine cx_exit ?_
      simp only [go_sem]
      refine cx_seq ?_
      refine cx_sr ?_
      simp only [go_sem]
      repeat first | (with_reducible refine side_d ?_ ?_; exact byD) | (with_reducible refine side_q ?_ ?_; exact byQ)
      refine cx_block ?_
      refine cx_loop0 (σ := Nat) (fun i => 1 ≤ i ∧ (i = 1 ∨ i ≤ l.length) ∧ ∀ j, 1 ≤ j → j < i → risesG l j = true) (fun i => [⟨4, 0, [], .int .i64 (i : Nat)⟩]) [0] (fun i => l.length - i) 1 ⟨Nat.le_refl _, .inl rfl, fun j hj hj' => by omega⟩ (Nat.zero_le _) byC (fun i hI2 => ?_)
      simp only [go_sem]
      refine cx_seq ?_
      refine cx_sr ?_
      simp only [go_sem]
      repeat first | (with_reducible refine side_d ?_ ?_; exact byD) | (with_reducible refine side_q ?_ ?_; exact byQ)
      intro t48 e48
      repeat first | (with_reducible refine side_d ?_ ?_; exact byD) | (with_reducible refine side_q ?_ ?_; exact byQ)
      subst e48
      refine cx_if _ rfl (fun h48 => ?_) (fun h48 => ?_)
      ·
        (try simp only [go_sem] at h48)
        refine cx_skip ?_
        (try simp only [go_sem])
        refine cx_seq (cx_block ?_)
        refine cx_seq (cx_draw mixed [] (.first 0 (.first 1 (.first 2 (.first 3 (.first 4 (.first 5 (.first 6 (.first 7 (.first 8 (.first 9 (.first 10 (.first 11 (.first 12 (.first 13 (.first 14 (.first 15 (.first 16 (.first 17 (.first 18 (.first 19 (.first 20 (.first 21 (.first 22 (.first 23 (.first 24 (.first 25 (.first 26 (.first 27 (.first 28 (.first 29 (.first 30 (.first 31 (.first 32 (.first 33 (.first 34 (.first 35 (.first 36 (.first 37 (.first 38 (.first 39 (.done))))))))))))))))))))))))))))))))))))))))) (by kernel_rfl) ?_)
        simp only [go_sem]
        repeat first | (with_reducible refine side_d ?_ ?_; exact byD) | (with_reducible refine side_q ?_ ?_; exact byQ)
        intro t58 e58
        (try replace e58 := w64 e58 (by omega) (by omega))
        repeat first | (with_reducible refine side_d ?_ ?_; exact byD) | (with_reducible refine side_q ?_ ?_; exact byQ)
        intro t62 e62
        repeat first | (with_reducible refine side_d ?_ ?_; exact byD) | (with_reducible refine side_q ?_ ?_; exact byQ)
        intro t71 e71
        (try replace e71 := w64 e71 (by omega) (by omega))
        repeat first | (with_reducible refine side_d ?_ ?_; exact byD) | (with_reducible refine side_q ?_ ?_; exact byQ)
        intro t75 e75
        repeat first | (with_reducible refine side_d ?_ ?_; exact byD) | (with_reducible refine side_q ?_ ?_; exact byQ)
        intro t84 e84
        (try replace e84 := w64 e84 (by omega) (by omega))
        repeat first | (with_reducible refine side_d ?_ ?_; exact byD) | (with_reducible refine side_q ?_ ?_; exact byQ)
        intro t88 e88
        repeat first | (with_reducible refine side_d ?_ ?_; exact byD) | (with_reducible refine side_q ?_ ?_; exact byQ)
        intro t89 e89
        rw [bsel_and] at e89
        repeat first | (with_reducible refine side_d ?_ ?_; exact byD) | (with_reducible refine side_q ?_ ?_; exact byQ)
        intro t90 e90
        rw [bsel_or] at e90
        repeat first | (with_reducible refine side_d ?_ ?_; exact byD) | (with_reducible refine side_q ?_ ?_; exact byQ)
        subst e62 e75 e88 e89 e90
        refine cx_if _ rfl (fun h90 => ?_) (fun h90 => ?_)
        ·
          (try simp only [go_sem] at h90)
          refine cx_sr ?_
          simp only [go_sem]
          repeat first | (with_reducible refine side_d ?_ ?_; exact byD) | (with_reducible refine side_q ?_ ?_; exact byQ)
          refine cx_ret ?_
          simp only [go_sem]
          refine finw_int ?_
          have hr : ((List.range l.length).all fun i => i = 0 || risesG l i) = false := range_all_false (i := i) (by omega) (by
            have : ¬ i = 0 := by omega
            simp only [this, decide_false, Bool.false_or, risesG, decide_eq_false_iff_not, order_lt]
            have e1 : t58.toNat = i - 1 := by omega
            have e2 : t71.toNat = i - 1 := by omega
            have e3 : t84.toNat = i - 1 := by omega
            rw [e1, e2, e3] at h90
            exact not_ahead_of h90)
          rw [checkG, if_neg h8, hf, if_neg (by simp), hr, if_pos rfl]
        ·
          (try simp only [go_sem] at h90)
          refine cx_skip ?_
          (try simp only [go_sem])
          refine cx_region ?_
          simp only [go_sem]
          repeat first | (with_reducible refine side_d ?_ ?_; exact byD) | (with_reducible refine side_q ?_ ?_; exact byQ)
          intro t50 e50
          (try replace e50 := w64 e50 (by omega) (by omega))
          repeat first | (with_reducible refine side_d ?_ ?_; exact byD) | (with_reducible refine side_q ?_ ?_; exact byQ)
          have hk : ((i : Int) - 1).toNat = i - 1 := by omega
          refine rnd_next (i + 1) ⟨by omega, by omega, fun j h1 hj => ?_⟩ (by first | omega | (dsimp only; omega)) byC
          exact all_next (p := fun j => 1 ≤ j → risesG l j = true) (fun j hj h1 => hI2.2.2 j h1 hj) (fun _ => by
            simp only [risesG, decide_eq_true_eq, order_lt]
            have e1 : t58.toNat = i - 1 := by omega
            have e2 : t71.toNat = i - 1 := by omega
            have e3 : t84.toNat = i - 1 := by omega
            rw [e1, e2, e3] at h90
            exact ahead_of h90) j hj h1
      ·
        (try simp only [go_sem] at h48)
        have hr : ((List.range l.length).all fun i => i = 0 || risesG l i) = true := range_all_true fun j hj => by
          by_cases h0 : j = 0
          · simp [h0]
          · simp [hI2.2.2 j (by omega) (by omega)]
        refine cx_exit ?_
        simp only [go_sem]
        refine cx_seq ?_
        refine cx_sr ?_
        simp only [go_sem]
        repeat first | (with_reducible refine side_d ?_ ?_; exact byD) | (with_reducible refine side_q ?_ ?_; exact byQ)
        refine cx_block ?_
        refine cx_loop0 (σ := Nat) (fun i => i ≤ l.length ∧ ∀ j, j < i → (l.any fun h => decide (h.folder = (l.getD j default).folder) && decide (h.right = 3)) = true) (fun i => [⟨5, 0, [], .int .i64 (i : Nat)⟩]) [0] (fun i => l.length - i) 0 ⟨Nat.zero_le _, fun j hj => absurd hj (Nat.not_lt_zero j)⟩ (Nat.zero_le _) byC (fun i hI3 => ?_)
        simp only [go_sem]
        refine cx_seq ?_
        refine cx_sr ?_
        simp only [go_sem]
        repeat first | (with_reducible refine side_d ?_ ?_; exact byD) | (with_reducible refine side_q ?_ ?_; exact byQ)
        intro t94 e94
        repeat first | (with_reducible refine side_d ?_ ?_; exact byD) | (with_reducible refine side_q ?_ ?_; exact byQ)
        subst e94
        refine cx_if _ rfl (fun h94 => ?_) (fun h94 => ?_)
        ·
          (try simp only [go_sem] at h94)
          refine cx_skip ?_
          (try simp only [go_sem])
          refine cx_seq (cx_block ?_)
          refine cx_sr ?_
          simp only [go_sem]
          repeat first | (with_reducible refine side_d ?_ ?_; exact byD) | (with_reducible refine side_q ?_ ?_; exact byQ)
          refine cw_m (ROwned_c l hln (l.getD i default).folder) byW byT ?_
          simp only [go_sem]
          repeat first | (with_reducible refine side_d ?_ ?_; exact byD) | (with_reducible refine side_q ?_ ?_; exact byQ)
          intro t104 e104
          repeat first | (with_reducible refine side_d ?_ ?_; exact byD) | (with_reducible refine side_q ?_ ?_; exact byQ)
          subst e104
          refine cx_if _ rfl (fun h104 => ?_) (fun h104 => ?_)
          ·
            (try simp only [go_sem] at h104)
            refine cx_sr ?_
            simp only [go_sem]
            repeat first | (with_reducible refine side_d ?_ ?_; exact byD) | (with_reducible refine side_q ?_ ?_; exact byQ)
            refine cx_ret ?_
            simp only [go_sem]
            refine finw_int ?_
            have ho : ownedG l = false := all_at (d := default) (i := i) (by omega) h104
            rw [checkG, if_neg h8, hf, if_neg (by simp), hr, if_neg (by simp), if_pos ho]
          ·
            (try simp only [go_sem] at h104)
            refine cx_skip ?_
            (try simp only [go_sem])
            refine cx_region ?_
            simp only [go_sem]
            repeat first | (with_reducible refine side_d ?_ ?_; exact byD) | (with_reducible refine side_q ?_ ?_; exact byQ)
            intro t96 e96
            (try replace e96 := w64 e96 (by omega) (by omega))
            repeat first | (with_reducible refine side_d ?_ ?_; exact byD) | (with_reducible refine side_q ?_ ?_; exact byQ)
            refine rnd_next (i + 1) ⟨by omega, all_next hI3.2 h104⟩ (by first | omega | (dsimp only; omega)) byC
        ·
          (try simp only [go_sem] at h94)
          refine cx_exit ?_
          simp only [go_sem]
          refine cx_sr ?_
          simp only [go_sem]
          repeat first | (with_reducible refine side_d ?_ ?_; exact byD) | (with_reducible refine side_q ?_ ?_; exact byQ)
          refine cx_ret ?_
          simp only [go_sem]
          refine finw_int ?_
          have ho : ownedG l = true := all_of (d := default) fun j hj => hI3.2 j (by omega)
          rw [checkG, if_neg h8, hf, if_neg (by simp), hr, if_neg (by simp), if_neg (by simp [ho])]
end Go.VM.Try
end
section
set_option linter.unusedVariables false
set_option linter.unusedSimpArgs false
open Go Go.VM Go.Proofs Tether
namespace Go.VM.Try
set_option maxRecDepth 100000
set_option maxHeartbeats 1000000
theorem RPut_c (l : List Grant) (h60 : l.length ≤ 60) (f w : Str) (r : Int) : Meets Try.prog 62 [gsV l, .str f, .str w, .int .i64 r] (gsV (refPut l f w r)) [] := by
  refine meets_x (fn := Try.f62) Try.func62 rfl fb62 (by kernel_rfl) (Nat.le_of_ble_eq_true rfl) ?_
  refine cx_sr ?_
  simp only [go_sem]
  repeat first | (with_reducible refine side_d ?_ ?_; exact byD) | (with_reducible refine side_q ?_ ?_; exact byQ)
  refine cx_sr ?_
  simp only [go_sem]
  repeat first | (with_reducible refine side_d ?_ ?_; exact byD) | (with_reducible refine side_q ?_ ?_; exact byQ)
  refine cx_virt 9 3 (En Grant.enc default []) rfl ?_
  refine cx_sr ?_
  simp only [go_sem]
  repeat first | (with_reducible refine side_d ?_ ?_; exact byD) | (with_reducible refine side_q ?_ ?_; exact byQ)
  intro t14 e14
  repeat first | (with_reducible refine side_d ?_ ?_; exact byD) | (with_reducible refine side_q ?_ ?_; exact byQ)
  subst e14
  refine cx_seq ?_
  refine cx_sr ?_
  simp only [go_sem]
  repeat first | (with_reducible refine side_d ?_ ?_; exact byD) | (with_reducible refine side_q ?_ ?_; exact byQ)
  refine cx_block ?_
  refine cx_loopk (σ := Nat) (fun i => i ≤ l.length) (fun i => [⟨11, 0, [], .int .i64 (i : Nat)⟩, ⟨9, 0, [], .own none 0 3 0 (putS l f w r i).1.length .loose⟩, ⟨10, 0, [], .bool (putS l f w r i).2⟩]) [0, 1, 2, 3, 8] (fun i => [.arr 3 (putS l f w r i).1.length (En Grant.enc default (putS l f w r i).1)]) (fun i => l.length - i) 0 (by first | trivial | omega | simp) (fun _ => (Nat.zero_le _)) byC (fun i hI1 => ?_)
  simp only [go_sem]
  have hwl := putS_len l f w r i
  refine cx_seq ?_
  refine cx_sr ?_
  simp only [go_sem]
  repeat first | (with_reducible refine side_d ?_ ?_; exact byD) | (with_reducible refine side_q ?_ ?_; exact byQ)
  intro t18 e18
  repeat first | (with_reducible refine side_d ?_ ?_; exact byD) | (with_reducible refine side_q ?_ ?_; exact byQ)
  subst e18
  refine cx_if _ rfl (fun h18 => ?_) (fun h18 => ?_)
  ·
    (try simp only [go_sem] at h18)
    refine cx_skip ?_
    (try simp only [go_sem])
    refine cx_seq (cx_block ?_)
    refine cx_sr ?_
    simp only [go_sem]
    repeat first | (with_reducible refine side_d ?_ ?_; exact byD) | (with_reducible refine side_q ?_ ?_; exact byQ)
    refine cx_seq ?_
    refine cx_sr ?_
    simp only [go_sem]
    repeat first | (with_reducible refine side_d ?_ ?_; exact byD) | (with_reducible refine side_q ?_ ?_; exact byQ)
    intro t26 e26
    repeat first | (with_reducible refine side_d ?_ ?_; exact byD) | (with_reducible refine side_q ?_ ?_; exact byQ)
    intro t31 e31
    repeat first | (with_reducible refine side_d ?_ ?_; exact byD) | (with_reducible refine side_q ?_ ?_; exact byQ)
    intro t36 e36
    repeat first | (with_reducible refine side_d ?_ ?_; exact byD) | (with_reducible refine side_q ?_ ?_; exact byQ)
    intro t41 e41
    repeat first | (with_reducible refine side_d ?_ ?_; exact byD) | (with_reducible refine side_q ?_ ?_; exact byQ)
    intro t42 e42
    rw [bsel_and] at e42
    repeat first | (with_reducible refine side_d ?_ ?_; exact byD) | (with_reducible refine side_q ?_ ?_; exact byQ)
    intro t43 e43
    rw [bsel_or] at e43
    repeat first | (with_reducible refine side_d ?_ ?_; exact byD) | (with_reducible refine side_q ?_ ?_; exact byQ)
    intro t44 e44
    rw [bsel_and] at e44
    repeat first | (with_reducible refine side_d ?_ ?_; exact byD) | (with_reducible refine side_q ?_ ?_; exact byQ)
    subst e26 e31 e36 e41 e42 e43 e44
    refine cx_meet (σ := List Grant × Bool) (fun m => m = step1 f w r (putS l f w r i) (l.getD i default) ∧ m.1.length ≤ 2 * i + 1) (fun m => [⟨9, 0, [], .own none 0 3 0 m.1.length .loose⟩, ⟨10, 0, [], .bool m.2⟩]) [0, 1, 2, 3, 8, 11, 12] (fun m => [.arr 3 m.1.length (En Grant.enc default m.1), .box (Grant.enc (l.getD i default))]) (fun _ => (Nat.zero_le _)) ?_ (fun m hIM1 => ?_)
    ·
      refine cx_if _ rfl (fun h44 => ?_) (fun h44 => ?_)
      ·
        (try simp only [go_sem] at h44)
        refine cx_sr ?_
        simp only [go_sem]
        repeat first | (with_reducible refine side_d ?_ ?_; exact byD) | (with_reducible refine side_q ?_ ?_; exact byQ)
        refine cx_region ?_
        simp only [go_sem]
        repeat first | (with_reducible refine side_d ?_ ?_; exact byD) | (with_reducible refine side_q ?_ ?_; exact byQ)
        have hbs := @blt_swap (l.getD i default).folder f
        have hs1 := step1_T (r := r) (s := putS l f w r i) (g := l.getD i default) (f := f) (w := w) (by grind)
        refine mt_nextr ((putS l f w r i).1 ++ [⟨f, w, r⟩], true) [3, 1] ⟨hs1.symm, by simp; omega⟩ ⟨rfl, rfl, ?_, ?_⟩
        · exact byC
        · skip
          simp only [go_sem, wk, wks, wkB, wkH, List.length_append, List.length_cons, List.length_nil]
          first | exact fun q hq => wks_mp_snoc (fun x => rnVs_no _ rfl) (by rfl) hq | (and_intros <;> first | trivial | rfl | (exact fun q hq => wks_mp_snoc (fun x => rnVs_no _ rfl) (by rfl) hq) | exact wks_refl _ | exact byC)
      ·
        (try simp only [go_sem] at h44)
        refine cx_skip ?_
        (try simp only [go_sem])
        have hbs := @blt_swap (l.getD i default).folder f
        have hs1 := step1_F (r := r) (s := putS l f w r i) (g := l.getD i default) (f := f) (w := w) (by grind)
        refine mt_next (putS l f w r i) ⟨hs1.symm, by omega⟩ byC
    simp only [go_sem]
    refine cx_sr ?_
    simp only [go_sem]
    repeat first | (with_reducible refine side_d ?_ ?_; exact byD) | (with_reducible refine side_q ?_ ?_; exact byQ)
    intro t55 e55
    repeat first | (with_reducible refine side_d ?_ ?_; exact byD) | (with_reducible refine side_q ?_ ?_; exact byQ)
    intro t60 e60
    repeat first | (with_reducible refine side_d ?_ ?_; exact byD) | (with_reducible refine side_q ?_ ?_; exact byQ)
    intro t61 e61
    rw [bsel_or] at e61
    repeat first | (with_reducible refine side_d ?_ ?_; exact byD) | (with_reducible refine side_q ?_ ?_; exact byQ)
    subst e55 e60 e61
    refine cx_if _ rfl (fun h61 => ?_) (fun h61 => ?_)
    ·
      (try simp only [go_sem] at h61)
      have hp := putS_next (l := l) (f := f) (w := w) (r := r) (i := i) (by omega)
      rw [putStep_eq, if_pos h61, ← hIM1.1] at hp
      refine cx_region ?_
      simp only [go_sem]
      repeat first | (with_reducible refine side_d ?_ ?_; exact byD) | (with_reducible refine side_q ?_ ?_; exact byQ)
      refine cx_region ?_
      simp only [go_sem]
      repeat first | (with_reducible refine side_d ?_ ?_; exact byD) | (with_reducible refine side_q ?_ ?_; exact byQ)
      intro t20 e20
      (try replace e20 := w64 e20 (by omega) (by omega))
      repeat first | (with_reducible refine side_d ?_ ?_; exact byD) | (with_reducible refine side_q ?_ ?_; exact byQ)
      refine rnd_nextr (i + 1) [3] (by omega) (by first | omega | (dsimp only; omega)) ⟨rfl, rfl, ?_, ?_⟩
      · rw [hp]; exact byC
      · rw [hp]; skip
        simp only [go_sem, wk, wks, wkB, wkH, List.length_append, List.length_cons, List.length_nil]
        first | exact fun q hq => wks_mp_snoc (fun x => rnVs_no _ rfl) (by rfl) hq | (and_intros <;> first | trivial | rfl | (exact fun q hq => wks_mp_snoc (fun x => rnVs_no _ rfl) (by rfl) hq) | exact wks_refl _ | exact byC)
    ·
      (try simp only [go_sem] at h61)
      have hp := putS_next (l := l) (f := f) (w := w) (r := r) (i := i) (by omega)
      rw [putStep_eq, if_neg (by grind), ← hIM1.1] at hp
      refine cx_skip ?_
      (try simp only [go_sem])
      refine cx_region ?_
      simp only [go_sem]
      repeat first | (with_reducible refine side_d ?_ ?_; exact byD) | (with_reducible refine side_q ?_ ?_; exact byQ)
      intro t20 e20
      (try replace e20 := w64 e20 (by omega) (by omega))
      repeat first | (with_reducible refine side_d ?_ ?_; exact byD) | (with_reducible refine side_q ?_ ?_; exact byQ)
      refine rnd_next (i + 1) (by omega) (by first | omega | (dsimp only; omega)) ?_
      rw [hp]
      exact byC
  ·
    (try simp only [go_sem] at h18)
    have hpe : putS l f w r i = l.foldl (putStep f w r) ([], decide (r = 0)) := by
      unfold putS; rw [List.take_of_length_le (by omega)]
    refine cx_exit ?_
    simp only [go_sem]
    refine cx_seq ?_
    refine cx_sr ?_
    simp only [go_sem]
    repeat first | (with_reducible refine side_d ?_ ?_; exact byD) | (with_reducible refine side_q ?_ ?_; exact byQ)
    intro t67 e67
    repeat first | (with_reducible refine side_d ?_ ?_; exact byD) | (with_reducible refine side_q ?_ ?_; exact byQ)
    subst e67
    refine cx_if _ rfl (fun h67 => ?_) (fun h67 => ?_)
    ·
      (try simp only [go_sem] at h67)
      refine cx_region ?_
      simp only [go_sem]
      repeat first | (with_reducible refine side_d ?_ ?_; exact byD) | (with_reducible refine side_q ?_ ?_; exact byQ)
      refine cx_sr ?_
      simp only [go_sem]
      repeat first | (with_reducible refine side_d ?_ ?_; exact byD) | (with_reducible refine side_q ?_ ?_; exact byQ)
      refine cx_ret ?_
      simp only [go_sem]
      have hput : refPut l f w r = (putS l f w r i).1 ++ [⟨f, w, r⟩] := by rw [refPut, ← hpe]; exact if_pos h67
      rw [hput]
      refine finx_w (.own none 2 3 0 ((putS l f w r i).1 ++ [Grant.mk f w r]).length .loose) [.dead, .dead, .arr 3 ((putS l f w r i).1 ++ [Grant.mk f w r]).length (En Grant.enc default ((putS l f w r i).1 ++ [Grant.mk f w r]))] ?_ ?_ ?_
      · exact byC
      · simp only [go_sem, wkB, wkH, List.length_append, List.length_cons, List.length_nil]
        exact fun q hq => wks_En_snoc (x := Grant.mk f w r) (by exact wks_refl _) hq
      · exact finx_of 1 [] rfl byC byC byC byC
    ·
      (try simp only [go_sem] at h67)
      refine cx_skip ?_
      (try simp only [go_sem])
      refine cx_sr ?_
      simp only [go_sem]
      repeat first | (with_reducible refine side_d ?_ ?_; exact byD) | (with_reducible refine side_q ?_ ?_; exact byQ)
      refine cx_ret ?_
      simp only [go_sem]
      have hput : refPut l f w r = (putS l f w r i).1 := by rw [refPut, ← hpe]; exact if_neg (by simpa using h67)
      rw [hput]
      exact finx_of 1 [] rfl byC byC byC byC
end Go.VM.Try
end
section
set_option linter.unusedVariables false
set_option linter.unusedSimpArgs false
open Go Go.VM Go.Proofs Tether
namespace Go.VM.Try
set_option maxRecDepth 100000
set_option maxHeartbeats 1000000
theorem fin_tupE {α : Type} {e : Nat} {enc : α → List V} {d : α} {p : List α × Int} {k : Int} {H : Heap} (h : p = ([], k)) : finx (.tup [lstV e enc d p.1, .int .i64 p.2]) [] (.tup [.nil, .int .i64 k]) H := by
  rw [h]; exact finx_of 1 [] rfl byC byC byC byC
def giveO (l : List Grant) (f by_ w : Str) (r : Int) : List Grant × Int := if giveErr l f by_ w r = 0 then (putG l f w r, 0) else ([], giveErr l f by_ w r)
def makeO (l : List Grant) (f w : Str) : List Grant × Int := if makeErr l f w = 0 then (putG l f w 3, 0) else ([], makeErr l f w)
theorem giveO_err {l : List Grant} {f by_ w : Str} {r k : Int} (h : giveErr l f by_ w r = k) (hk : k ≠ 0) : giveO l f by_ w r = ([], k) := by rw [giveO, if_neg (by rw [h]; exact hk), h]
theorem makeO_err {l : List Grant} {f w : Str} {k : Int} (h : makeErr l f w = k) (hk : k ≠ 0) : makeO l f w = ([], k) := by rw [makeO, if_neg (by rw [h]; exact hk), h]
theorem RGive_c (l : List Grant) (hl : okG l) (h60 : l.length ≤ 60) (hs : SortedG l) (f by_ w : Str) (hf : f.length < 4611686018427387904) (hb : by_.length < 4611686018427387904) (hw : w.length < 4611686018427387904) (r : Int) :
    Meets Try.prog 36 [gsV l, .str f, .str by_, .str w, .int .i64 r] (.tup [gsV (giveO l f by_ w r).1, .int .i64 (giveO l f by_ w r).2]) [] := by
  refine meets_x (fn := Try.f36) Try.func36 rfl fb36 (by kernel_rfl) (Nat.le_of_ble_eq_true rfl) ?_
  have hP := RPut_c l h60 f w r
  rw [refPut_eq hs] at hP
  have hpl := ins_len (l := l) (f := f) (w := w) (r := r)
  refine cx_sr ?_
  simp only [go_sem]
  repeat first | (with_reducible refine side_d ?_ ?_; exact byD) | (with_reducible refine side_q ?_ ?_; exact byQ)
  refine cx_seq (cx_block ?_)
  refine cx_seq ?_
  refine cx_sr ?_
  simp only [go_sem]
  repeat first | (with_reducible refine side_d ?_ ?_; exact byD) | (with_reducible refine side_q ?_ ?_; exact byQ)
  refine cw_m (RIsName_c f hf) byW byT ?_
  simp only [go_sem]
  repeat first | (with_reducible refine side_d ?_ ?_; exact byD) | (with_reducible refine side_q ?_ ?_; exact byQ)
  intro t16 e16
  repeat first | (with_reducible refine side_d ?_ ?_; exact byD) | (with_reducible refine side_q ?_ ?_; exact byQ)
  subst e16
  refine cx_if _ rfl (fun h13 => ?_) (fun h13 => ?_)
  ·
    (try simp only [go_sem] at h13)
    refine cx_skip ?_
    (try simp only [go_sem])
    refine cx_if _ rfl (fun h13b => ?_) (fun h13b => no_if h13b)
    refine cx_sr ?_
    simp only [go_sem]
    repeat first | (with_reducible refine side_d ?_ ?_; exact byD) | (with_reducible refine side_q ?_ ?_; exact byQ)
    refine cx_ret ?_
    simp only [go_sem]
    first
    | (refine fin_tupE (giveO_err ?_ (by decide)); unfold giveErr; grind)
    | (rw [giveO, if_pos (by unfold giveErr; grind)]; exact finx_of 1 [] rfl byC byC byC byC)
  ·
    (try simp only [go_sem] at h13)
    refine cx_sr ?_
    simp only [go_sem]
    repeat first | (with_reducible refine side_d ?_ ?_; exact byD) | (with_reducible refine side_q ?_ ?_; exact byQ)
    refine cw_m (RIsName_c by_ hb) byW byT ?_
    simp only [go_sem]
    repeat first | (with_reducible refine side_d ?_ ?_; exact byD) | (with_reducible refine side_q ?_ ?_; exact byQ)
    intro t19 e19
    repeat first | (with_reducible refine side_d ?_ ?_; exact byD) | (with_reducible refine side_q ?_ ?_; exact byQ)
    subst e19
    refine cx_if _ rfl (fun h13b => ?_) (fun h13b => ?_)
    ·
      (try simp only [go_sem] at h13b)
      refine cx_skip ?_
      (try simp only [go_sem])
      refine cx_if _ rfl (fun h13c => ?_) (fun h13c => no_if h13c)
      refine cx_sr ?_
      simp only [go_sem]
      repeat first | (with_reducible refine side_d ?_ ?_; exact byD) | (with_reducible refine side_q ?_ ?_; exact byQ)
      refine cx_ret ?_
      simp only [go_sem]
      first
      | (refine fin_tupE (giveO_err ?_ (by decide)); unfold giveErr; grind)
      | (rw [giveO, if_pos (by unfold giveErr; grind)]; exact finx_of 1 [] rfl byC byC byC byC)
    ·
      (try simp only [go_sem] at h13b)
      refine cx_region ?_
      simp only [go_sem]
      repeat first | (with_reducible refine side_d ?_ ?_; exact byD) | (with_reducible refine side_q ?_ ?_; exact byQ)
      refine cw_m (RIsName_c w hw) byW byT ?_
      simp only [go_sem]
      repeat first | (with_reducible refine side_d ?_ ?_; exact byD) | (with_reducible refine side_q ?_ ?_; exact byQ)
      intro t22 e22
      repeat first | (with_reducible refine side_d ?_ ?_; exact byD) | (with_reducible refine side_q ?_ ?_; exact byQ)
      subst e22
      refine cx_if _ rfl (fun h13c => ?_) (fun h13c => ?_)
      ·
        (try simp only [go_sem] at h13c)
        refine cx_sr ?_
        simp only [go_sem]
        repeat first | (with_reducible refine side_d ?_ ?_; exact byD) | (with_reducible refine side_q ?_ ?_; exact byQ)
        refine cx_ret ?_
        simp only [go_sem]
        first
        | (refine fin_tupE (giveO_err ?_ (by decide)); unfold giveErr; grind)
        | (rw [giveO, if_pos (by unfold giveErr; grind)]; exact finx_of 1 [] rfl byC byC byC byC)
      ·
        (try simp only [go_sem] at h13c)
        refine cx_sr ?_
        simp only [go_sem]
        repeat first | (with_reducible refine side_d ?_ ?_; exact byD) | (with_reducible refine side_q ?_ ?_; exact byQ)
        intro t25 e25
        repeat first | (with_reducible refine side_d ?_ ?_; exact byD) | (with_reducible refine side_q ?_ ?_; exact byQ)
        intro t28 e28
        repeat first | (with_reducible refine side_d ?_ ?_; exact byD) | (with_reducible refine side_q ?_ ?_; exact byQ)
        intro t29 e29
        rw [bsel_or] at e29
        repeat first | (with_reducible refine side_d ?_ ?_; exact byD) | (with_reducible refine side_q ?_ ?_; exact byQ)
        subst e25 e28 e29
        refine cx_if _ rfl (fun h23 => ?_) (fun h23 => ?_)
        ·
          (try simp only [go_sem] at h23)
          refine cx_sr ?_
          simp only [go_sem]
          repeat first | (with_reducible refine side_d ?_ ?_; exact byD) | (with_reducible refine side_q ?_ ?_; exact byQ)
          refine cx_ret ?_
          simp only [go_sem]
          first
          | (refine fin_tupE (giveO_err ?_ (by decide)); unfold giveErr; grind)
          | (rw [giveO, if_pos (by unfold giveErr; grind)]; exact finx_of 1 [] rfl byC byC byC byC)
        ·
          (try simp only [go_sem] at h23)
          refine cx_sr ?_
          simp only [go_sem]
          repeat first | (with_reducible refine side_d ?_ ?_; exact byD) | (with_reducible refine side_q ?_ ?_; exact byQ)
          refine cw_m (RRightOf_c l hl.len f by_) byW byT ?_
          simp only [go_sem]
          repeat first | (with_reducible refine side_d ?_ ?_; exact byD) | (with_reducible refine side_q ?_ ?_; exact byQ)
          intro t35 e35
          repeat first | (with_reducible refine side_d ?_ ?_; exact byD) | (with_reducible refine side_q ?_ ?_; exact byQ)
          intro t39 e39
          repeat first | (with_reducible refine side_d ?_ ?_; exact byD) | (with_reducible refine side_q ?_ ?_; exact byQ)
          intro t42 e42
          repeat first | (with_reducible refine side_d ?_ ?_; exact byD) | (with_reducible refine side_q ?_ ?_; exact byQ)
          intro t43 e43
          rw [bsel_or] at e43
          repeat first | (with_reducible refine side_d ?_ ?_; exact byD) | (with_reducible refine side_q ?_ ?_; exact byQ)
          intro t44 e44
          rw [bsel_and] at e44
          repeat first | (with_reducible refine side_d ?_ ?_; exact byD) | (with_reducible refine side_q ?_ ?_; exact byQ)
          subst e35 e39 e42 e43 e44
          refine cx_if _ rfl (fun h30 => ?_) (fun h30 => ?_)
          ·
            (try simp only [go_sem] at h30)
            refine cx_sr ?_
            simp only [go_sem]
            repeat first | (with_reducible refine side_d ?_ ?_; exact byD) | (with_reducible refine side_q ?_ ?_; exact byQ)
            refine cx_ret ?_
            simp only [go_sem]
            first
            | (refine fin_tupE (giveO_err ?_ (by decide)); unfold giveErr; grind)
            | (rw [giveO, if_pos (by unfold giveErr; grind)]; exact finx_of 1 [] rfl byC byC byC byC)
          ·
            (try simp only [go_sem] at h30)
            refine cx_sr ?_
            simp only [go_sem]
            repeat first | (with_reducible refine side_d ?_ ?_; exact byD) | (with_reducible refine side_q ?_ ?_; exact byQ)
            intro t47 e47
            repeat first | (with_reducible refine side_d ?_ ?_; exact byD) | (with_reducible refine side_q ?_ ?_; exact byQ)
            refine ⟨_, fun hp => cw_m (RRightOf_c l hl.len f w) byW byT ⟨rfl, rfl⟩, ?_⟩
            simp only [go_sem]
            repeat first | (with_reducible refine side_d ?_ ?_; exact byD) | (with_reducible refine side_q ?_ ?_; exact byQ)
            intro t53 e53
            repeat first | (with_reducible refine side_d ?_ ?_; exact byD) | (with_reducible refine side_q ?_ ?_; exact byQ)
            intro t54 e54
            rw [bsel_and] at e54
            repeat first | (with_reducible refine side_d ?_ ?_; exact byD) | (with_reducible refine side_q ?_ ?_; exact byQ)
            subst e47 e53 e54
            refine cx_if _ rfl (fun h45 => ?_) (fun h45 => ?_)
            ·
              (try simp only [go_sem] at h45)
              refine cx_sr ?_
              simp only [go_sem]
              repeat first | (with_reducible refine side_d ?_ ?_; exact byD) | (with_reducible refine side_q ?_ ?_; exact byQ)
              refine cx_ret ?_
              simp only [go_sem]
              first
              | (refine fin_tupE (giveO_err ?_ (by decide)); unfold giveErr; grind)
              | (rw [giveO, if_pos (by unfold giveErr; grind)]; exact finx_of 1 [] rfl byC byC byC byC)
            ·
              (try simp only [go_sem] at h45)
              refine cx_skip ?_
              (try simp only [go_sem])
              refine cx_sr ?_
              simp only [go_sem]
              repeat first | (with_reducible refine side_d ?_ ?_; exact byD) | (with_reducible refine side_q ?_ ?_; exact byQ)
              refine cw_m (hP) byW byT ?_
              simp only [go_sem]
              repeat first | (with_reducible refine side_d ?_ ?_; exact byD) | (with_reducible refine side_q ?_ ?_; exact byQ)
              refine cx_seq ?_
              refine cx_sr ?_
              simp only [go_sem]
              repeat first | (with_reducible refine side_d ?_ ?_; exact byD) | (with_reducible refine side_q ?_ ?_; exact byQ)
              refine cw_m (ROwned_c (putG l f w r) (by omega) f) byW byT ?_
              simp only [go_sem]
              repeat first | (with_reducible refine side_d ?_ ?_; exact byD) | (with_reducible refine side_q ?_ ?_; exact byQ)
              intro t63 e63
              repeat first | (with_reducible refine side_d ?_ ?_; exact byD) | (with_reducible refine side_q ?_ ?_; exact byQ)
              subst e63
              refine cx_if _ rfl (fun h63 => ?_) (fun h63 => ?_)
              ·
                (try simp only [go_sem] at h63)
                refine cx_sr ?_
                simp only [go_sem]
                repeat first | (with_reducible refine side_d ?_ ?_; exact byD) | (with_reducible refine side_q ?_ ?_; exact byQ)
                refine cx_ret ?_
                simp only [go_sem]
                first
                | (refine fin_tupE (giveO_err ?_ (by decide)); unfold giveErr; grind)
                | (rw [giveO, if_pos (by unfold giveErr; grind)]; exact finx_of 1 [] rfl byC byC byC byC)
              ·
                (try simp only [go_sem] at h63)
                refine cx_skip ?_
                (try simp only [go_sem])
                refine cx_seq ?_
                refine cx_sr ?_
                simp only [go_sem]
                repeat first | (with_reducible refine side_d ?_ ?_; exact byD) | (with_reducible refine side_q ?_ ?_; exact byQ)
                intro t66 e66
                repeat first | (with_reducible refine side_d ?_ ?_; exact byD) | (with_reducible refine side_q ?_ ?_; exact byQ)
                subst e66
                refine cx_if _ rfl (fun h66 => ?_) (fun h66 => ?_)
                ·
                  (try simp only [go_sem] at h66)
                  refine cx_sr ?_
                  simp only [go_sem]
                  repeat first | (with_reducible refine side_d ?_ ?_; exact byD) | (with_reducible refine side_q ?_ ?_; exact byQ)
                  refine cx_ret ?_
                  simp only [go_sem]
                  first
                  | (refine fin_tupE (giveO_err ?_ (by decide)); unfold giveErr; grind)
                  | (rw [giveO, if_pos (by unfold giveErr; grind)]; exact finx_of 1 [] rfl byC byC byC byC)
                ·
                  (try simp only [go_sem] at h66)
                  refine cx_skip ?_
                  (try simp only [go_sem])
                  refine cx_sr ?_
                  simp only [go_sem]
                  repeat first | (with_reducible refine side_d ?_ ?_; exact byD) | (with_reducible refine side_q ?_ ?_; exact byQ)
                  refine cx_ret ?_
                  simp only [go_sem]
                  first
                  | (refine fin_tupE (giveO_err ?_ (by decide)); unfold giveErr; grind)
                  | (rw [giveO, if_pos (by unfold giveErr; grind)]; exact finx_of 1 [] rfl byC byC byC byC)
theorem RMake_c (l : List Grant) (hl : okG l) (h60 : l.length ≤ 60) (hs : SortedG l) (f w : Str) (hf : f.length < 4611686018427387904) (hw : w.length < 4611686018427387904) :
    Meets Try.prog 39 [gsV l, .str f, .str w] (.tup [gsV (makeO l f w).1, .int .i64 (makeO l f w).2]) [] := by
  refine meets_x (fn := Try.f39) Try.func39 rfl fb39 (by kernel_rfl) (Nat.le_of_ble_eq_true rfl) ?_
  have hP := RPut_c l h60 f w 3
  rw [refPut_eq hs] at hP
  have hwn := @whoG_nil l f
  refine cx_sr ?_
  simp only [go_sem]
  repeat first | (with_reducible refine side_d ?_ ?_; exact byD) | (with_reducible refine side_q ?_ ?_; exact byQ)
  refine cx_seq (cx_block ?_)
  refine cx_seq ?_
  refine cx_sr ?_
  simp only [go_sem]
  repeat first | (with_reducible refine side_d ?_ ?_; exact byD) | (with_reducible refine side_q ?_ ?_; exact byQ)
  refine cw_m (RIsName_c f hf) byW byT ?_
  simp only [go_sem]
  repeat first | (with_reducible refine side_d ?_ ?_; exact byD) | (with_reducible refine side_q ?_ ?_; exact byQ)
  intro t11 e11
  repeat first | (with_reducible refine side_d ?_ ?_; exact byD) | (with_reducible refine side_q ?_ ?_; exact byQ)
  subst e11
  refine cx_if _ rfl (fun h8 => ?_) (fun h8 => ?_)
  ·
    (try simp only [go_sem] at h8)
    refine cx_skip ?_
    (try simp only [go_sem])
    refine cx_if _ rfl (fun h8b => ?_) (fun h8b => no_if h8b)
    refine cx_sr ?_
    simp only [go_sem]
    repeat first | (with_reducible refine side_d ?_ ?_; exact byD) | (with_reducible refine side_q ?_ ?_; exact byQ)
    refine cx_ret ?_
    simp only [go_sem]
    first
    | (refine fin_tupE (makeO_err ?_ (by decide)); unfold makeErr; grind)
    | (rw [makeO, if_pos (by unfold makeErr; grind)]; exact finx_of 1 [] rfl byC byC byC byC)
  ·
    (try simp only [go_sem] at h8)
    refine cx_region ?_
    simp only [go_sem]
    repeat first | (with_reducible refine side_d ?_ ?_; exact byD) | (with_reducible refine side_q ?_ ?_; exact byQ)
    refine cw_m (RIsName_c w hw) byW byT ?_
    simp only [go_sem]
    repeat first | (with_reducible refine side_d ?_ ?_; exact byD) | (with_reducible refine side_q ?_ ?_; exact byQ)
    intro t14 e14
    repeat first | (with_reducible refine side_d ?_ ?_; exact byD) | (with_reducible refine side_q ?_ ?_; exact byQ)
    subst e14
    refine cx_if _ rfl (fun h8b => ?_) (fun h8b => ?_)
    ·
      (try simp only [go_sem] at h8b)
      refine cx_sr ?_
      simp only [go_sem]
      repeat first | (with_reducible refine side_d ?_ ?_; exact byD) | (with_reducible refine side_q ?_ ?_; exact byQ)
      refine cx_ret ?_
      simp only [go_sem]
      first
      | (refine fin_tupE (makeO_err ?_ (by decide)); unfold makeErr; grind)
      | (rw [makeO, if_pos (by unfold makeErr; grind)]; exact finx_of 1 [] rfl byC byC byC byC)
    ·
      (try simp only [go_sem] at h8b)
      refine cx_sr ?_
      simp only [go_sem]
      repeat first | (with_reducible refine side_d ?_ ?_; exact byD) | (with_reducible refine side_q ?_ ?_; exact byQ)
      refine cw_m (RWhoOf_c l hl.len (by omega) f) byW byT ?_
      simp only [go_sem]
      repeat first | (with_reducible refine side_d ?_ ?_; exact byD) | (with_reducible refine side_q ?_ ?_; exact byQ)
      intro t20 e20
      repeat first | (with_reducible refine side_d ?_ ?_; exact byD) | (with_reducible refine side_q ?_ ?_; exact byQ)
      subst e20
      refine cx_if _ rfl (fun h15 => ?_) (fun h15 => ?_)
      ·
        (try simp only [go_sem] at h15)
        refine cx_sr ?_
        simp only [go_sem]
        repeat first | (with_reducible refine side_d ?_ ?_; exact byD) | (with_reducible refine side_q ?_ ?_; exact byQ)
        refine cx_ret ?_
        simp only [go_sem]
        first
        | (refine fin_tupE (makeO_err ?_ (by decide)); unfold makeErr; grind)
        | (rw [makeO, if_pos (by unfold makeErr; grind)]; exact finx_of 1 [] rfl byC byC byC byC)
      ·
        (try simp only [go_sem] at h15)
        refine cx_sr ?_
        simp only [go_sem]
        repeat first | (with_reducible refine side_d ?_ ?_; exact byD) | (with_reducible refine side_q ?_ ?_; exact byQ)
        intro t24 e24
        repeat first | (with_reducible refine side_d ?_ ?_; exact byD) | (with_reducible refine side_q ?_ ?_; exact byQ)
        subst e24
        refine cx_if _ rfl (fun h21 => ?_) (fun h21 => ?_)
        ·
          (try simp only [go_sem] at h21)
          refine cx_sr ?_
          simp only [go_sem]
          repeat first | (with_reducible refine side_d ?_ ?_; exact byD) | (with_reducible refine side_q ?_ ?_; exact byQ)
          refine cx_ret ?_
          simp only [go_sem]
          first
          | (refine fin_tupE (makeO_err ?_ (by decide)); unfold makeErr; grind)
          | (rw [makeO, if_pos (by unfold makeErr; grind)]; exact finx_of 1 [] rfl byC byC byC byC)
        ·
          (try simp only [go_sem] at h21)
          refine cx_skip ?_
          (try simp only [go_sem])
          refine cx_sr ?_
          simp only [go_sem]
          repeat first | (with_reducible refine side_d ?_ ?_; exact byD) | (with_reducible refine side_q ?_ ?_; exact byQ)
          refine cw_m (hP) byW byT ?_
          simp only [go_sem]
          repeat first | (with_reducible refine side_d ?_ ?_; exact byD) | (with_reducible refine side_q ?_ ?_; exact byQ)
          refine cx_ret ?_
          simp only [go_sem]
          first
          | (refine fin_tupE (makeO_err ?_ (by decide)); unfold makeErr; grind)
          | (rw [makeO, if_pos (by unfold makeErr; grind)]; exact finx_of 1 [] rfl byC byC byC byC)
theorem grantBegun_c : Meets Try.prog 32 [] (.bool true) [] := by
  have o1 : Meets Try.prog 38 [gsV [], .str [102], .str [97]] (.tup [gsV [⟨[102], [97], 3⟩], .int .i64 0]) [] := by
    have := Make_c [] ⟨by decide, by simp⟩ [102] [97] (by decide) (by decide)
    rw [show makeG [] [102] [97] = ([⟨[102], [97], 3⟩], 0) by decide +kernel] at this
    exact this
  have o2 : Meets Try.prog 35 [gsV [⟨[102], [97], 3⟩], .str [102], .str [97], .str [98], .int .i64 1] (.tup [gsV [⟨[102], [97], 3⟩, ⟨[102], [98], 1⟩], .int .i64 0]) [] := by
    have := Give_c [⟨[102], [97], 3⟩] ⟨by decide, by simp⟩ [102] [97] [98] (by decide) (by decide) (by decide) 1
    rw [show giveG [⟨[102], [97], 3⟩] [102] [97] [98] 1 = ([⟨[102], [97], 3⟩, ⟨[102], [98], 1⟩], 0) by decide +kernel] at this
    exact this
  refine meets_x (fn := Try.f32) Try.func32 rfl fb32 (by kernel_rfl) (Nat.le_of_ble_eq_true rfl) ?_
  refine cx_sr ?_
  simp only [go_sem]
  repeat first | (with_reducible refine side_d ?_ ?_; exact byD) | (with_reducible refine side_q ?_ ?_; exact byQ)
  refine cx_sr ?_
  simp only [go_sem]
  repeat first | (with_reducible refine side_d ?_ ?_; exact byD) | (with_reducible refine side_q ?_ ?_; exact byQ)
  refine cw_m (o1) byW byT ?_
  simp only [go_sem]
  repeat first | (with_reducible refine side_d ?_ ?_; exact byD) | (with_reducible refine side_q ?_ ?_; exact byQ)
  refine cx_sr ?_
  simp only [go_sem]
  repeat first | (with_reducible refine side_d ?_ ?_; exact byD) | (with_reducible refine side_q ?_ ?_; exact byQ)
  refine cw_m (o2) byW byT ?_
  simp only [go_sem]
  repeat first | (with_reducible refine side_d ?_ ?_; exact byD) | (with_reducible refine side_q ?_ ?_; exact byQ)
  refine cx_sr ?_
  simp only [go_sem]
  repeat first | (with_reducible refine side_d ?_ ?_; exact byD) | (with_reducible refine side_q ?_ ?_; exact byQ)
  intro t15 e15
  repeat first | (with_reducible refine side_d ?_ ?_; exact byD) | (with_reducible refine side_q ?_ ?_; exact byQ)
  intro t18 e18
  repeat first | (with_reducible refine side_d ?_ ?_; exact byD) | (with_reducible refine side_q ?_ ?_; exact byQ)
  intro t19 e19
  rw [bsel_and] at e19
  repeat first | (with_reducible refine side_d ?_ ?_; exact byD) | (with_reducible refine side_q ?_ ?_; exact byQ)
  intro t23 e23
  repeat first | (with_reducible refine side_d ?_ ?_; exact byD) | (with_reducible refine side_q ?_ ?_; exact byQ)
  intro t24 e24
  rw [bsel_and] at e24
  repeat first | (with_reducible refine side_d ?_ ?_; exact byD) | (with_reducible refine side_q ?_ ?_; exact byQ)
  intro t28 e28
  repeat first | (with_reducible refine side_d ?_ ?_; exact byD) | (with_reducible refine side_q ?_ ?_; exact byQ)
  intro t29 e29
  rw [bsel_and] at e29
  repeat first | (with_reducible refine side_d ?_ ?_; exact byD) | (with_reducible refine side_q ?_ ?_; exact byQ)
  subst e15 e18 e19 e23 e24 e28 e29
  refine cx_ret ?_
  simp only [go_sem]
  exact finw_bool rfl
theorem grantsAre_c (l : List Grant) (hl : l.length < 4611686018427387904) (e w : Int) (want : List Grant) (hw : want.length < 4611686018427387904) : Meets Try.prog 37 [gsV l, .int .i64 e, .int .i64 w, gsV want] (.bool (decide (e = w) && sameL l (if w = 0 then want else []))) [] := by
  refine meets_x (fn := Try.f37) Try.func37 rfl fb37 (by kernel_rfl) (Nat.le_of_ble_eq_true rfl) ?_
  refine cx_sr ?_
  simp only [go_sem]
  repeat first | (with_reducible refine side_d ?_ ?_; exact byD) | (with_reducible refine side_q ?_ ?_; exact byQ)
  refine cx_seq ?_
  refine cx_sr ?_
  simp only [go_sem]
  repeat first | (with_reducible refine side_d ?_ ?_; exact byD) | (with_reducible refine side_q ?_ ?_; exact byQ)
  intro t10 e10
  repeat first | (with_reducible refine side_d ?_ ?_; exact byD) | (with_reducible refine side_q ?_ ?_; exact byQ)
  subst e10
  refine cx_meet0 (σ := List Grant) (fun m => m = (if w = 0 then want else []) ∧ m.length < 4611686018427387904) (fun m => [⟨3, 0, [], gsV m⟩]) [0, 1, 2, 8] (Nat.zero_le _) ?_ (fun m hIM1 => ?_)
  ·
    refine cx_if _ rfl (fun h10 => ?_) (fun h10 => ?_)
    ·
      (try simp only [go_sem] at h10)
      refine cx_region ?_
      simp only [go_sem]
      repeat first | (with_reducible refine side_d ?_ ?_; exact byD) | (with_reducible refine side_q ?_ ?_; exact byQ)
      refine mt_next [] ⟨(if_neg h10).symm, by simp⟩ byC
    ·
      (try simp only [go_sem] at h10)
      refine cx_skip ?_
      (try simp only [go_sem])
      refine mt_next want ⟨(if_pos h10).symm, hw⟩ byC
  simp only [go_sem]
  refine cx_sr ?_
  simp only [go_sem]
  repeat first | (with_reducible refine side_d ?_ ?_; exact byD) | (with_reducible refine side_q ?_ ?_; exact byQ)
  intro t13 e13
  repeat first | (with_reducible refine side_d ?_ ?_; exact byD) | (with_reducible refine side_q ?_ ?_; exact byQ)
  refine ⟨_, fun hp => cw_m (SameGrants_c l m hl hIM1.2) byW byT ⟨rfl, rfl⟩, ?_⟩
  simp only [go_sem]
  repeat first | (with_reducible refine side_d ?_ ?_; exact byD) | (with_reducible refine side_q ?_ ?_; exact byQ)
  intro t18 e18
  rw [bsel_and] at e18
  repeat first | (with_reducible refine side_d ?_ ?_; exact byD) | (with_reducible refine side_q ?_ ?_; exact byQ)
  subst e13 e18
  refine cx_ret ?_
  simp only [go_sem]
  refine finw_bool ?_
  rw [hIM1.1]
  try simp
theorem GrantChecks_c (l : List Grant) (hl : okG l) : Meets Try.prog 9 [gsV l] (.bool true) [] := by
  refine meets_x (fn := Try.f9) Try.func9 rfl fb9 (by kernel_rfl) (Nat.le_of_ble_eq_true rfl) ?_
  refine cx_sr ?_
  simp only [go_sem]
  repeat first | (with_reducible refine side_d ?_ ?_; exact byD) | (with_reducible refine side_q ?_ ?_; exact byQ)
  refine cx_sr ?_
  simp only [go_sem]
  repeat first | (with_reducible refine side_d ?_ ?_; exact byD) | (with_reducible refine side_q ?_ ?_; exact byQ)
  refine cw_m (grantBegun_c) byW byT ?_
  simp only [go_sem]
  repeat first | (with_reducible refine side_d ?_ ?_; exact byD) | (with_reducible refine side_q ?_ ?_; exact byQ)
  refine ⟨_, fun hp => cw_m (checkG_c l hl) byW byT ⟨rfl, rfl⟩, ?_⟩
  simp only [go_sem]
  repeat first | (with_reducible refine side_d ?_ ?_; exact byD) | (with_reducible refine side_q ?_ ?_; exact byQ)
  refine ⟨_, fun hp => cw_m (RCheckGrants_c l hl) byW byT ⟨rfl, rfl⟩, ?_⟩
  simp only [go_sem]
  repeat first | (with_reducible refine side_d ?_ ?_; exact byD) | (with_reducible refine side_q ?_ ?_; exact byQ)
  intro t9 e9
  repeat first | (with_reducible refine side_d ?_ ?_; exact byD) | (with_reducible refine side_q ?_ ?_; exact byQ)
  intro t10 e10
  rw [bsel_and] at e10
  repeat first | (with_reducible refine side_d ?_ ?_; exact byD) | (with_reducible refine side_q ?_ ?_; exact byQ)
  subst e9 e10
  refine cx_ret ?_
  simp only [go_sem]
  refine finw_bool ?_
  simp
end Go.VM.Try
end
section
set_option linter.unusedVariables false
set_option linter.unusedSimpArgs false
open Go Go.VM Go.Proofs Tether
namespace Go.VM.Try
set_option maxRecDepth 100000
set_option maxHeartbeats 1000000
theorem giveG_nil {l : List Grant} {f b w : Str} {r : Int} (h : ¬ (giveG l f b w r).2 = 0) : (giveG l f b w r).1 = [] := by
  unfold giveG at *
  split
  · rfl
  · split
    · rename_i h1 h2; simp [h1, h2] at h
    · rfl
theorem makeG_nil {l : List Grant} {f w : Str} (h : ¬ (makeG l f w).2 = 0) : (makeG l f w).1 = [] := by
  unfold makeG at *
  split
  · rfl
  · split
    · rename_i h1 h2; simp [h1, h2] at h
    · rfl
theorem giveG_of {l : List Grant} {f b w : Str} {r : Int} (h : checkG l = 0) : giveG l f b w r = giveO l f b w r := by rw [giveG, if_neg (by simp [h])]; rfl
theorem makeG_of {l : List Grant} {f w : Str} (h : checkG l = 0) : makeG l f w = makeO l f w := by rw [makeG, if_neg (by simp [h])]; rfl
theorem giveG_len {l : List Grant} {f b w : Str} {r : Int} : (giveG l f b w r).1.length ≤ l.length + 1 := by
  have := ins_len (l := l) (f := f) (w := w) (r := r)
  unfold giveG
  split
  · simp
  · split
    · exact this
    · simp
theorem makeG_len {l : List Grant} {f w : Str} : (makeG l f w).1.length ≤ l.length + 1 := by
  have := ins_len (l := l) (f := f) (w := w) (r := 3)
  unfold makeG
  split
  · simp
  · split
    · exact this
    · simp
theorem GrantGives_c (l : List Grant) (hl : okG l) (f b w : Str) (hf : f.length < 4611686018427387904) (hb : b.length < 4611686018427387904) (hw : w.length < 4611686018427387904) (r : Int) :
    Meets Try.prog 10 [gsV l, .str f, .str b, .str w, .int .i64 r] (.bool true) [] := by
  refine meets_x (fn := Try.f10) Try.func10 rfl fb10 (by kernel_rfl) (Nat.le_of_ble_eq_true rfl) ?_
  have hln := hl.1
  have hgl := giveG_len (l := l) (f := f) (b := b) (w := w) (r := r)
  refine cx_sr ?_
  simp only [go_sem]
  repeat first | (with_reducible refine side_d ?_ ?_; exact byD) | (with_reducible refine side_q ?_ ?_; exact byQ)
  refine cx_sr ?_
  simp only [go_sem]
  repeat first | (with_reducible refine side_d ?_ ?_; exact byD) | (with_reducible refine side_q ?_ ?_; exact byQ)
  refine cw_m (Give_c l hl f b w hf hb hw r) byW byT ?_
  simp only [go_sem]
  repeat first | (with_reducible refine side_d ?_ ?_; exact byD) | (with_reducible refine side_q ?_ ?_; exact byQ)
  refine cx_sr ?_
  simp only [go_sem]
  repeat first | (with_reducible refine side_d ?_ ?_; exact byD) | (with_reducible refine side_q ?_ ?_; exact byQ)
  refine cw_m (RCheckGrants_c l hl) byW byT ?_
  simp only [go_sem]
  repeat first | (with_reducible refine side_d ?_ ?_; exact byD) | (with_reducible refine side_q ?_ ?_; exact byQ)
  refine cx_sr ?_
  simp only [go_sem]
  repeat first | (with_reducible refine side_d ?_ ?_; exact byD) | (with_reducible refine side_q ?_ ?_; exact byQ)
  refine cx_seq ?_
  refine cx_sr ?_
  simp only [go_sem]
  repeat first | (with_reducible refine side_d ?_ ?_; exact byD) | (with_reducible refine side_q ?_ ?_; exact byQ)
  intro t27 e27
  repeat first | (with_reducible refine side_d ?_ ?_; exact byD) | (with_reducible refine side_q ?_ ?_; exact byQ)
  subst e27
  refine cx_meet0 (σ := List Grant × Int) (fun m => m = giveG l f b w r) (fun m => [⟨14, 0, [], gsV m.1⟩, ⟨13, 0, [], .int .i64 m.2⟩]) [10, 11, 12] (Nat.zero_le _) ?_ (fun m hIM1 => ?_)
  ·
    refine cx_if _ rfl (fun h27 => ?_) (fun h27 => ?_)
    ·
      (try simp only [go_sem] at h27)
      have hg := checkG_iff.1 h27
      have hgo := giveG_of (f := f) (b := b) (w := w) (r := r) h27
      refine cx_region ?_
      simp only [go_sem]
      repeat first | (with_reducible refine side_d ?_ ?_; exact byD) | (with_reducible refine side_q ?_ ?_; exact byQ)
      refine cw_m (RGive_c l hl hg.len hg.rise f b w hf hb hw r) byW byT ?_
      simp only [go_sem]
      repeat first | (with_reducible refine side_d ?_ ?_; exact byD) | (with_reducible refine side_q ?_ ?_; exact byQ)
      refine mt_next (giveO l f b w r) hgo.symm byC
    ·
      (try simp only [go_sem] at h27)
      refine cx_skip ?_
      (try simp only [go_sem])
      refine mt_next ([], checkG l) (by rw [giveG, if_pos h27]) byC
  simp only [go_sem]
  refine cx_sr ?_
  simp only [go_sem]
  repeat first | (with_reducible refine side_d ?_ ?_; exact byD) | (with_reducible refine side_q ?_ ?_; exact byQ)
  refine cw_m (grantBegun_c) byW byT ?_
  simp only [go_sem]
  repeat first | (with_reducible refine side_d ?_ ?_; exact byD) | (with_reducible refine side_q ?_ ?_; exact byQ)
  refine ⟨_, fun hp => cw_m (grantsAre_c (giveG l f b w r).1 (by omega) (giveG l f b w r).2 m.2 m.1 (by rw [hIM1]; omega)) byW byT ⟨rfl, rfl⟩, ?_⟩
  simp only [go_sem]
  repeat first | (with_reducible refine side_d ?_ ?_; exact byD) | (with_reducible refine side_q ?_ ?_; exact byQ)
  intro t44 e44
  rw [bsel_and] at e44
  repeat first | (with_reducible refine side_d ?_ ?_; exact byD) | (with_reducible refine side_q ?_ ?_; exact byQ)
  subst e44
  refine cx_ret ?_
  simp only [go_sem]
  refine finw_bool ?_
  rw [hIM1]
  by_cases h0 : (giveG l f b w r).2 = 0
  · simp [h0, sameL]
  · simp [h0, sameL, giveG_nil h0]
theorem GrantMakes_c (l : List Grant) (hl : okG l) (f w : Str) (hf : f.length < 4611686018427387904) (hw : w.length < 4611686018427387904) :
    Meets Try.prog 11 [gsV l, .str f, .str w] (.bool true) [] := by
  refine meets_x (fn := Try.f11) Try.func11 rfl fb11 (by kernel_rfl) (Nat.le_of_ble_eq_true rfl) ?_
  have hln := hl.1
  have hgl := makeG_len (l := l) (f := f) (w := w)
  refine cx_sr ?_
  simp only [go_sem]
  repeat first | (with_reducible refine side_d ?_ ?_; exact byD) | (with_reducible refine side_q ?_ ?_; exact byQ)
  refine cx_sr ?_
  simp only [go_sem]
  repeat first | (with_reducible refine side_d ?_ ?_; exact byD) | (with_reducible refine side_q ?_ ?_; exact byQ)
  refine cw_m (Make_c l hl f w hf hw) byW byT ?_
  simp only [go_sem]
  repeat first | (with_reducible refine side_d ?_ ?_; exact byD) | (with_reducible refine side_q ?_ ?_; exact byQ)
  refine cx_sr ?_
  simp only [go_sem]
  repeat first | (with_reducible refine side_d ?_ ?_; exact byD) | (with_reducible refine side_q ?_ ?_; exact byQ)
  refine cw_m (RCheckGrants_c l hl) byW byT ?_
  simp only [go_sem]
  repeat first | (with_reducible refine side_d ?_ ?_; exact byD) | (with_reducible refine side_q ?_ ?_; exact byQ)
  refine cx_sr ?_
  simp only [go_sem]
  repeat first | (with_reducible refine side_d ?_ ?_; exact byD) | (with_reducible refine side_q ?_ ?_; exact byQ)
  refine cx_seq ?_
  refine cx_sr ?_
  simp only [go_sem]
  repeat first | (with_reducible refine side_d ?_ ?_; exact byD) | (with_reducible refine side_q ?_ ?_; exact byQ)
  intro t21 e21
  repeat first | (with_reducible refine side_d ?_ ?_; exact byD) | (with_reducible refine side_q ?_ ?_; exact byQ)
  subst e21
  refine cx_meet0 (σ := List Grant × Int) (fun m => m = makeG l f w) (fun m => [⟨10, 0, [], gsV m.1⟩, ⟨9, 0, [], .int .i64 m.2⟩]) [6, 7, 8] (Nat.zero_le _) ?_ (fun m hIM1 => ?_)
  ·
    refine cx_if _ rfl (fun h21 => ?_) (fun h21 => ?_)
    ·
      (try simp only [go_sem] at h21)
      have hg := checkG_iff.1 h21
      have hgo := makeG_of (f := f) (w := w) h21
      refine cx_region ?_
      simp only [go_sem]
      repeat first | (with_reducible refine side_d ?_ ?_; exact byD) | (with_reducible refine side_q ?_ ?_; exact byQ)
      refine cw_m (RMake_c l hl hg.len hg.rise f w hf hw) byW byT ?_
      simp only [go_sem]
      repeat first | (with_reducible refine side_d ?_ ?_; exact byD) | (with_reducible refine side_q ?_ ?_; exact byQ)
      refine mt_next (makeO l f w) hgo.symm byC
    ·
      (try simp only [go_sem] at h21)
      refine cx_skip ?_
      (try simp only [go_sem])
      refine mt_next ([], checkG l) (by rw [makeG, if_pos h21]) byC
  simp only [go_sem]
  refine cx_sr ?_
  simp only [go_sem]
  repeat first | (with_reducible refine side_d ?_ ?_; exact byD) | (with_reducible refine side_q ?_ ?_; exact byQ)
  refine cw_m (grantBegun_c) byW byT ?_
  simp only [go_sem]
  repeat first | (with_reducible refine side_d ?_ ?_; exact byD) | (with_reducible refine side_q ?_ ?_; exact byQ)
  refine ⟨_, fun hp => cw_m (grantsAre_c (makeG l f w).1 (by omega) (makeG l f w).2 m.2 m.1 (by rw [hIM1]; omega)) byW byT ⟨rfl, rfl⟩, ?_⟩
  simp only [go_sem]
  repeat first | (with_reducible refine side_d ?_ ?_; exact byD) | (with_reducible refine side_q ?_ ?_; exact byQ)
  intro t36 e36
  rw [bsel_and] at e36
  repeat first | (with_reducible refine side_d ?_ ?_; exact byD) | (with_reducible refine side_q ?_ ?_; exact byQ)
  subst e36
  refine cx_ret ?_
  simp only [go_sem]
  refine finw_bool ?_
  rw [hIM1]
  by_cases h0 : (makeG l f w).2 = 0
  · simp [h0, sameL]
  · simp [h0, sameL, makeG_nil h0]
end Go.VM.Try
end
section
set_option linter.unusedVariables false
set_option linter.unusedSimpArgs false
open Go Go.VM Go.Proofs Tether
namespace Go.VM.Try
set_option maxRecDepth 100000
set_option maxHeartbeats 1000000
theorem GrantRights_c (l : List Grant) (hl : okG l) (f w : Str) (hf : f.length < 4611686018427387904) (hw : w.length < 4611686018427387904) :
    Meets Try.prog 13 [gsV l, .str f, .str w] (.bool true) [] := by
  refine meets_x (fn := Try.f13) Try.func13 rfl fb13 (by kernel_rfl) (Nat.le_of_ble_eq_true rfl) ?_
  have hln := hl.1
  have hwl := whoG_len l f
  refine cx_sr ?_
  simp only [go_sem]
  repeat first | (with_reducible refine side_d ?_ ?_; exact byD) | (with_reducible refine side_q ?_ ?_; exact byQ)
  refine cx_sr ?_
  simp only [go_sem]
  repeat first | (with_reducible refine side_d ?_ ?_; exact byD) | (with_reducible refine side_q ?_ ?_; exact byQ)
  refine cw_m (Right_c l hl f w hf hw) byW byT ?_
  simp only [go_sem]
  repeat first | (with_reducible refine side_d ?_ ?_; exact byD) | (with_reducible refine side_q ?_ ?_; exact byQ)
  refine cx_sr ?_
  simp only [go_sem]
  repeat first | (with_reducible refine side_d ?_ ?_; exact byD) | (with_reducible refine side_q ?_ ?_; exact byQ)
  refine cw_m (Who_c l hl f hf) byW byT ?_
  simp only [go_sem]
  repeat first | (with_reducible refine side_d ?_ ?_; exact byD) | (with_reducible refine side_q ?_ ?_; exact byQ)
  refine cx_sr ?_
  simp only [go_sem]
  repeat first | (with_reducible refine side_d ?_ ?_; exact byD) | (with_reducible refine side_q ?_ ?_; exact byQ)
  refine cw_m (RCheckGrants_c l hl) byW byT ?_
  simp only [go_sem]
  repeat first | (with_reducible refine side_d ?_ ?_; exact byD) | (with_reducible refine side_q ?_ ?_; exact byQ)
  refine cx_sr ?_
  simp only [go_sem]
  repeat first | (with_reducible refine side_d ?_ ?_; exact byD) | (with_reducible refine side_q ?_ ?_; exact byQ)
  refine cx_seq ?_
  refine cx_sr ?_
  simp only [go_sem]
  repeat first | (with_reducible refine side_d ?_ ?_; exact byD) | (with_reducible refine side_q ?_ ?_; exact byQ)
  intro t32 e32
  repeat first | (with_reducible refine side_d ?_ ?_; exact byD) | (with_reducible refine side_q ?_ ?_; exact byQ)
  refine ⟨_, fun hp => cw_m (RIsName_c f hf) byW byT ⟨rfl, rfl⟩, ?_⟩
  simp only [go_sem]
  repeat first | (with_reducible refine side_d ?_ ?_; exact byD) | (with_reducible refine side_q ?_ ?_; exact byQ)
  intro t36 e36
  repeat first | (with_reducible refine side_d ?_ ?_; exact byD) | (with_reducible refine side_q ?_ ?_; exact byQ)
  intro t37 e37
  rw [bsel_and] at e37
  repeat first | (with_reducible refine side_d ?_ ?_; exact byD) | (with_reducible refine side_q ?_ ?_; exact byQ)
  subst e32 e36 e37
  refine cx_meet0 (σ := Int) (fun v => v = (whoE l f).2) (fun v => [⟨11, 0, [], .int .i64 v⟩]) [0, 1, 2, 6, 7, 8, 9, 10, 12, 13] (Nat.zero_le _) ?_ (fun v hIM1 => ?_)
  ·
    refine cx_if _ rfl (fun h37 => ?_) (fun h37 => ?_)
    ·
      (try simp only [go_sem] at h37)
      refine cx_region ?_
      simp only [go_sem]
      repeat first | (with_reducible refine side_d ?_ ?_; exact byD) | (with_reducible refine side_q ?_ ?_; exact byQ)
      refine mt_next 1 (by grind [whoE]) byC
    ·
      (try simp only [go_sem] at h37)
      refine cx_skip ?_
      (try simp only [go_sem])
      refine mt_next (checkG l) (by grind [whoE]) byC
  simp only [go_sem]
  refine cx_seq ?_
  refine cx_sr ?_
  simp only [go_sem]
  repeat first | (with_reducible refine side_d ?_ ?_; exact byD) | (with_reducible refine side_q ?_ ?_; exact byQ)
  intro t39 e39
  repeat first | (with_reducible refine side_d ?_ ?_; exact byD) | (with_reducible refine side_q ?_ ?_; exact byQ)
  refine ⟨_, fun hp => cw_m (RIsName_c f hf) byW byT ⟨rfl, rfl⟩, ?_⟩
  simp only [go_sem]
  repeat first | (with_reducible refine side_d ?_ ?_; exact byD) | (with_reducible refine side_q ?_ ?_; exact byQ)
  intro t43 e43
  repeat first | (with_reducible refine side_d ?_ ?_; exact byD) | (with_reducible refine side_q ?_ ?_; exact byQ)
  refine ⟨_, fun hp => cw_m (RIsName_c w hw) byW byT ⟨rfl, rfl⟩, ?_⟩
  simp only [go_sem]
  repeat first | (with_reducible refine side_d ?_ ?_; exact byD) | (with_reducible refine side_q ?_ ?_; exact byQ)
  intro t47 e47
  repeat first | (with_reducible refine side_d ?_ ?_; exact byD) | (with_reducible refine side_q ?_ ?_; exact byQ)
  intro t48 e48
  rw [bsel_or] at e48
  repeat first | (with_reducible refine side_d ?_ ?_; exact byD) | (with_reducible refine side_q ?_ ?_; exact byQ)
  intro t49 e49
  rw [bsel_and] at e49
  repeat first | (with_reducible refine side_d ?_ ?_; exact byD) | (with_reducible refine side_q ?_ ?_; exact byQ)
  subst e39 e43 e47 e48 e49
  refine cx_meet0 (σ := Int) (fun v2 => v2 = (rightE l f w).2) (fun v2 => [⟨13, 0, [], .int .i64 v2⟩]) [0, 1, 2, 6, 7, 8, 9, 10, 11, 12] (Nat.zero_le _) ?_ (fun v2 hIM2 => ?_)
  ·
    refine cx_if _ rfl (fun h49 => ?_) (fun h49 => ?_)
    ·
      (try simp only [go_sem] at h49)
      refine cx_region ?_
      simp only [go_sem]
      repeat first | (with_reducible refine side_d ?_ ?_; exact byD) | (with_reducible refine side_q ?_ ?_; exact byQ)
      refine mt_next 1 (by grind [rightE]) byC
    ·
      (try simp only [go_sem] at h49)
      refine cx_skip ?_
      (try simp only [go_sem])
      refine mt_next (checkG l) (by grind [rightE]) byC
  simp only [go_sem]
  refine cx_seq ?_
  refine cx_sr ?_
  simp only [go_sem]
  repeat first | (with_reducible refine side_d ?_ ?_; exact byD) | (with_reducible refine side_q ?_ ?_; exact byQ)
  intro t51 e51
  repeat first | (with_reducible refine side_d ?_ ?_; exact byD) | (with_reducible refine side_q ?_ ?_; exact byQ)
  subst e51
  refine cx_meet0 (σ := Int) (fun n => n = (rightE l f w).1) (fun n => [⟨12, 0, [], .int .i64 n⟩]) [0, 1, 6, 7, 8, 9, 10, 11, 13] (Nat.zero_le _) ?_ (fun n hIM3 => ?_)
  ·
    refine cx_if _ rfl (fun h51 => ?_) (fun h51 => ?_)
    ·
      (try simp only [go_sem] at h51)
      have hg : checkG l = 0 := by grind [rightE]
      refine cx_region ?_
      simp only [go_sem]
      repeat first | (with_reducible refine side_d ?_ ?_; exact byD) | (with_reducible refine side_q ?_ ?_; exact byQ)
      refine cw_m (RRightOf_c l hl.len f w) byW byT ?_
      simp only [go_sem]
      repeat first | (with_reducible refine side_d ?_ ?_; exact byD) | (with_reducible refine side_q ?_ ?_; exact byQ)
      refine mt_next (rightG l f w) (by grind [rightE]) byC
    ·
      (try simp only [go_sem] at h51)
      refine cx_skip ?_
      (try simp only [go_sem])
      refine mt_next 0 (by grind [rightE]) byC
  simp only [go_sem]
  refine cx_sr ?_
  simp only [go_sem]
  repeat first | (with_reducible refine side_d ?_ ?_; exact byD) | (with_reducible refine side_q ?_ ?_; exact byQ)
  refine cx_seq ?_
  refine cx_sr ?_
  simp only [go_sem]
  repeat first | (with_reducible refine side_d ?_ ?_; exact byD) | (with_reducible refine side_q ?_ ?_; exact byQ)
  intro t57 e57
  repeat first | (with_reducible refine side_d ?_ ?_; exact byD) | (with_reducible refine side_q ?_ ?_; exact byQ)
  subst e57
  refine cx_meet0 (σ := List Str) (fun a => a = (whoE l f).1) (fun a => [⟨14, 0, [], strsV a⟩]) [6, 7, 8, 9, 10, 11, 12, 13] (Nat.zero_le _) ?_ (fun a hIM4 => ?_)
  ·
    refine cx_if _ rfl (fun h57 => ?_) (fun h57 => ?_)
    ·
      (try simp only [go_sem] at h57)
      have hg : checkG l = 0 := by grind [whoE]
      have h60 := (checkG_iff.1 hg).len
      refine cx_region ?_
      simp only [go_sem]
      repeat first | (with_reducible refine side_d ?_ ?_; exact byD) | (with_reducible refine side_q ?_ ?_; exact byQ)
      refine cw_m (RWhoOf_c l hl.len (by omega) f) byW byT ?_
      simp only [go_sem]
      repeat first | (with_reducible refine side_d ?_ ?_; exact byD) | (with_reducible refine side_q ?_ ?_; exact byQ)
      refine mt_next (whoG l f) (by grind [whoE]) byC
    ·
      (try simp only [go_sem] at h57)
      refine cx_skip ?_
      (try simp only [go_sem])
      refine mt_next [] (by grind [whoE]) byC
  simp only [go_sem]
  refine cx_sr ?_
  simp only [go_sem]
  repeat first | (with_reducible refine side_d ?_ ?_; exact byD) | (with_reducible refine side_q ?_ ?_; exact byQ)
  refine cw_m (grantBegun_c) byW byT ?_
  simp only [go_sem]
  repeat first | (with_reducible refine side_d ?_ ?_; exact byD) | (with_reducible refine side_q ?_ ?_; exact byQ)
  intro t65 e65
  repeat first | (with_reducible refine side_d ?_ ?_; exact byD) | (with_reducible refine side_q ?_ ?_; exact byQ)
  intro t66 e66
  rw [bsel_and] at e66
  repeat first | (with_reducible refine side_d ?_ ?_; exact byD) | (with_reducible refine side_q ?_ ?_; exact byQ)
  intro t70 e70
  repeat first | (with_reducible refine side_d ?_ ?_; exact byD) | (with_reducible refine side_q ?_ ?_; exact byQ)
  intro t71 e71
  rw [bsel_and] at e71
  repeat first | (with_reducible refine side_d ?_ ?_; exact byD) | (with_reducible refine side_q ?_ ?_; exact byQ)
  intro t75 e75
  repeat first | (with_reducible refine side_d ?_ ?_; exact byD) | (with_reducible refine side_q ?_ ?_; exact byQ)
  intro t76 e76
  rw [bsel_and] at e76
  repeat first | (with_reducible refine side_d ?_ ?_; exact byD) | (with_reducible refine side_q ?_ ?_; exact byQ)
  have hwe : (whoE l f).1.length ≤ l.length := by
    unfold whoE
    split
    · simp
    · split
      · simp
      · exact hwl
  refine ⟨_, fun hp => cw_m (SameTexts_c (whoE l f).1 a (by omega) (by rw [hIM4]; omega)) byW byT ⟨rfl, rfl⟩, ?_⟩
  simp only [go_sem]
  repeat first | (with_reducible refine side_d ?_ ?_; exact byD) | (with_reducible refine side_q ?_ ?_; exact byQ)
  intro t81 e81
  rw [bsel_and] at e81
  repeat first | (with_reducible refine side_d ?_ ?_; exact byD) | (with_reducible refine side_q ?_ ?_; exact byQ)
  subst e65 e66 e70 e71 e75 e76 e81
  refine cx_ret ?_
  simp only [go_sem]
  refine finw_bool ?_
  rw [hIM1, hIM2, hIM3, hIM4]
  simp [sameL]
end Go.VM.Try
end
section
set_option linter.unusedVariables false
set_option linter.unusedSimpArgs false
open Go Go.VM
namespace Tether
section
variable {l : List Grant} {f w : Str} {r : Int}
theorem take_ahead {g : Grant} (hg : g ∈ l.take (gIx l f w)) : ahead g ⟨f, w, 0⟩ := by
  obtain ⟨j, hj, rfl⟩ := List.getElem_of_mem hg
  have hj2 : j < gIx l f w := by simp at hj; omega
  have := order_lt.1 (gIx_lt hj2)
  have hle := gIx_le l f w
  have hjl : j < l.length := by omega
  simpa [List.getD, hjl] using this
/-- what stands behind the place -/
theorem drop_behind (hs : SortedG l) {g : Grant} (hg : g ∈ l.drop (if hasG l f w = true then gIx l f w + 1 else gIx l f w)) : ahead ⟨f, w, 0⟩ g := by
  by_cases hh : hasG l f w = true
  · rw [if_pos hh] at hg
    have h1 : gIx l f w < l.length ∧ order (l.getD (gIx l f w) default) ⟨f, w, 0⟩ = 0 := by simpa [hasG] using hh
    obtain ⟨hk, h0⟩ := h1
    obtain ⟨j, hj, rfl⟩ := List.getElem_of_mem hg
    rw [List.getElem_drop]
    have hj2 : gIx l f w + 1 + j < l.length := by simp at hj; omega
    have h3 : ahead l[gIx l f w] l[gIx l f w + 1 + j] := List.pairwise_iff_getElem.1 hs _ _ hk hj2 (by omega)
    have e2 : l.getD (gIx l f w) default = l[gIx l f w] := by simp [List.getD, hk]
    rw [e2] at h0
    have hsm := order_eq.1 h0
    unfold ahead at h3 ⊢
    unfold sameG at hsm
    rw [← hsm.1, ← hsm.2]; exact h3
  · rw [if_neg hh] at hg
    obtain ⟨j, hj, rfl⟩ := List.getElem_of_mem hg
    rw [List.getElem_drop]
    have hj2 : gIx l f w + j < l.length := by simp at hj; omega
    have h3 := gIx_ge hs (f := f) (w := w) (j := gIx l f w + j) (by omega) hj2
    have e2 : l.getD (gIx l f w + j) default = l[gIx l f w + j] := by simp [List.getD, hj2]
    rw [e2] at h3
    rcases ahead_tri l[gIx l f w + j] ⟨f, w, 0⟩ with h | h | h
    · have := order_lt.2 h; omega
    · exfalso
      have hk : gIx l f w < l.length := by omega
      have h4 := gIx_ge hs (Nat.le_refl _) hk (f := f) (w := w)
      have e3 : l.getD (gIx l f w) default = l[gIx l f w] := by simp [List.getD, hk]
      rcases Nat.eq_zero_or_pos j with rfl | hpos
      · have h0 := order_eq.2 h
        apply hh
        unfold hasG
        rw [decide_eq_true hk, e3]
        simpa using h0
      · have h5 : ahead l[gIx l f w] l[gIx l f w + j] := List.pairwise_iff_getElem.1 hs _ _ hk hj2 (by omega)
        have h6 := order_lt.2 (ahead_same h5 h)
        rw [e3] at h4
        omega
    · exact h
theorem putG_sorted (hs : SortedG l) : SortedG (putG l f w r) := by
  unfold putG SortedG
  have h1 : (l.take (gIx l f w)).Pairwise ahead := List.Pairwise.sublist (List.take_sublist _ _) hs
  have h2 : (l.drop (if hasG l f w = true then gIx l f w + 1 else gIx l f w)).Pairwise ahead := List.Pairwise.sublist (List.drop_sublist _ _) hs
  have hab : ∀ a ∈ l.take (gIx l f w), ∀ b ∈ l.drop (if hasG l f w = true then gIx l f w + 1 else gIx l f w), ahead a b := fun a ha b hb => ahead_trans (take_ahead ha) (drop_behind hs hb)
  by_cases h0 : r = 0
  · rw [if_pos h0, List.append_nil]
    exact List.pairwise_append.2 ⟨h1, h2, hab⟩
  · rw [if_neg h0, List.append_assoc]
    refine List.pairwise_append.2 ⟨h1, ?_, ?_⟩
    · rw [List.singleton_append]
      exact List.pairwise_cons.2 ⟨fun b hb => drop_behind hs hb, h2⟩
    · intro a ha b hb
      rw [List.singleton_append] at hb
      rcases List.mem_cons.1 hb with rfl | hb
      · exact take_ahead ha
      · exact hab a ha b hb
theorem not_same_ahead {a b : Grant} (h : ahead a b) : ¬ sameG a b := fun h2 => by
  unfold ahead at h; unfold sameG at h2
  rw [h2.1, h2.2] at h
  rcases h with h | ⟨_, h⟩ <;> exact List.lt_irrefl _ h
theorem putG_mem (hs : SortedG l) {x : Grant} : x ∈ putG l f w r ↔ (¬ r = 0 ∧ x = ⟨f, w, r⟩) ∨ (x ∈ l ∧ ¬ sameG x ⟨f, w, 0⟩) := by
  have hmid : x ∈ (if r = 0 then [] else [(⟨f, w, r⟩ : Grant)]) ↔ ¬ r = 0 ∧ x = ⟨f, w, r⟩ := by
    by_cases h0 : r = 0 <;> simp [h0]
  unfold putG
  rw [List.mem_append, List.mem_append, hmid]
  constructor
  · rintro ((h | h) | h)
    · exact .inr ⟨List.mem_of_mem_take h, not_same_ahead (take_ahead h)⟩
    · exact .inl h
    · refine .inr ⟨List.mem_of_mem_drop h, fun h2 => ?_⟩
      exact ahead_irrefl _ (ahead_same (drop_behind hs h) h2)
  · rintro (h | ⟨h, hn⟩)
    · exact .inl (.inr h)
    · by_cases hh : hasG l f w = true
      · rw [if_pos hh]
        have h1 : gIx l f w < l.length ∧ order (l.getD (gIx l f w) default) ⟨f, w, 0⟩ = 0 := by simpa [hasG] using hh
        rw [split_at h1.1] at h
        rcases List.mem_append.1 h with h | h
        · exact .inl (.inl h)
        · rcases List.mem_cons.1 h with rfl | h
          · exact absurd (order_eq.1 h1.2) hn
          · exact .inr h
      · rw [if_neg hh]
        rw [← List.take_append_drop (gIx l f w) l] at h
        rcases List.mem_append.1 h with h | h
        · exact .inl (.inl h)
        · exact .inr h
/-- a grant's right -/
theorem rightG_of (hs : SortedG l) {g : Grant} (hg : g ∈ l) (hi : isG f w g = true) : rightG l f w = g.right := by
  unfold rightG
  cases hf : l.find? (isG f w) with
  | none => rw [List.find?_eq_none] at hf; exact absurd hi (hf g hg)
  | some x =>
    have hx := List.mem_of_find?_eq_some hf
    have hxi := List.find?_some hf
    have : x = g := by
      obtain ⟨i, h1, rfl⟩ := List.getElem_of_mem hx
      obtain ⟨j, h2, rfl⟩ := List.getElem_of_mem hg
      have hsm : sameG l[i] l[j] := by
        simp only [isG, Bool.and_eq_true, decide_eq_true_eq] at hi hxi
        exact ⟨hxi.1.trans hi.1.symm, hxi.2.trans hi.2.symm⟩
      rcases Nat.lt_trichotomy i j with h | h | h
      · exact absurd hsm (not_same_ahead (List.pairwise_iff_getElem.1 hs _ _ h1 h2 h))
      · subst h; rfl
      · exact absurd ⟨hsm.1.symm, hsm.2.symm⟩ (not_same_ahead (List.pairwise_iff_getElem.1 hs _ _ h2 h1 h))
    rw [this]
theorem rightG_none (h : ∀ g ∈ l, ¬ isG f w g = true) : rightG l f w = 0 := by
  unfold rightG
  rw [List.find?_eq_none.2 h]
theorem putG_right (hs : SortedG l) : rightG (putG l f w r) f w = r := by
  by_cases h0 : r = 0
  · rw [rightG_none, h0]
    intro g hg hi
    rcases (putG_mem hs).1 hg with ⟨h, _⟩ | ⟨_, h⟩
    · exact h h0
    · simp only [isG, Bool.and_eq_true, decide_eq_true_eq] at hi
      exact h hi
  · exact rightG_of (putG_sorted hs) (g := ⟨f, w, r⟩) ((putG_mem hs).2 (.inl ⟨h0, rfl⟩)) (by simp [isG])
theorem putG_other (hs : SortedG l) {f' w' : Str} (hne : ¬ (f' = f ∧ w' = w)) : rightG (putG l f w r) f' w' = rightG l f' w' := by
  by_cases h : ∃ g ∈ l, isG f' w' g = true
  · obtain ⟨g, hg, hi⟩ := h
    rw [rightG_of hs hg hi]
    refine rightG_of (putG_sorted hs) ((putG_mem hs).2 (.inr ⟨hg, fun h2 => hne ?_⟩)) hi
    simp only [isG, Bool.and_eq_true, decide_eq_true_eq] at hi
    exact ⟨hi.1.symm.trans h2.1, hi.2.symm.trans h2.2⟩
  · have hn : ∀ g ∈ l, ¬ isG f' w' g = true := fun g hg hi => h ⟨g, hg, hi⟩
    rw [rightG_none hn, rightG_none]
    intro g hg hi
    rcases (putG_mem hs).1 hg with ⟨_, rfl⟩ | ⟨h1, _⟩
    · simp only [isG, Bool.and_eq_true, decide_eq_true_eq] at hi
      exact hne ⟨hi.1.symm, hi.2.symm⟩
    · exact hn g h1 hi
structure Given (l : List Grant) (f b w : Str) (r : Int) : Prop where
  names : (isName f && isName b && isName w) = true
  range : 0 ≤ r ∧ r ≤ 3
  may : rightG l f b = 3 ∨ b = w ∧ r = 0
  own : ((putG l f w r).any fun g => decide (g.folder = f) && decide (g.right = 3)) = true
  len : (putG l f w r).length ≤ 60
theorem giveErr_0 {b : Str} (h : giveErr l f b w r = 0) : Given l f b w r := by
  unfold giveErr at h
  constructor <;> grind
theorem put_good (hg : GoodG l) {b : Str} (h : Given l f b w r) : GoodG (putG l f w r) := by
  refine ⟨h.len, fun g hx => ?_, putG_sorted hg.rise, ?_⟩
  · rcases (putG_mem hg.rise).1 hx with ⟨h0, rfl⟩ | ⟨h1, _⟩
    · have hn := h.names
      have hr := h.range
      simp only [Bool.and_eq_true] at hn
      unfold gErr
      rw [if_neg (by simp [hn.1.1, hn.2]), if_neg (by dsimp only; omega)]
    · exact hg.each g h1
  · unfold ownedG
    rw [List.all_eq_true]
    intro g hx
    by_cases hf : g.folder = f
    · rw [hf]; exact h.own
    · rcases (putG_mem hg.rise).1 hx with ⟨h0, rfl⟩ | ⟨h1, _⟩
      · exact absurd rfl hf
      · have := hg.own
        unfold ownedG at this
        rw [List.all_eq_true] at this
        obtain ⟨x, h2, h3⟩ := List.any_eq_true.1 (this g h1)
        simp only [Bool.and_eq_true, decide_eq_true_eq] at h3
        refine List.any_eq_true.2 ⟨x, (putG_mem hg.rise).2 (.inr ⟨h2, fun h4 => hf ?_⟩), by simp [h3]⟩
        rw [← h3.1]; exact h4.1
end
end Tether
namespace Tether
theorem isName_le {s : Str} (h : isName s = true) : s.length ≤ 20 := by
  unfold isName at h
  simp only [Bool.and_eq_true, Bool.not_eq_true', Bool.or_eq_false_iff, decide_eq_false_iff_not] at h
  have := h.1.1.1.1.2
  omega
theorem gErr_0 {g : Grant} (h : gErr g = 0) : isName g.folder = true ∧ isName g.who = true ∧ 1 ≤ g.right ∧ g.right ≤ 3 := by
  unfold gErr at h; grind
theorem GoodG.ok {l : List Grant} (h : GoodG l) : okG l := by
  have := h.len
  refine ⟨by omega, fun g hg => ?_⟩
  obtain ⟨h1, h2, _⟩ := gErr_0 (h.each g hg)
  have := isName_le h1
  have := isName_le h2
  omega
end Tether
end
section
set_option linter.unusedVariables false
set_option linter.unusedSimpArgs false
open Go Go.VM Go.Proofs Tether
namespace Go.VM.Try
set_option maxRecDepth 100000
set_option maxHeartbeats 1000000
theorem giveG_put {l : List Grant} {f b w : Str} {r : Int} (h : (giveG l f b w r).2 = 0) : checkG l = 0 ∧ giveErr l f b w r = 0 ∧ giveG l f b w r = (putG l f w r, 0) := by
  unfold giveG at h ⊢; grind
theorem rightE_ok {l : List Grant} {f w : Str} (h : checkG l = 0) (hf : isName f = true) (hw : isName w = true) : rightE l f w = (rightG l f w, 0) := by
  unfold rightE; simp [h, hf, hw]
theorem rightE_at {l : List Grant} (h : checkG l = 0) (f w : Str) : rightE l f w = if (isName f && isName w) = false then (0, 1) else (rightG l f w, 0) := by
  unfold rightE; rw [if_neg (by simp [h])]
theorem GrantApart_c (l : List Grant) (hl : okG l) (f b w : Str) (hf : f.length < 4611686018427387904) (hb : b.length < 4611686018427387904) (hw : w.length < 4611686018427387904) (r : Int) (o : Grant) (ho1 : o.folder.length < 4611686018427387904) (ho2 : o.who.length < 4611686018427387904) :
    Meets Try.prog 12 [gsV l, .str f, .str b, .str w, .int .i64 r, .agg o.enc] (.bool true) [] := by
  refine meets_x (fn := Try.f12) Try.func12 rfl fb12 (by kernel_rfl) (Nat.le_of_ble_eq_true rfl) ?_
  refine cx_sr ?_
  simp only [go_sem]
  repeat first | (with_reducible refine side_d ?_ ?_; exact byD) | (with_reducible refine side_q ?_ ?_; exact byQ)
  refine cx_seq ?_
  refine cx_sr ?_
  simp only [go_sem]
  repeat first | (with_reducible refine side_d ?_ ?_; exact byD) | (with_reducible refine side_q ?_ ?_; exact byQ)
  refine cw_m (grantBegun_c) byW byT ?_
  simp only [go_sem]
  repeat first | (with_reducible refine side_d ?_ ?_; exact byD) | (with_reducible refine side_q ?_ ?_; exact byQ)
  intro t21 e21
  repeat first | (with_reducible refine side_d ?_ ?_; exact byD) | (with_reducible refine side_q ?_ ?_; exact byQ)
  subst e21
  refine cx_if _ rfl (fun h21 => no_if h21) (fun h21 => ?_)
  refine cx_skip ?_
  (try simp only [go_sem])
  refine cx_sr ?_
  simp only [go_sem]
  repeat first | (with_reducible refine side_d ?_ ?_; exact byD) | (with_reducible refine side_q ?_ ?_; exact byQ)
  refine cw_m (Right_c l hl f b hf hb) byW byT ?_
  simp only [go_sem]
  repeat first | (with_reducible refine side_d ?_ ?_; exact byD) | (with_reducible refine side_q ?_ ?_; exact byQ)
  refine cx_sr ?_
  simp only [go_sem]
  repeat first | (with_reducible refine side_d ?_ ?_; exact byD) | (with_reducible refine side_q ?_ ?_; exact byQ)
  refine cw_m (Give_c l hl f b w hf hb hw r) byW byT ?_
  simp only [go_sem]
  repeat first | (with_reducible refine side_d ?_ ?_; exact byD) | (with_reducible refine side_q ?_ ?_; exact byQ)
  refine cx_seq ?_
  refine cx_sr ?_
  simp only [go_sem]
  repeat first | (with_reducible refine side_d ?_ ?_; exact byD) | (with_reducible refine side_q ?_ ?_; exact byQ)
  intro t39 e39
  repeat first | (with_reducible refine side_d ?_ ?_; exact byD) | (with_reducible refine side_q ?_ ?_; exact byQ)
  intro t42 e42
  repeat first | (with_reducible refine side_d ?_ ?_; exact byD) | (with_reducible refine side_q ?_ ?_; exact byQ)
  intro t43 e43
  rw [bsel_or] at e43
  repeat first | (with_reducible refine side_d ?_ ?_; exact byD) | (with_reducible refine side_q ?_ ?_; exact byQ)
  subst e39 e42 e43
  refine cx_if _ rfl (fun h43 => ?_) (fun h43 => ?_)
  ·
    (try simp only [go_sem] at h43)
    refine cx_sr ?_
    simp only [go_sem]
    repeat first | (with_reducible refine side_d ?_ ?_; exact byD) | (with_reducible refine side_q ?_ ?_; exact byQ)
    intro t45 e45
    repeat first | (with_reducible refine side_d ?_ ?_; exact byD) | (with_reducible refine side_q ?_ ?_; exact byQ)
    subst e45
    refine cx_ret ?_
    simp only [go_sem]
    refine finw_bool ?_
    have : ¬ (giveG l f b w r).2 = 0 := fun h0 => by
      obtain ⟨hc, hge, _⟩ := giveG_put h0
      have hn := (giveErr_0 hge).names
      simp only [Bool.and_eq_true] at hn
      rw [rightE_ok hc hn.1.1 hn.1.2] at h43
      rcases h43 with h | h
      · exact h rfl
      · exact h h0
    simp [this]
  ·
    (try simp only [go_sem] at h43)
    obtain ⟨hc, hge, hgp⟩ := giveG_put h43.2
    have hg := checkG_iff.1 hc
    have hG := giveErr_0 hge
    have hm := put_good hg hG
    have hmc := checkG_iff.2 hm
    have hmo := hm.ok
    have hn := hG.names
    simp only [Bool.and_eq_true] at hn
    have hC := checkG_c (putG l f w r) hmo
    rw [hmc] at hC
    have hR := Right_c (putG l f w r) hmo f w hf hw
    rw [rightE_ok hmc hn.1.1 hn.2, putG_right hg.rise] at hR
    have hL := Right_c l hl o.folder o.who ho1 ho2
    have hM := Right_c (putG l f w r) hmo o.folder o.who ho1 ho2
    have hrb := rightE_ok hc hn.1.1 hn.1.2
    have hlv : (giveG l f b w r).1 = putG l f w r := by rw [hgp]
    rw [hlv]
    refine cx_skip ?_
    (try simp only [go_sem])
    refine cx_seq ?_
    refine cx_sr ?_
    simp only [go_sem]
    repeat first | (with_reducible refine side_d ?_ ?_; exact byD) | (with_reducible refine side_q ?_ ?_; exact byQ)
    refine cw_m (hC) byW byT ?_
    simp only [go_sem]
    repeat first | (with_reducible refine side_d ?_ ?_; exact byD) | (with_reducible refine side_q ?_ ?_; exact byQ)
    intro t48 e48
    repeat first | (with_reducible refine side_d ?_ ?_; exact byD) | (with_reducible refine side_q ?_ ?_; exact byQ)
    intro t51 e51
    repeat first | (with_reducible refine side_d ?_ ?_; exact byD) | (with_reducible refine side_q ?_ ?_; exact byQ)
    intro t55 e55
    repeat first | (with_reducible refine side_d ?_ ?_; exact byD) | (with_reducible refine side_q ?_ ?_; exact byQ)
    intro t58 e58
    repeat first | (with_reducible refine side_d ?_ ?_; exact byD) | (with_reducible refine side_q ?_ ?_; exact byQ)
    intro t59 e59
    rw [bsel_or] at e59
    repeat first | (with_reducible refine side_d ?_ ?_; exact byD) | (with_reducible refine side_q ?_ ?_; exact byQ)
    intro t60 e60
    rw [bsel_and] at e60
    repeat first | (with_reducible refine side_d ?_ ?_; exact byD) | (with_reducible refine side_q ?_ ?_; exact byQ)
    intro t61 e61
    rw [bsel_or] at e61
    repeat first | (with_reducible refine side_d ?_ ?_; exact byD) | (with_reducible refine side_q ?_ ?_; exact byQ)
    subst e48 e51 e55 e58 e59 e60 e61
    refine cx_if _ rfl (fun h61 => ?_) (fun h61 => ?_)
    ·
      (try simp only [go_sem] at h61)
      refine cx_sr ?_
      simp only [go_sem]
      repeat first | (with_reducible refine side_d ?_ ?_; exact byD) | (with_reducible refine side_q ?_ ?_; exact byQ)
      refine cx_ret ?_
      simp only [go_sem]
      exfalso
      rw [hrb] at h61
      rcases h61 with h | h
      · exact h trivial
      · rcases hG.may with k | ⟨k1, k2⟩
        · exact h.1 k
        · rcases h.2 with q | q
          · exact q k1
          · exact q k2
    ·
      (try simp only [go_sem] at h61)
      refine cx_skip ?_
      (try simp only [go_sem])
      refine cx_sr ?_
      simp only [go_sem]
      repeat first | (with_reducible refine side_d ?_ ?_; exact byD) | (with_reducible refine side_q ?_ ?_; exact byQ)
      refine cw_m (hR) byW byT ?_
      simp only [go_sem]
      repeat first | (with_reducible refine side_d ?_ ?_; exact byD) | (with_reducible refine side_q ?_ ?_; exact byQ)
      refine cx_seq ?_
      refine cx_sr ?_
      simp only [go_sem]
      repeat first | (with_reducible refine side_d ?_ ?_; exact byD) | (with_reducible refine side_q ?_ ?_; exact byQ)
      intro t70 e70
      repeat first | (with_reducible refine side_d ?_ ?_; exact byD) | (with_reducible refine side_q ?_ ?_; exact byQ)
      intro t74 e74
      repeat first | (with_reducible refine side_d ?_ ?_; exact byD) | (with_reducible refine side_q ?_ ?_; exact byQ)
      intro t75 e75
      rw [bsel_or] at e75
      repeat first | (with_reducible refine side_d ?_ ?_; exact byD) | (with_reducible refine side_q ?_ ?_; exact byQ)
      subst e70 e74 e75
      refine cx_if _ rfl (fun h75 => ?_) (fun h75 => ?_)
      ·
        (try simp only [go_sem] at h75)
        refine cx_sr ?_
        simp only [go_sem]
        repeat first | (with_reducible refine side_d ?_ ?_; exact byD) | (with_reducible refine side_q ?_ ?_; exact byQ)
        refine cx_ret ?_
        simp only [go_sem]
        simp at h75
      ·
        (try simp only [go_sem] at h75)
        refine cx_skip ?_
        (try simp only [go_sem])
        refine cx_sr ?_
        simp only [go_sem]
        repeat first | (with_reducible refine side_d ?_ ?_; exact byD) | (with_reducible refine side_q ?_ ?_; exact byQ)
        refine cw_m (hL) byW byT ?_
        simp only [go_sem]
        repeat first | (with_reducible refine side_d ?_ ?_; exact byD) | (with_reducible refine side_q ?_ ?_; exact byQ)
        refine cx_sr ?_
        simp only [go_sem]
        repeat first | (with_reducible refine side_d ?_ ?_; exact byD) | (with_reducible refine side_q ?_ ?_; exact byQ)
        refine cw_m (hM) byW byT ?_
        simp only [go_sem]
        repeat first | (with_reducible refine side_d ?_ ?_; exact byD) | (with_reducible refine side_q ?_ ?_; exact byQ)
        refine cx_sr ?_
        simp only [go_sem]
        repeat first | (with_reducible refine side_d ?_ ?_; exact byD) | (with_reducible refine side_q ?_ ?_; exact byQ)
        intro t96 e96
        repeat first | (with_reducible refine side_d ?_ ?_; exact byD) | (with_reducible refine side_q ?_ ?_; exact byQ)
        intro t100 e100
        repeat first | (with_reducible refine side_d ?_ ?_; exact byD) | (with_reducible refine side_q ?_ ?_; exact byQ)
        intro t105 e105
        repeat first | (with_reducible refine side_d ?_ ?_; exact byD) | (with_reducible refine side_q ?_ ?_; exact byQ)
        intro t110 e110
        repeat first | (with_reducible refine side_d ?_ ?_; exact byD) | (with_reducible refine side_q ?_ ?_; exact byQ)
        intro t111 e111
        rw [bsel_and] at e111
        repeat first | (with_reducible refine side_d ?_ ?_; exact byD) | (with_reducible refine side_q ?_ ?_; exact byQ)
        intro t112 e112
        rw [bsel_or] at e112
        repeat first | (with_reducible refine side_d ?_ ?_; exact byD) | (with_reducible refine side_q ?_ ?_; exact byQ)
        intro t113 e113
        rw [bsel_and] at e113
        repeat first | (with_reducible refine side_d ?_ ?_; exact byD) | (with_reducible refine side_q ?_ ?_; exact byQ)
        subst e96 e100 e105 e110 e111 e112 e113
        refine cx_ret ?_
        simp only [go_sem]
        refine finw_bool ?_
        rw [rightE_at hc, rightE_at hmc]
        by_cases hnm : (isName o.folder && isName o.who) = false
        · simp [hnm]
        · rw [if_neg hnm, if_neg hnm]
          by_cases ho : o.folder = f ∧ o.who = w
          · simp [ho.1, ho.2]
          · rw [putG_other hg.rise ho]; simp
end Go.VM.Try
end
