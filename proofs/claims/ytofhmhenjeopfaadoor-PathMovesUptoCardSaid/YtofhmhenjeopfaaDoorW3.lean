import Derived.Test.YtofhmhenjeopfaaDoorW2
import Derived.Test.YtofhmhenjeopfaaDoorW1
section
set_option linter.unusedVariables false
set_option linter.unusedSimpArgs false
open Go Go.VM Go.Proofs Tether
namespace Go.VM.Tryd
set_option maxRecDepth 100000
theorem room_eq {p : Str} {n t49 t52 : Int} {v : Str × Str} (hv : v = (stemP (tailOf p), extP (tailOf p))) (hm : (markP n).length ≤ 5) (he : (extP (tailOf p)).length ≤ (tailOf p).length) (ht : (tailOf p).length < 1000000000000000000)
    (e49 : t49 = IntKind.i64.wrap (20 - (([32, 40] ++ itoaS n ++ [41]).length : Int))) (e52 : t52 = IntKind.i64.wrap (t49 - (v.2.length : Int))) : t52 = 20 - ((markP n).length : Int) - ((extP (tailOf p)).length : Int) := by
  subst hv
  have e : ([32, 40] ++ itoaS n ++ [41] : Str).length = (markP n).length := rfl
  rw [e] at e49
  have e49 := w64 e49 (by omega) (by omega)
  have e52 := w64 e52 (by dsimp only; omega) (by dsimp only; omega)
  rw [e52, e49]
theorem Aside_c (p : Str) (n : Int) (hp : p.length < 1000000000000000000) : Meets Tryd.prog 11 [.str p, .int .i64 n] (.tup [.str (asideP p n).1, .int .i64 (asideP p n).2]) [] := by
  refine meets_x (fn := Tryd.f11) Tryd.func11 rfl fb11 (by kernel_rfl) (Nat.le_of_ble_eq_true rfl) ?_
  have hlx := lixN_le (tailOf p) 46 (tailOf p).length
  have htl : (tailOf p).length ≤ p.length := by simp [tailOf]
  have hhl : (headOf p).length ≤ p.length := by simp [headOf]; omega
  have hsl : (stemP (tailOf p)).length ≤ (tailOf p).length := by unfold stemP; split <;> simp <;> omega
  have hel : (extP (tailOf p)).length ≤ (tailOf p).length := by unfold extP; split <;> simp
  have hil := itoaS_len n
  have hml : (markP n).length ≤ 5 := by simp [markP]; omega
  have hcl : ∀ r, (cutP (stemP (tailOf p)) r).length ≤ (stemP (tailOf p)).length := by intro r; unfold cutP trimS; split <;> simp <;> omega
  refine cx_sr ?_
  simp only [go_sem]
  repeat first | (with_reducible refine side_d ?_ ?_; exact byD) | (with_reducible refine side_q ?_ ?_; exact byQ)
  refine cx_seq ?_
  refine cx_sr ?_
  simp only [go_sem]
  repeat first | (with_reducible refine side_d ?_ ?_; exact byD) | (with_reducible refine side_q ?_ ?_; exact byQ)
  refine cw_v 2 (check_c [p] (by simp) (by simp; omega)) byV byC rfl ?_
  simp only [go_sem]
  repeat first | (with_reducible refine side_d ?_ ?_; exact byD) | (with_reducible refine side_q ?_ ?_; exact byQ)
  refine cx_sr ?_
  simp only [go_sem]
  repeat first | (with_reducible refine side_d ?_ ?_; exact byD) | (with_reducible refine side_q ?_ ?_; exact byQ)
  intro t19 e19
  repeat first | (with_reducible refine side_d ?_ ?_; exact byD) | (with_reducible refine side_q ?_ ?_; exact byQ)
  subst e19
  refine cx_if _ rfl (fun h19 => ?_) (fun h19 => ?_)
  ·
    (try simp only [go_sem] at h19)
    refine cx_sr ?_
    simp only [go_sem]
    repeat first | (with_reducible refine side_d ?_ ?_; exact byD) | (with_reducible refine side_q ?_ ?_; exact byQ)
    refine cx_ret ?_
    simp only [go_sem]
    refine finw_flat rfl ?_
    rw [asideP, if_pos (by simpa using h19)]
    exact wk_refl _
  ·
    (try simp only [go_sem] at h19)
    refine cx_skip ?_
    (try simp only [go_sem])
    refine cx_seq ?_
    refine cx_sr ?_
    simp only [go_sem]
    repeat first | (with_reducible refine side_d ?_ ?_; exact byD) | (with_reducible refine side_q ?_ ?_; exact byQ)
    intro t22 e22
    repeat first | (with_reducible refine side_d ?_ ?_; exact byD) | (with_reducible refine side_q ?_ ?_; exact byQ)
    intro t25 e25
    repeat first | (with_reducible refine side_d ?_ ?_; exact byD) | (with_reducible refine side_q ?_ ?_; exact byQ)
    intro t26 e26
    rw [bsel_or] at e26
    repeat first | (with_reducible refine side_d ?_ ?_; exact byD) | (with_reducible refine side_q ?_ ?_; exact byQ)
    subst e22 e25 e26
    refine cx_if _ rfl (fun h26 => ?_) (fun h26 => ?_)
    ·
      (try simp only [go_sem] at h26)
      refine cx_sr ?_
      simp only [go_sem]
      repeat first | (with_reducible refine side_d ?_ ?_; exact byD) | (with_reducible refine side_q ?_ ?_; exact byQ)
      refine cx_ret ?_
      simp only [go_sem]
      refine finw_flat rfl ?_
      rw [asideP, if_neg (by simpa using h19), if_pos (by simpa using h26)]
      exact wk_refl _
    ·
      (try simp only [go_sem] at h26)
      refine cx_skip ?_
      (try simp only [go_sem])
      refine cx_sr ?_
      simp only [go_sem]
      repeat first | (with_reducible refine side_d ?_ ?_; exact byD) | (with_reducible refine side_q ?_ ?_; exact byQ)
      refine cw_m (Split_c p (by omega)) byW byT ?_
      simp only [go_sem]
      repeat first | (with_reducible refine side_d ?_ ?_; exact byD) | (with_reducible refine side_q ?_ ?_; exact byQ)
      refine cx_sr ?_
      simp only [go_sem]
      repeat first | (with_reducible refine side_d ?_ ?_; exact byD) | (with_reducible refine side_q ?_ ?_; exact byQ)
      refine cx_seq ?_
      refine cx_sr ?_
      simp only [go_sem]
      repeat first | (with_reducible refine side_d ?_ ?_; exact byD) | (with_reducible refine side_q ?_ ?_; exact byQ)
      refine cw_m (LastIx_c (tailOf p) 46 (by omega)) byW byT ?_
      simp only [go_sem]
      repeat first | (with_reducible refine side_d ?_ ?_; exact byD) | (with_reducible refine side_q ?_ ?_; exact byQ)
      refine cx_sr ?_
      simp only [go_sem]
      repeat first | (with_reducible refine side_d ?_ ?_; exact byD) | (with_reducible refine side_q ?_ ?_; exact byQ)
      intro t36 e36
      repeat first | (with_reducible refine side_d ?_ ?_; exact byD) | (with_reducible refine side_q ?_ ?_; exact byQ)
      subst e36
      refine cx_meet0 (σ := Str × Str) (fun v => v = (stemP (tailOf p), extP (tailOf p))) (fun v => [⟨9, 0, [], .str v.1⟩, ⟨10, 0, [], .str v.2⟩]) [1, 4, 5, 7] (Nat.zero_le _) ?_ (fun v hIM1 => ?_)
      ·
        refine cx_if _ rfl (fun h36 => ?_) (fun h36 => ?_)
        ·
          (try simp only [go_sem] at h36)
          refine cx_draw mixed [] (.first 0 (.first 1 (.first 2 (.first 3 (.first 4 (.first 5 (.first 6 (.first 7 (.done))))))))) (by kernel_rfl) ?_
          simp only [go_sem]
          repeat first | (with_reducible refine side_d ?_ ?_; exact byD) | (with_reducible refine side_q ?_ ?_; exact byQ)
          refine mt_next ((tailOf p).take (lix (tailOf p) 46).toNat, (tailOf p).drop (lix (tailOf p) 46).toNat) (by rw [stemP, extP, if_pos h36, if_pos h36]) byC
        ·
          (try simp only [go_sem] at h36)
          refine cx_skip ?_
          (try simp only [go_sem])
          refine mt_next (tailOf p, []) (by rw [stemP, extP, if_neg h36, if_neg h36]) byC
      simp only [go_sem]
      refine cx_sr ?_
      simp only [go_sem]
      repeat first | (with_reducible refine side_d ?_ ?_; exact byD) | (with_reducible refine side_q ?_ ?_; exact byQ)
      refine cw_m (Itoa_c n (by omega) (by omega)) byW byT ?_
      simp only [go_sem]
      repeat ((with_reducible first | refine side_d ?_ ?_ | refine side_q ?_ ?_); focus (first | exact byD | exact byQ | ((refine Sd.mk ?_; simp; omega))))
      repeat ((with_reducible first | refine side_d ?_ ?_ | refine side_q ?_ ?_); focus (first | exact byD | exact byQ | ((refine Sd.mk ?_; simp; omega))))
      repeat first | (with_reducible refine side_d ?_ ?_; exact byD) | (with_reducible refine side_q ?_ ?_; exact byQ)
      refine cx_seq ?_
      refine cx_sr ?_
      simp only [go_sem]
      repeat first | (with_reducible refine side_d ?_ ?_; exact byD) | (with_reducible refine side_q ?_ ?_; exact byQ)
      intro t49 e49
      (try replace e49 := w64 e49 (by omega) (by omega))
      repeat first | (with_reducible refine side_d ?_ ?_; exact byD) | (with_reducible refine side_q ?_ ?_; exact byQ)
      intro t52 e52
      (try replace e52 := w64 e52 (by omega) (by omega))
      repeat first | (with_reducible refine side_d ?_ ?_; exact byD) | (with_reducible refine side_q ?_ ?_; exact byQ)
      refine cx_sr ?_
      simp only [go_sem]
      repeat first | (with_reducible refine side_d ?_ ?_; exact byD) | (with_reducible refine side_q ?_ ?_; exact byQ)
      intro t56 e56
      repeat first | (with_reducible refine side_d ?_ ?_; exact byD) | (with_reducible refine side_q ?_ ?_; exact byQ)
      subst e56
      refine cx_meet0 (σ := Str) (fun c => c = cutP (stemP (tailOf p)) (20 - ((markP n).length : Int) - ((extP (tailOf p)).length : Int))) (fun c => [⟨9, 0, [], .str c⟩]) [4, 5, 7, 10, 12] (Nat.zero_le _) ?_ (fun c hIM2 => ?_)
      ·
        refine cx_if _ rfl (fun h56 => ?_) (fun h56 => ?_)
        ·
          (try simp only [go_sem] at h56)
          refine cx_region ?_
          simp only [go_sem]
          repeat first | (with_reducible refine side_d ?_ ?_; exact byD) | (with_reducible refine side_q ?_ ?_; exact byQ)
          refine cw_m (TrimRight_c (v.1.take (if 0 < t52 then t52 else 0).toNat) (by rw [hIM1]; simp; omega)) byW byT ?_
          simp only [go_sem]
          repeat first | (with_reducible refine side_d ?_ ?_; exact byD) | (with_reducible refine side_q ?_ ?_; exact byQ)
          have hr : t52 = 20 - ((markP n).length : Int) - ((extP (tailOf p)).length : Int) := room_eq hIM1 hml hel (by omega) e49 e52
          refine mt_next (trimS (v.1.take (if 0 < t52 then t52 else 0).toNat)) (by
            rw [hIM1] at h56 ⊢
            rw [cutP, ← hr, if_pos h56, show max 0 t52 = if 0 < t52 then t52 else 0 by split <;> omega]) byC
        ·
          (try simp only [go_sem] at h56)
          refine cx_skip ?_
          (try simp only [go_sem])
          have hr : t52 = 20 - ((markP n).length : Int) - ((extP (tailOf p)).length : Int) := room_eq hIM1 hml hel (by omega) e49 e52
          refine mt_next v.1 (by
            rw [hIM1] at h56 ⊢
            rw [cutP, ← hr, if_neg h56]) byC
      simp only [go_sem]
      refine cx_seq ?_
      refine cx_sr ?_
      simp only [go_sem]
      repeat first | (with_reducible refine side_d ?_ ?_; exact byD) | (with_reducible refine side_q ?_ ?_; exact byQ)
      intro t63 e63
      repeat first | (with_reducible refine side_d ?_ ?_; exact byD) | (with_reducible refine side_q ?_ ?_; exact byQ)
      subst e63
      refine cx_if _ rfl (fun h63 => ?_) (fun h63 => ?_)
      ·
        (try simp only [go_sem] at h63)
        refine cx_sr ?_
        simp only [go_sem]
        repeat first | (with_reducible refine side_d ?_ ?_; exact byD) | (with_reducible refine side_q ?_ ?_; exact byQ)
        refine cx_ret ?_
        simp only [go_sem]
        refine finw_flat rfl ?_
        have hc : cutP (stemP (tailOf p)) (20 - ((markP n).length : Int) - ((extP (tailOf p)).length : Int)) = [] := by rw [← hIM2]; simpa using h63
        rw [asideP, if_neg (show ¬ checkP [p] ≠ 0 by simpa using h19), if_neg (show ¬ (n < 1 ∨ 99 < n) by omega)]
        dsimp only
        rw [if_pos hc]
        exact wk_refl _
      ·
        (try simp only [go_sem] at h63)
        have hc1 : c.length ≤ (stemP (tailOf p)).length := by rw [hIM2]; exact hcl _
        have hv2 : v.2.length ≤ (tailOf p).length := by rw [hIM1]; exact hel
        refine cx_skip ?_
        (try simp only [go_sem])
        refine cx_sr ?_
        simp only [go_sem]
        repeat ((with_reducible first | refine side_d ?_ ?_ | refine side_q ?_ ?_); focus (first | exact byD | exact byQ | ((refine Sd.mk ?_; simp; omega))))
        repeat ((with_reducible first | refine side_d ?_ ?_ | refine side_q ?_ ?_); focus (first | exact byD | exact byQ | ((refine Sd.mk ?_; simp; omega))))
        repeat first | (with_reducible refine side_d ?_ ?_; exact byD) | (with_reducible refine side_q ?_ ?_; exact byQ)
        refine cw_m (joined_c (headOf p) (c ++ ([32, 40] ++ itoaS n ++ [41]) ++ v.2) (by simp; omega)) byW byT ?_
        simp only [go_sem]
        repeat first | (with_reducible refine side_d ?_ ?_; exact byD) | (with_reducible refine side_q ?_ ?_; exact byQ)
        refine cx_seq ?_
        refine cx_sr ?_
        simp only [go_sem]
        repeat first | (with_reducible refine side_d ?_ ?_; exact byD) | (with_reducible refine side_q ?_ ?_; exact byQ)
        refine cw_m (great _) byW byT ?_
        simp only [go_sem]
        repeat first | (with_reducible refine side_d ?_ ?_; exact byD) | (with_reducible refine side_q ?_ ?_; exact byQ)
        refine cx_if _ rfl (fun h72 => ?_) (fun h72 => ?_)
        ·
          (try simp only [go_sem] at h72)
          refine cx_sr ?_
          simp only [go_sem]
          repeat first | (with_reducible refine side_d ?_ ?_; exact byD) | (with_reducible refine side_q ?_ ?_; exact byQ)
          refine cx_ret ?_
          simp only [go_sem]
          refine finw_flat rfl ?_
          have hc : ¬ cutP (stemP (tailOf p)) (20 - ((markP n).length : Int) - ((extP (tailOf p)).length : Int)) = [] := by rw [← hIM2]; simpa using h63
          rw [asideP, if_neg (show ¬ checkP [p] ≠ 0 by simpa using h19), if_neg (show ¬ (n < 1 ∨ 99 < n) by omega)]
          dsimp only
          rw [if_neg hc, if_pos (by rw [← hIM2]; subst hIM1; exact h72)]
          exact wk_refl _
        ·
          (try simp only [go_sem] at h72)
          refine cx_skip ?_
          (try simp only [go_sem])
          refine cx_sr ?_
          simp only [go_sem]
          repeat first | (with_reducible refine side_d ?_ ?_; exact byD) | (with_reducible refine side_q ?_ ?_; exact byQ)
          refine cx_ret ?_
          simp only [go_sem]
          refine finw_flat rfl ?_
          have hc : ¬ cutP (stemP (tailOf p)) (20 - ((markP n).length : Int) - ((extP (tailOf p)).length : Int)) = [] := by rw [← hIM2]; simpa using h63
          rw [asideP, if_neg (show ¬ checkP [p] ≠ 0 by simpa using h19), if_neg (show ¬ (n < 1 ∨ 99 < n) by omega)]
          dsimp only
          subst hIM1
          have hg : ¬ greatB (if headOf p = [] then c ++ markP n ++ extP (tailOf p) else headOf p ++ 47 :: (c ++ markP n ++ extP (tailOf p))) = true := by
            intro h
            have h2 : greatB (if headOf p = [] then c ++ markP n ++ extP (tailOf p) else headOf p ++ 47 :: (c ++ markP n ++ extP (tailOf p))) = false := h72
            rw [h2] at h
            cases h
          rw [← hIM2, if_neg h63, if_neg hg]
          exact wk_refl _
end Go.VM.Tryd
end
section
set_option linter.unusedVariables false
set_option linter.unusedSimpArgs false
open Go Go.VM Go.Proofs Tether
namespace Go.VM.Tryd
set_option maxRecDepth 100000
/-- a number's digits -/
def digs (n : Nat) : Str := if n < 10 then [(48 + n).toUInt8] else digs (n / 10) ++ [(48 + n % 10).toUInt8]
termination_by n
theorem digs_len : ∀ (k n : Nat), n < 10 ^ (k + 1) → (digs n).length ≤ k + 1
  | 0, n, h => by unfold digs; rw [if_pos (by simpa using h)]; simp
  | k + 1, n, h => by
    unfold digs
    split
    · simp
    · have := digs_len k (n / 10) (by rw [Nat.div_lt_iff_lt_mul (by decide)]; rw [Nat.pow_succ] at h; exact h)
      simp
      omega
theorem rem10 {v t : Int} (h : 0 ≤ v) (e : t = v.tmod 10) : t = v % 10 := by rw [e, Int.tmod_eq_emod_of_nonneg h]
theorem quo10 {v t : Int} (h : 0 ≤ v) (h2 : v < 9223372036854775808) (e : t = IntKind.i64.wrap (v.tdiv 10)) : t = v / 10 := by
  rw [Int.tdiv_eq_ediv_of_nonneg h] at e
  exact w64 e (by omega) (by omega)
theorem digV {v t11 t12 t13 : Int} (h : 0 ≤ v) (e11 : t11 = v % 10) (e12 : t12 = 48 + t11) (e13 : t13 = IntKind.u8.wrap t12) : UInt8.ofNat t13.toNat = (48 + v.toNat % 10).toUInt8 := by
  have e : t13 = 48 + v % 10 := by
    rw [e13, e12, e11]
    simp [IntKind.wrap, IntKind.bits, IntKind.signed]
    omega
  rw [e]
  have : (48 + v % 10).toNat = 48 + v.toNat % 10 := by omega
  rw [this]
theorem Decimal_c (n : Int) (h0 : 0 ≤ n) (h1 : n < 9223372036854775808) : Meets Tryd.prog 38 [.int .i64 n] (.str (digs n.toNat)) [] := by
  refine meets_x (fn := Tryd.f38) Tryd.func38 rfl fb38 (by kernel_rfl) (Nat.le_of_ble_eq_true rfl) ?_
  refine cx_sr ?_
  simp only [go_sem]
  repeat first | (with_reducible refine side_d ?_ ?_; exact byD) | (with_reducible refine side_q ?_ ?_; exact byQ)
  refine cx_seq ?_
  refine cx_sr ?_
  simp only [go_sem]
  repeat first | (with_reducible refine side_d ?_ ?_; exact byD) | (with_reducible refine side_q ?_ ?_; exact byQ)
  intro t5 e5
  repeat first | (with_reducible refine side_d ?_ ?_; exact byD) | (with_reducible refine side_q ?_ ?_; exact byQ)
  subst e5
  refine cx_if _ rfl (fun h5 => ?_) (fun h5 => ?_)
  · simp at h5; omega
  ·
    (try simp only [go_sem] at h5)
    refine cx_skip ?_
    (try simp only [go_sem])
    refine cx_sr ?_
    simp only [go_sem]
    repeat first | (with_reducible refine side_d ?_ ?_; exact byD) | (with_reducible refine side_q ?_ ?_; exact byQ)
    refine cx_block ?_
    refine cx_loop0 (σ := Int × Str) (fun v => 0 ≤ v.1 ∧ v.1 ≤ n ∧ digs v.1.toNat ++ v.2 = digs n.toNat) (fun v => [⟨0, 0, [], .int .i64 v.1⟩, ⟨3, 0, [], .str v.2⟩]) [] (fun v => v.1.toNat) (n, []) ⟨h0, Int.le_refl _, by simp⟩ (Nat.zero_le _) byC (fun v hI1 => ?_)
    simp only [go_sem]
    have hl := digs_len 18 n.toNat (by omega)
    have hl2 : v.2.length ≤ 19 := by rw [← hI1.2.2] at hl; simp at hl; omega
    refine cx_block ?_
    refine cx_sr ?_
    simp only [go_sem]
    repeat first | (with_reducible refine side_d ?_ ?_; exact byD) | (with_reducible refine side_q ?_ ?_; exact byQ)
    intro t11 e11
    have e11' := rem10 hI1.1 e11
    repeat first | (with_reducible refine side_d ?_ ?_; exact byD) | (with_reducible refine side_q ?_ ?_; exact byQ)
    intro t12 e12
    (try replace e12 := w64 e12 (by omega) (by omega))
    repeat first | (with_reducible refine side_d ?_ ?_; exact byD) | (with_reducible refine side_q ?_ ?_; exact byQ)
    intro t13 e13
    repeat ((with_reducible first | refine side_d ?_ ?_ | refine side_q ?_ ?_); focus (first | exact byD | exact byQ | ((refine Sd.mk ?_; intro i _; exact ⟨_, rfl⟩))))
    repeat ((with_reducible first | refine side_d ?_ ?_ | refine side_q ?_ ?_); focus (first | exact byD | exact byQ | ((refine Sd.mk ?_; simp; omega))))
    repeat first | (with_reducible refine side_d ?_ ?_; exact byD) | (with_reducible refine side_q ?_ ?_; exact byQ)
    have hch := digV hI1.1 e11' e12 e13
    refine cx_sr ?_
    simp only [go_sem]
    repeat first | (with_reducible refine side_d ?_ ?_; exact byD) | (with_reducible refine side_q ?_ ?_; exact byQ)
    intro t19 e19
    have e19' := quo10 hI1.1 (by omega) e19
    repeat first | (with_reducible refine side_d ?_ ?_; exact byD) | (with_reducible refine side_q ?_ ?_; exact byQ)
    refine cx_sr ?_
    simp only [go_sem]
    repeat first | (with_reducible refine side_d ?_ ?_; exact byD) | (with_reducible refine side_q ?_ ?_; exact byQ)
    intro t21 e21
    repeat first | (with_reducible refine side_d ?_ ?_; exact byD) | (with_reducible refine side_q ?_ ?_; exact byQ)
    subst e21
    refine cx_if _ rfl (fun h21 => ?_) (fun h21 => ?_)
    ·
      (try simp only [go_sem] at h21)
      refine cx_sr ?_
      simp only [go_sem]
      repeat first | (with_reducible refine side_d ?_ ?_; exact byD) | (with_reducible refine side_q ?_ ?_; exact byQ)
      refine cx_ret ?_
      simp only [go_sem]
      refine finw_str ?_
      rw [← hI1.2.2]
      conv => rhs; rw [digs]
      have h21' : t19 = 0 := by simpa using h21
      rw [if_pos (by omega)]
      have : v.1.toNat % 10 = v.1.toNat := by omega
      rw [this] at hch
      simp [show chV [V.int IntKind.u8 t13] = (48 + v.1.toNat).toUInt8 from hch]
    ·
      (try simp only [go_sem] at h21)
      refine cx_skip ?_
      (try simp only [go_sem])
      refine rnd_next (t19, (48 + v.1.toNat % 10).toUInt8 :: v.2) ⟨by omega, by omega, ?_⟩ (by dsimp only; omega) ?_
      · rw [← hI1.2.2]
        conv => rhs; rw [digs]
        rw [if_neg (by omega), show t19.toNat = v.1.toNat / 10 by omega]
        simp
      · rw [show chV [V.int IntKind.u8 t13] = (48 + v.1.toNat % 10).toUInt8 from hch]
        exact byC
end Go.VM.Tryd
end
section
set_option linter.unusedVariables false
set_option linter.unusedSimpArgs false
open Go Go.VM Go.Proofs Tether
namespace Go.VM.Tryd
set_option maxRecDepth 100000
theorem LastOf2_c (s : Str) (hs : (s.length + 1) * 16 ≤ 140737488355328) : Meets Tryd.prog 20 [.str s] (.str (tailOf s)) [] := by
  have h := LastOf_c s hs
  rwa [tail_pcs] at h
theorem ParentOf2_c (s : Str) (hs : (s.length + 1) * 16 ≤ 140737488355328) : Meets Tryd.prog 19 [.str s] (.str (headOf s)) [] := by
  have h := ParentOf_c s hs (fun i hi => by have := pathN_le s i hi; omega)
  rwa [head_pcs] at h
theorem digs_itoa (n : Int) (h0 : 0 ≤ n) (h1 : n < 100) : digs n.toNat = itoaS n := by
  obtain ⟨m, rfl⟩ : ∃ m : Nat, n = m := ⟨n.toNat, by omega⟩
  simp only [Int.toNat_natCast]
  unfold digs itoaS
  by_cases h : m < 10
  · rw [if_pos h, if_pos (by omega)]
    have : ((48 : Int) + (m : Int)).toNat = 48 + m := by omega
    rw [this]
  · rw [if_neg h, if_neg (by omega)]
    unfold digs
    rw [if_pos (by omega)]
    have a : ((48 : Int) + (m : Int) / 10).toNat = 48 + m / 10 := by omega
    have b : ((48 : Int) + (m : Int) % 10).toNat = 48 + m % 10 := by omega
    rw [a, b]
    rfl
theorem DecS_c (n : Int) (h0 : 0 ≤ n) (h1 : n < 100) : Meets Tryd.prog 38 [.int .i64 n] (.str (itoaS n)) [] := by
  have h := Decimal_c n h0 (by omega)
  rwa [digs_itoa n h0 h1] at h
/-- how many are left of the first k where what is too long, or ends in a blank, loses its last -/
def cutK (s : Str) (room : Int) : Nat → Nat
  | 0 => 0
  | k + 1 => if room < ((k + 1 : Nat) : Int) ∨ at8 s k = 32 then cutK s room k else k + 1
theorem cutK_trim (s : Str) (room : Int) : ∀ k : Nat, (k : Int) ≤ room → cutK s room k = trimK s 32 k
  | 0, _ => rfl
  | k + 1, h => by
    simp only [cutK, trimK]
    by_cases hb : at8 s k = 32
    · rw [if_pos (.inr hb), if_pos hb]; exact cutK_trim s room k (by omega)
    · rw [if_neg (by intro h; rcases h with h | h <;> omega), if_neg hb]
theorem cutK_room (s : Str) (room : Int) : ∀ k : Nat, (max 0 room).toNat ≤ k → cutK s room k = cutK s room (max 0 room).toNat
  | 0, h => by rw [show (max 0 room).toNat = 0 by omega]
  | k + 1, h => by
    by_cases he : (max 0 room).toNat = k + 1
    · rw [he]
    · have : cutK s room (k + 1) = cutK s room k := by simp only [cutK]; rw [if_pos (.inl (by omega))]
      rw [this]
      exact cutK_room s room k (by omega)
theorem trimK_take (s : Str) (m : Nat) : ∀ k, k ≤ m → trimK (s.take m) 32 k = trimK s 32 k
  | 0, _ => rfl
  | k + 1, h => by
    have : at8 (s.take m) k = at8 s k := by simp [at8, List.getD_eq_getElem?_getD, List.getElem?_take, show k < m by omega]
    simp only [trimK, this]
    rw [trimK_take s m k (by omega)]
theorem trimK_le (s : Str) (c : Int) : ∀ k, trimK s c k ≤ k
  | 0 => Nat.le_refl _
  | k + 1 => by
    simp only [trimK]
    split
    · have := trimK_le s c k; omega
    · exact Nat.le_refl _
theorem cutK_cutP (s : Str) (room : Int) (h : room < (s.length : Int)) : s.take (cutK s room s.length) = cutP s room := by
  unfold cutP
  rw [if_pos h, cutK_room s room s.length (by omega), trimS]
  have hl : (s.take (max 0 room).toNat).length = (max 0 room).toNat := by simp; omega
  rw [hl, List.take_take]
  rcases Int.lt_or_le room 0 with hr | hr
  · rw [show (max 0 room).toNat = 0 by omega]
    simp [cutK]
  · rw [trimK_take s _ _ (Nat.le_refl _), cutK_trim s room _ (by omega)]
    rw [Nat.min_eq_left (trimK_le s 32 _)]
def asideQ (p : Str) (n : Int) : Str × Int :=
  let stem := cutP (stemP (tailOf p)) (20 - ((markP n).length : Int) - ((extP (tailOf p)).length : Int))
  if stem = [] then ([], 2)
  else
    let r := if headOf p = [] then stem ++ markP n ++ extP (tailOf p) else headOf p ++ 47 :: (stem ++ markP n ++ extP (tailOf p))
    if greatB r then ([], 2) else (r, 0)
theorem asideP_Q (p : Str) (n : Int) : asideP p n = if checkP [p] ≠ 0 then ([], checkP [p]) else if n < 1 ∨ 99 < n then ([], 3) else asideQ p n := rfl
theorem lixN_hit {s : Str} {c : Int} {i : Nat} (h : at8 s i = c) : lixN s c (i + 1) = i := by simp only [lixN]; rw [if_pos h]
theorem lixN_miss {s : Str} {c : Int} {i : Nat} (h : ¬ at8 s i = c) : lixN s c (i + 1) = lixN s c i := by simp only [lixN]; rw [if_neg h]
theorem AsideOf_c (p : Str) (n : Int) (h0 : 1 ≤ n) (h1 : n ≤ 99) (hs : (p.length + 10) * 64 ≤ 140737488355328) : Meets Tryd.prog 13 [.str p, .int .i64 n] (.tup [.str (asideQ p n).1, .int .i64 (asideQ p n).2]) [] := by
  refine meets_x (fn := Tryd.f13) Tryd.func13 rfl fb13 (by kernel_rfl) (Nat.le_of_ble_eq_true rfl) ?_
  have hlx := lixN_le (tailOf p) 46 (tailOf p).length
  have htl : (tailOf p).length ≤ p.length := by simp [tailOf]
  have hhl : (headOf p).length ≤ p.length := by simp [headOf]; omega
  have hsl : (stemP (tailOf p)).length ≤ (tailOf p).length := by unfold stemP; split <;> simp <;> omega
  have hel : (extP (tailOf p)).length ≤ (tailOf p).length := by unfold extP; split <;> simp
  have hil := itoaS_len n
  have hml : (markP n).length ≤ 5 := by simp [markP]; omega
  refine cx_sr ?_
  simp only [go_sem]
  repeat first | (with_reducible refine side_d ?_ ?_; exact byD) | (with_reducible refine side_q ?_ ?_; exact byQ)
  refine cx_sr ?_
  simp only [go_sem]
  repeat first | (with_reducible refine side_d ?_ ?_; exact byD) | (with_reducible refine side_q ?_ ?_; exact byQ)
  refine cw_m (LastOf2_c p (by omega)) byW byT ?_
  simp only [go_sem]
  repeat first | (with_reducible refine side_d ?_ ?_; exact byD) | (with_reducible refine side_q ?_ ?_; exact byQ)
  refine cx_sr ?_
  simp only [go_sem]
  repeat first | (with_reducible refine side_d ?_ ?_; exact byD) | (with_reducible refine side_q ?_ ?_; exact byQ)
  refine cx_seq ?_
  refine cx_sr ?_
  simp only [go_sem]
  repeat first | (with_reducible refine side_d ?_ ?_; exact byD) | (with_reducible refine side_q ?_ ?_; exact byQ)
  refine cx_block ?_
  refine cx_loop0 (σ := Nat × Nat) (fun v => 1 ≤ v.1 ∧ (v.1 ≤ (tailOf p).length ∨ v.1 = 1) ∧ v.2 ≤ (tailOf p).length ∧ v.2 = (if 0 < lixN (tailOf p) 46 v.1 then (lixN (tailOf p) 46 v.1).toNat else (tailOf p).length)) (fun v => [⟨8, 0, [], .int .i64 (v.1 : Nat)⟩, ⟨7, 0, [], .int .i64 (v.2 : Nat)⟩]) [0, 1, 4, 5, 6] (fun v => (tailOf p).length - v.1) (1, (tailOf p).length) ⟨Nat.le_refl _, .inr rfl, Nat.le_refl _, by rw [if_neg]; simp only [lixN]; split <;> omega⟩ (Nat.zero_le _) byC (fun v hI1 => ?_)
  simp only [go_sem]
  refine cx_seq ?_
  refine cx_sr ?_
  simp only [go_sem]
  repeat first | (with_reducible refine side_d ?_ ?_; exact byD) | (with_reducible refine side_q ?_ ?_; exact byQ)
  intro t20 e20
  repeat first | (with_reducible refine side_d ?_ ?_; exact byD) | (with_reducible refine side_q ?_ ?_; exact byQ)
  subst e20
  refine cx_if _ rfl (fun h20 => ?_) (fun h20 => ?_)
  ·
    (try simp only [go_sem] at h20)
    refine cx_skip ?_
    (try simp only [go_sem])
    refine cx_seq (cx_block ?_)
    refine cx_sr ?_
    simp only [go_sem]
    repeat first | (with_reducible refine side_d ?_ ?_; exact byD) | (with_reducible refine side_q ?_ ?_; exact byQ)
    intro t25 e25
    repeat first | (with_reducible refine side_d ?_ ?_; exact byD) | (with_reducible refine side_q ?_ ?_; exact byQ)
    intro t26 e26
    repeat first | (with_reducible refine side_d ?_ ?_; exact byD) | (with_reducible refine side_q ?_ ?_; exact byQ)
    subst e26
    refine cx_if _ rfl (fun h26 => ?_) (fun h26 => ?_)
    ·
      (try simp only [go_sem] at h26)
      refine cx_region ?_
      simp only [go_sem]
      repeat first | (with_reducible refine side_d ?_ ?_; exact byD) | (with_reducible refine side_q ?_ ?_; exact byQ)
      refine cx_region ?_
      simp only [go_sem]
      repeat first | (with_reducible refine side_d ?_ ?_; exact byD) | (with_reducible refine side_q ?_ ?_; exact byQ)
      intro t22 e22
      (try replace e22 := w64 e22 (by omega) (by omega))
      repeat first | (with_reducible refine side_d ?_ ?_; exact byD) | (with_reducible refine side_q ?_ ?_; exact byQ)
      have hat : at8 (tailOf p) v.1 = 46 := by simpa [e25, at8] using h26
      refine rnd_next (v.1 + 1, v.1) ⟨by omega, by dsimp only; omega, by dsimp only; omega, ?_⟩ (by dsimp only; omega) byC
      show v.1 = if 0 < lixN (tailOf p) 46 (v.1 + 1) then (lixN (tailOf p) 46 (v.1 + 1)).toNat else (tailOf p).length
      rw [lixN_hit hat, if_pos (by omega)]
      rfl
    ·
      (try simp only [go_sem] at h26)
      refine cx_skip ?_
      (try simp only [go_sem])
      refine cx_region ?_
      simp only [go_sem]
      repeat first | (with_reducible refine side_d ?_ ?_; exact byD) | (with_reducible refine side_q ?_ ?_; exact byQ)
      intro t22 e22
      (try replace e22 := w64 e22 (by omega) (by omega))
      repeat first | (with_reducible refine side_d ?_ ?_; exact byD) | (with_reducible refine side_q ?_ ?_; exact byQ)
      have hat : ¬ at8 (tailOf p) v.1 = 46 := by simpa [e25, at8] using h26
      refine rnd_next (v.1 + 1, v.2) ⟨by omega, by dsimp only; omega, by dsimp only; omega, ?_⟩ (by dsimp only; omega) byC
      show v.2 = if 0 < lixN (tailOf p) 46 (v.1 + 1) then (lixN (tailOf p) 46 (v.1 + 1)).toNat else (tailOf p).length
      rw [lixN_miss hat]
      exact hI1.2.2.2
  ·
    (try simp only [go_sem] at h20)
    refine cx_exit ?_
    simp only [go_sem]
    refine cx_seq (cx_draw mixed [] (.first 0 (.first 1 (.first 2 (.first 3 (.first 4 (.first 5 (.first 6 (.first 7 (.done))))))))) (by kernel_rfl) ?_)
    simp only [go_sem]
    repeat first | (with_reducible refine side_d ?_ ?_; exact byD) | (with_reducible refine side_q ?_ ?_; exact byQ)
    have hv : v.2 = if 0 < lix (tailOf p) 46 then (lix (tailOf p) 46).toNat else (tailOf p).length := by
      rw [hI1.2.2.2]
      rcases hI1.2.1 with h | h
      · rw [show v.1 = (tailOf p).length by omega]
      · have h20' : (tailOf p).length ≤ 1 := by omega
        rw [h]
        rcases Nat.lt_or_ge (tailOf p).length 1 with h2 | h2
        · have h3 : (tailOf p).length = 0 := by omega
          rw [if_neg, if_neg (by rw [h3] at hlx; rw [lix, h3]; omega)]
          simp only [lixN]
          split <;> omega
        · rw [show lix (tailOf p) 46 = lixN (tailOf p) 46 1 by rw [lix, show (tailOf p).length = 1 by omega]]
    have hst : (tailOf p).take v.2 = stemP (tailOf p) := by
      rw [hv, stemP]
      split
      · rfl
      · rw [List.take_length]
    have hex : (tailOf p).drop v.2 = extP (tailOf p) := by
      rw [hv, extP]
      split
      · rfl
      · rw [List.drop_length]
    simp only [hst, hex]
    refine cx_sr ?_
    simp only [go_sem]
    repeat first | (with_reducible refine side_d ?_ ?_; exact byD) | (with_reducible refine side_q ?_ ?_; exact byQ)
    refine cw_m (DecS_c n (by omega) (by omega)) byW byT ?_
    simp only [go_sem]
    repeat ((with_reducible first | refine side_d ?_ ?_ | refine side_q ?_ ?_); focus (first | exact byD | exact byQ | ((refine Sd.mk ?_; simp; omega))))
    repeat ((with_reducible first | refine side_d ?_ ?_ | refine side_q ?_ ?_); focus (first | exact byD | exact byQ | ((refine Sd.mk ?_; simp; omega))))
    repeat first | (with_reducible refine side_d ?_ ?_; exact byD) | (with_reducible refine side_q ?_ ?_; exact byQ)
    have hmk : ([32, 40] ++ itoaS n ++ [41] : Str).length = (markP n).length := rfl
    refine cx_seq ?_
    refine cx_sr ?_
    simp only [go_sem]
    repeat first | (with_reducible refine side_d ?_ ?_; exact byD) | (with_reducible refine side_q ?_ ?_; exact byQ)
    intro t42 e42
    (try replace e42 := w64 e42 (by omega) (by omega))
    repeat first | (with_reducible refine side_d ?_ ?_; exact byD) | (with_reducible refine side_q ?_ ?_; exact byQ)
    intro t45 e45
    (try replace e45 := w64 e45 (by omega) (by omega))
    repeat first | (with_reducible refine side_d ?_ ?_; exact byD) | (with_reducible refine side_q ?_ ?_; exact byQ)
    intro t46 e46
    repeat first | (with_reducible refine side_d ?_ ?_; exact byD) | (with_reducible refine side_q ?_ ?_; exact byQ)
    subst e46
    refine cx_meet0 (σ := Str) (fun c => c = cutP (stemP (tailOf p)) (20 - ((markP n).length : Int) - ((extP (tailOf p)).length : Int))) (fun c => [⟨9, 0, [], .str c⟩]) [0, 4, 5, 10, 11] (Nat.zero_le _) ?_ (fun c hIM1 => ?_)
    ·
      refine cx_if _ rfl (fun h46 => ?_) (fun h46 => ?_)
      ·
        (try simp only [go_sem] at h46)
        refine cx_block ?_
        refine cx_loop0 (σ := Nat) (fun k => k ≤ (stemP (tailOf p)).length ∧ cutK (stemP (tailOf p)) (20 - ((markP n).length : Int) - ((extP (tailOf p)).length : Int)) k = cutK (stemP (tailOf p)) (20 - ((markP n).length : Int) - ((extP (tailOf p)).length : Int)) (stemP (tailOf p)).length) (fun k => [⟨9, 0, [], .str ((stemP (tailOf p)).take k)⟩]) [0, 4, 5, 10, 11] (fun k => k) (stemP (tailOf p)).length ⟨Nat.le_refl _, rfl⟩ (Nat.zero_le _) byC (fun k hI2 => ?_)
        simp only [go_sem]
        have hkl : ((stemP (tailOf p)).take k).length = k := by simp; omega
        refine cx_seq ?_
        refine cx_sr ?_
        simp only [go_sem]
        repeat first | (with_reducible refine side_d ?_ ?_; exact byD) | (with_reducible refine side_q ?_ ?_; exact byQ)
        intro t48 e48
        repeat first | (with_reducible refine side_d ?_ ?_; exact byD) | (with_reducible refine side_q ?_ ?_; exact byQ)
        intro t54 e54
        (try replace e54 := w64 e54 (by omega) (by omega))
        repeat first | (with_reducible refine side_d ?_ ?_; exact byD) | (with_reducible refine side_q ?_ ?_; exact byQ)
        intro t57 e57
        (try replace e57 := w64 e57 (by omega) (by omega))
        repeat first | (with_reducible refine side_d ?_ ?_; exact byD) | (with_reducible refine side_q ?_ ?_; exact byQ)
        intro t58 e58
        repeat first | (with_reducible refine side_d ?_ ?_; exact byD) | (with_reducible refine side_q ?_ ?_; exact byQ)
        intro t63 e63
        (try replace e63 := w64 e63 (by omega) (by omega))
        repeat ((with_reducible first | refine side_d ?_ ?_ | refine side_q ?_ ?_); focus (first | exact byD | exact byQ | ((refine Sd.of fun hp => ?_; simp only [pc, and_true] at hp; have h0k : k ≠ 0 := (by rintro rfl; simp [e48] at hp); omega))))
        intro t64 e64
        repeat first | (with_reducible refine side_d ?_ ?_; exact byD) | (with_reducible refine side_q ?_ ?_; exact byQ)
        intro t65 e65
        repeat first | (with_reducible refine side_d ?_ ?_; exact byD) | (with_reducible refine side_q ?_ ?_; exact byQ)
        intro t66 e66
        rw [bsel_or] at e66
        repeat first | (with_reducible refine side_d ?_ ?_; exact byD) | (with_reducible refine side_q ?_ ?_; exact byQ)
        intro t67 e67
        rw [bsel_and] at e67
        repeat first | (with_reducible refine side_d ?_ ?_; exact byD) | (with_reducible refine side_q ?_ ?_; exact byQ)
        subst e48 e58 e65 e66 e67
        refine cx_if _ rfl (fun h67 => ?_) (fun h67 => ?_)
        ·
          (try simp only [go_sem] at h67)
          have hk0 : k ≠ 0 := by rintro rfl; simp at h67
          refine cx_skip ?_
          (try simp only [go_sem])
          refine cx_block ?_
          refine cx_region ?_
          simp only [go_sem]
          repeat first | (with_reducible refine side_d ?_ ?_; exact byD) | (with_reducible refine side_q ?_ ?_; exact byQ)
          intro t71 e71
          (try replace e71 := w64 e71 (by omega) (by omega))
          repeat first | (with_reducible refine side_d ?_ ?_; exact byD) | (with_reducible refine side_q ?_ ?_; exact byQ)
          obtain ⟨m, rfl⟩ : ∃ m, k = m + 1 := ⟨k - 1, by omega⟩
          have hat : t64 = 32 → at8 (stemP (tailOf p)) m = 32 := by
            intro h
            rw [← h, e64, show t63.toNat = m by omega]
            simp [at8, List.getD_eq_getElem?_getD, List.getElem?_take]
          have hc : cutK (stemP (tailOf p)) (20 - ((markP n).length : Int) - ((extP (tailOf p)).length : Int)) (m + 1) = cutK (stemP (tailOf p)) (20 - ((markP n).length : Int) - ((extP (tailOf p)).length : Int)) m := by
            simp only [cutK]
            rw [if_pos]
            rcases h67.2 with h | h
            · left; omega
            · right; exact hat h
          have htk : ((stemP (tailOf p)).take (m + 1)).take t71.toNat = (stemP (tailOf p)).take m := by
            rw [List.take_take, show t71.toNat = m by omega, Nat.min_eq_left (by omega)]
          refine rnd_next m ⟨by omega, by rw [← hc]; exact hI2.2⟩ (by first | omega | (dsimp only; omega)) ?_
          rw [htk]
          exact byC
        ·
          (try simp only [go_sem] at h67)
          refine cx_exit ?_
          simp only [go_sem]
          have hc : cutK (stemP (tailOf p)) (20 - ((markP n).length : Int) - ((extP (tailOf p)).length : Int)) k = k := by
            rcases k with _ | m
            · rfl
            · have hne : ¬ (stemP (tailOf p)).take (m + 1) = [] := by intro h; rw [h] at hkl; simp at hkl
              have h67' : ¬ (20 < t57 ∨ t64 = 32) := by simp [hne] at h67; omega
              simp only [cutK]
              rw [if_neg]
              rintro (h | h)
              · exact h67' (.inl (by omega))
              · refine h67' (.inr ?_)
                rw [← h, e64, show t63.toNat = m by omega]
                simp [at8, List.getD_eq_getElem?_getD, List.getElem?_take]
          refine mt_next ((stemP (tailOf p)).take k) (by rw [← cutK_cutP _ _ (by omega), ← hI2.2, hc]) byC
      ·
        (try simp only [go_sem] at h46)
        refine cx_skip ?_
        (try simp only [go_sem])
        refine mt_next (stemP (tailOf p)) (by rw [cutP, if_neg (by omega)]) byC
    simp only [go_sem]
    have hcl : c.length ≤ (stemP (tailOf p)).length := by
      rw [hIM1]; unfold cutP trimS; split <;> simp <;> omega
    have hgl : (if headOf p = [] then c ++ ([32, 40] ++ itoaS n ++ [41]) ++ extP (tailOf p) else headOf p ++ 47 :: (c ++ ([32, 40] ++ itoaS n ++ [41]) ++ extP (tailOf p))).length ≤ (headOf p).length + 1 + c.length + (markP n).length + (extP (tailOf p)).length := by
      split <;> simp [markP] <;> omega
    refine cx_sr ?_
    simp only [go_sem]
    repeat first | (with_reducible refine side_d ?_ ?_; exact byD) | (with_reducible refine side_q ?_ ?_; exact byQ)
    refine cw_m (ParentOf2_c p (by omega)) byW byT ?_
    simp only [go_sem]
    repeat ((with_reducible first | refine side_d ?_ ?_ | refine side_q ?_ ?_); focus (first | exact byD | exact byQ | ((refine Sd.mk ?_; simp; omega))))
    repeat ((with_reducible first | refine side_d ?_ ?_ | refine side_q ?_ ?_); focus (first | exact byD | exact byQ | ((refine Sd.mk ?_; simp; omega))))
    repeat first | (with_reducible refine side_d ?_ ?_; exact byD) | (with_reducible refine side_q ?_ ?_; exact byQ)
    refine cw_m (Joined_c (headOf p) (c ++ ([32, 40] ++ itoaS n ++ [41]) ++ extP (tailOf p)) (by simp; omega)) byW byT ?_
    simp only [go_sem]
    repeat first | (with_reducible refine side_d ?_ ?_; exact byD) | (with_reducible refine side_q ?_ ?_; exact byQ)
    refine cx_seq ?_
    refine cx_sr ?_
    simp only [go_sem]
    repeat first | (with_reducible refine side_d ?_ ?_; exact byD) | (with_reducible refine side_q ?_ ?_; exact byQ)
    intro t82 e82
    repeat first | (with_reducible refine side_d ?_ ?_; exact byD) | (with_reducible refine side_q ?_ ?_; exact byQ)
    refine ⟨_, fun hp => cw_m (TooGreat_c (if headOf p = [] then c ++ ([32, 40] ++ itoaS n ++ [41]) ++ extP (tailOf p) else headOf p ++ 47 :: (c ++ ([32, 40] ++ itoaS n ++ [41]) ++ extP (tailOf p))) (by omega)) byW byT ⟨rfl, rfl⟩, ?_⟩
    simp only [go_sem]
    repeat first | (with_reducible refine side_d ?_ ?_; exact byD) | (with_reducible refine side_q ?_ ?_; exact byQ)
    intro t86 e86
    rw [bsel_or] at e86
    repeat first | (with_reducible refine side_d ?_ ?_; exact byD) | (with_reducible refine side_q ?_ ?_; exact byQ)
    subst e82 e86
    refine cx_if _ rfl (fun h86 => ?_) (fun h86 => ?_)
    ·
      (try simp only [go_sem] at h86)
      refine cx_sr ?_
      simp only [go_sem]
      repeat first | (with_reducible refine side_d ?_ ?_; exact byD) | (with_reducible refine side_q ?_ ?_; exact byQ)
      refine cx_ret ?_
      simp only [go_sem]
      refine finw_flat rfl ?_
      have hq : (asideQ p n) = ([], 2) := by
        unfold asideQ
        dsimp only
        rw [← hIM1]
        by_cases hc : c = []
        · rw [if_pos hc]
        · rw [if_neg hc, if_pos]
          simpa [hc, markP] using h86
      rw [hq]
      exact wk_refl _
    ·
      (try simp only [go_sem] at h86)
      refine cx_skip ?_
      (try simp only [go_sem])
      refine cx_sr ?_
      simp only [go_sem]
      repeat first | (with_reducible refine side_d ?_ ?_; exact byD) | (with_reducible refine side_q ?_ ?_; exact byQ)
      refine cx_ret ?_
      simp only [go_sem]
      refine finw_flat rfl ?_
      have hc : ¬ c = [] := by intro h; simp [h] at h86
      have hq : (asideQ p n) = (if headOf p = [] then c ++ ([32, 40] ++ itoaS n ++ [41]) ++ extP (tailOf p) else headOf p ++ 47 :: (c ++ ([32, 40] ++ itoaS n ++ [41]) ++ extP (tailOf p)), 0) := by
        unfold asideQ
        dsimp only
        rw [← hIM1, if_neg hc, if_neg]
        · rfl
        · simpa [hc, markP] using h86
      rw [hq]
      exact wk_refl _
end Go.VM.Tryd
end
section
set_option linter.unusedVariables false
set_option linter.unusedSimpArgs false
open Go Go.VM Go.Proofs Tether
namespace Go.VM.Tryd
/-! ### Pieces of a text that was joined -/
theorem pcs_app : ∀ (a b : Str), pcs (a ++ 47 :: b) = pcs a ++ pcs b
  | [], b => by simp [pcs]
  | c :: a, b => by
    have ih := pcs_app a b
    obtain ⟨x, xs, hx⟩ := pcs_some a
    by_cases hc : c = 47
    · subst hc
      rw [List.cons_append, pcs_slash, pcs_slash, ih]
      rfl
    · rw [hx] at ih
      rw [List.cons_append, pcs_other hc hx, pcs_other hc (x := x) (xs := xs ++ pcs b) (by rw [ih]; rfl)]
      rfl
theorem isIn_iff (a b : Str) : isIn a b = true ↔ a = b ∨ ∃ t, a = b ++ 47 :: t := by
  rw [isIn_pcs, inP_begins, begins_iff]
theorem moved_pcs {p f : Str} (t : Str) (h : isIn p f = true) : pcs t ++ (pcs p).drop (pcs f).length = pcs (t ++ p.drop f.length) := by
  rcases (isIn_iff p f).1 h with rfl | ⟨u, rfl⟩
  · simp
  · rw [pcs_app, List.drop_left, List.drop_left, pcs_app]
theorem moved_in {p f : Str} (t : Str) (h : isIn p f = true) : isIn (t ++ p.drop f.length) t = true := by
  rw [isIn_iff]
  rcases (isIn_iff p f).1 h with rfl | ⟨u, rfl⟩
  · left; simp
  · right; exact ⟨u, by rw [List.drop_left]⟩
theorem moved_again {p f : Str} (t : Str) (h : isIn p f = true) : f ++ (t ++ p.drop f.length).drop t.length = p := by
  rw [List.drop_left]
  rcases (isIn_iff p f).1 h with rfl | ⟨u, rfl⟩
  · simp
  · rw [List.drop_left]
theorem pathN_app (a b : List Str) : ∀ k, k ≤ a.length → pathN (a ++ b) k = pathN a k
  | 0, _ => rfl
  | k + 1, h => by
    simp only [pathN]
    rw [pathN_app a b k (by omega)]
    simp [List.getD_eq_getElem?_getD, List.getElem?_append_left (show k < a.length by omega)]
theorem headOf_join {h x : Str} (hx : 47 ∉ x) : headOf (h ++ 47 :: x) = h := by
  rw [← head_pcs, pcs_app, pcs_no x hx]
  simp only [List.length_append, List.length_cons, List.length_nil, Nat.zero_add, Nat.add_sub_cancel]
  rw [pathN_app _ _ _ (Nat.le_refl _), pathN_pcs]
theorem headOf_no {x : Str} (hx : 47 ∉ x) : headOf x = [] := by
  rw [← head_pcs, pcs_no x hx]
  rfl
theorem tailOf_join {h x : Str} (hx : 47 ∉ x) : tailOf (h ++ 47 :: x) = x := by
  rw [← tail_pcs, pcs_app, pcs_no x hx]
  simp [List.getD_eq_getElem?_getD]
theorem tailOf_no {x : Str} (hx : 47 ∉ x) : tailOf x = x := by
  rw [← tail_pcs, pcs_no x hx]
  rfl
/-- a text is one piece, or a front, a slash, and a last piece -/
theorem cut_last : ∀ s : Str, 47 ∉ s ∨ ∃ h x, s = h ++ 47 :: x ∧ 47 ∉ x
  | [] => .inl (by simp)
  | c :: s => by
    rcases cut_last s with h | ⟨h, x, rfl, hx⟩
    · by_cases hc : c = 47
      · subst hc
        exact .inr ⟨[], s, rfl, h⟩
      · exact .inl (by simp [h]; exact fun e => hc e.symm)
    · exact .inr ⟨c :: h, x, rfl, hx⟩
/-! ### What passes -/
theorem checkP_iff (p : Str) : checkP [p] = 0 ↔ (∀ x ∈ pcs p, isName x = true) ∧ greatB p = false := by
  simp only [checkP]
  constructor
  · intro h
    split at h
    · rename_i h1
      split at h
      · cases h
      · rename_i h2
        exact ⟨List.all_eq_true.1 h1, by simpa using h2⟩
    · cases h
  · rintro ⟨h1, h2⟩
    rw [if_pos (List.all_eq_true.2 h1), if_neg (by simp [h2])]
theorem checkP2 (p q : Str) : checkP [p, q] = 0 ↔ checkP [p] = 0 ∧ checkP [q] = 0 := by
  rw [checkP_cons]
  by_cases h : checkP [p] = 0
  · simp [h]
  · simp [h]
theorem checkP3 (p q r : Str) : checkP [p, q, r] = 0 ↔ checkP [p] = 0 ∧ checkP [q] = 0 ∧ checkP [r] = 0 := by
  rw [checkP_cons, ← checkP2]
  by_cases h : checkP [p] = 0
  · simp [h]
  · simp [h]
theorem greatB_false (s : Str) : greatB s = false ↔ s.count 47 < 6 ∧ s.length ≤ 80 := by
  simp only [greatB, Bool.or_eq_false_iff, decide_eq_false_iff_not]
  omega
theorem isName_ne {x : Str} (h : isName x = true) : x ≠ [] := by
  rintro rfl
  simp [isName] at h
/-- A PATH IS ITS FRONT AND ITS NAME -/
theorem parts {p : Str} (h : checkP [p] = 0) : isName (tailOf p) = true ∧ (if headOf p = [] then tailOf p else headOf p ++ 47 :: tailOf p) = p ∧ (headOf p ≠ [] → checkP [headOf p] = 0) := by
  obtain ⟨h1, h2⟩ := (checkP_iff p).1 h
  rcases cut_last p with hp | ⟨f, x, rfl, hx⟩
  · rw [headOf_no hp, tailOf_no hp]
    refine ⟨h1 p (by rw [pcs_no p hp]; simp), by simp, fun h => absurd rfl h⟩
  · rw [headOf_join hx, tailOf_join hx]
    rw [pcs_app, pcs_no x hx] at h1
    have hf : f ≠ [] := by
      rintro rfl
      exact isName_ne (h1 [] (by simp [pcs])) rfl
    refine ⟨h1 x (by simp), by rw [if_neg hf], fun _ => (checkP_iff f).2 ⟨fun y hy => h1 y (by simp [hy]), ?_⟩⟩
    rw [greatB_false] at h2 ⊢
    simp at h2
    omega
theorem join_back {p : Str} (h : checkP [p] = 0) : joinP (headOf p) (tailOf p) = (p, 0) := by
  obtain ⟨h1, h2, h3⟩ := parts h
  unfold joinP
  rw [if_neg (by rintro ⟨a, b⟩; exact b (h3 a)), if_neg (by simp [h1]), h2, if_neg (by simp [((checkP_iff p).1 h).2])]
theorem moved_back {p f t : Str} (h : (movedP p f t).2 = 0) : movedP (movedP p f t).1 t f = (p, 0) ∧ withinP (movedP p f t).1 t = true ∧ checkP [(movedP p f t).1, t] = 0 := by
  unfold movedP at h ⊢
  by_cases h1 : checkP [p, f, t] ≠ 0
  · rw [if_pos h1] at h
    exact absurd h h1
  · rw [if_neg h1] at h ⊢
    by_cases h2 : isIn p f = false
    · rw [if_pos h2] at h
      cases h
    · rw [if_neg h2] at h ⊢
      by_cases h3 : greatB (t ++ p.drop f.length) = true
      · rw [if_pos h3] at h
        cases h
      · rw [if_neg h3]
        have h2 : isIn p f = true := by simpa using h2
        obtain ⟨hp, hf, ht⟩ := (checkP3 p f t).1 (by simpa using h1)
        have hm : checkP [t ++ p.drop f.length] = 0 := by
          refine (checkP_iff _).2 ⟨fun x hx => ?_, by simpa using h3⟩
          rw [← moved_pcs t h2] at hx
          rcases List.mem_append.1 hx with hx | hx
          · exact ((checkP_iff t).1 ht).1 x hx
          · exact ((checkP_iff p).1 hp).1 x (List.mem_of_mem_drop hx)
        have hi := moved_in t h2
        have hg := ((checkP_iff p).1 hp).2
        dsimp only
        refine ⟨?_, ?_, (checkP2 _ _).2 ⟨hm, ht⟩⟩
        · rw [if_neg (by simpa using (checkP3 _ _ _).2 ⟨hm, ht, hf⟩), if_neg (by simp [hi]), moved_again t h2, if_neg (by simp [hg])]
        · rw [withinP, hi, decide_eq_true ((checkP2 _ _).2 ⟨hm, ht⟩)]
          rfl
end Go.VM.Tryd
end
section
set_option linter.unusedVariables false
set_option linter.unusedSimpArgs false
open Go Go.VM Go.Proofs Tether
namespace Go.VM.Tryd
/-! ### Names, sign by sign -/
theorem signs_iff (s : Str) : ((List.range s.length).all fun i => signB (at8 s i)) = true ↔ ∀ c ∈ s, signB (c.toNat : Int) = true := by
  simp only [List.all_eq_true, List.mem_range]
  constructor
  · intro h c hc
    obtain ⟨i, hi, rfl⟩ := List.getElem_of_mem hc
    have := h i hi
    simpa [at8, List.getD_eq_getElem?_getD, List.getElem?_eq_getElem hi] using this
  · intro h i hi
    have := h s[i] (List.getElem_mem hi)
    simpa [at8, List.getD_eq_getElem?_getD, List.getElem?_eq_getElem hi] using this
theorem isName_iff (s : Str) : isName s = true ↔ s ≠ [] ∧ s.length ≤ 20 ∧ s ≠ [46] ∧ s ≠ [46, 46] ∧ at8 s 0 ≠ 32 ∧ at8 s (s.length - 1) ≠ 32 ∧ ∀ c ∈ s, signB (c.toNat : Int) = true := by
  rw [← signs_iff]
  simp only [isName, Bool.and_eq_true, Bool.not_eq_true', Bool.or_eq_false_iff, decide_eq_false_iff_not, and_assoc, ne_eq]
  constructor
  · rintro ⟨a, b, c, d, e, f, g⟩
    exact ⟨a, by omega, c, d, e, f, g⟩
  · rintro ⟨a, b, c, d, e, f, g⟩
    exact ⟨a, by omega, c, d, e, f, g⟩
theorem isName_no47 {s : Str} (h : isName s = true) : 47 ∉ s := fun hm => by
  have := ((isName_iff s).1 h).2.2.2.2.2.2 47 hm
  exact absurd this (by decide)
theorem at8_app_left {a b : Str} {i : Nat} (h : i < a.length) : at8 (a ++ b) i = at8 a i := by
  simp [at8, List.getD_eq_getElem?_getD, List.getElem?_append_left h]
theorem at8_last {a b : Str} (h : b ≠ []) : at8 (a ++ b) ((a ++ b).length - 1) = at8 b (b.length - 1) := by
  have : 0 < b.length := List.length_pos_iff.2 h
  simp only [at8, List.getD_eq_getElem?_getD, List.length_append]
  rw [List.getElem?_append_right (by omega), show a.length + b.length - 1 - a.length = b.length - 1 by omega]
theorem stem_ext (name : Str) : stemP name ++ extP name = name := by
  unfold stemP extP
  split
  · exact List.take_append_drop _ _
  · simp
theorem cutP_pre (s : Str) (r : Int) : ∃ k, cutP s r = s.take k := by
  unfold cutP trimS
  split
  · exact ⟨_, by rw [List.take_take]⟩
  · exact ⟨s.length, by simp⟩
theorem cutP_room (s : Str) (r : Int) : ((cutP s r).length : Int) ≤ max 0 r := by
  unfold cutP trimS
  split
  · simp; omega
  · omega
theorem mark_sign {n : Int} (h0 : 1 ≤ n) (h1 : n ≤ 99) : ∀ c ∈ markP n, signB (c.toNat : Int) = true := by
  obtain ⟨m, rfl⟩ : ∃ m : Nat, n = m := ⟨n.toNat, by omega⟩
  have : ∀ m : Fin 100, ∀ c ∈ markP (m.val : Int), signB (c.toNat : Int) = true := by decide +kernel
  exact this ⟨m, by omega⟩
theorem mark_len {n : Int} : 3 ≤ (markP n).length := by simp [markP]
/-- what is put in the place of a name -/
def newN (p : Str) (n : Int) : Str := cutP (stemP (tailOf p)) (20 - ((markP n).length : Int) - ((extP (tailOf p)).length : Int)) ++ markP n ++ extP (tailOf p)
theorem newN_name {p : Str} {n : Int} (hp : isName (tailOf p) = true) (h0 : 1 ≤ n) (h1 : n ≤ 99) (hc : cutP (stemP (tailOf p)) (20 - ((markP n).length : Int) - ((extP (tailOf p)).length : Int)) ≠ []) : isName (newN p n) = true := by
  unfold newN
  obtain ⟨k, hk⟩ := cutP_pre (stemP (tailOf p)) (20 - ((markP n).length : Int) - ((extP (tailOf p)).length : Int))
  have hr := cutP_room (stemP (tailOf p)) (20 - ((markP n).length : Int) - ((extP (tailOf p)).length : Int))
  have hse := stem_ext (tailOf p)
  have hml := @mark_len n
  obtain ⟨n1, n2, n3, n4, n5, n6, n7⟩ := (isName_iff _).1 hp
  generalize hC : cutP (stemP (tailOf p)) (20 - ((markP n).length : Int) - ((extP (tailOf p)).length : Int)) = c at *
  have hc0 : 0 < c.length := List.length_pos_iff.2 hc
  have hpre : ∀ x ∈ c, x ∈ tailOf p := by
    intro x hx
    rw [hk] at hx
    rw [← hse]
    exact List.mem_append_left _ (List.mem_of_mem_take hx)
  have h40 : (40 : UInt8) ∈ c ++ markP n ++ extP (tailOf p) := by simp [markP]
  refine (isName_iff _).2 ⟨by simp [hc], by simp; omega, fun h => by rw [h] at h40; simp at h40, fun h => by rw [h] at h40; simp at h40, ?_, ?_, ?_⟩
  · rw [List.append_assoc, at8_app_left hc0]
    have : at8 (tailOf p) 0 = at8 c 0 := by
      rw [← hse, at8_app_left (by rw [hk] at hc0; simp at hc0; omega), hk]
      rw [hk] at hc0
      simp at hc0
      simp [at8, List.getD_eq_getElem?_getD, List.getElem?_take, show 0 < k by omega]
    rw [← this]
    exact n5
  · by_cases he : extP (tailOf p) = []
    · rw [he, List.append_nil, markP, ← List.append_assoc, at8_last (by simp)]
      decide
    · rw [at8_last he]
      have : at8 (tailOf p) ((tailOf p).length - 1) = at8 (extP (tailOf p)) ((extP (tailOf p)).length - 1) := by
        conv => lhs; rw [← hse]
        exact at8_last he
      rw [← this]
      exact n6
  · intro x hx
    rcases List.mem_append.1 hx with hx | hx
    · rcases List.mem_append.1 hx with hx | hx
      · exact n7 x (hpre x hx)
      · exact mark_sign h0 h1 x hx
    · refine n7 x ?_
      rw [← hse]
      exact List.mem_append_right _ hx
theorem asideP_ok {p : Str} {n : Int} (h : (asideP p n).2 = 0) : checkP [p] = 0 ∧ 1 ≤ n ∧ n ≤ 99 ∧ cutP (stemP (tailOf p)) (20 - ((markP n).length : Int) - ((extP (tailOf p)).length : Int)) ≠ [] ∧
    (asideP p n).1 = (if headOf p = [] then newN p n else headOf p ++ 47 :: newN p n) ∧ greatB (if headOf p = [] then newN p n else headOf p ++ 47 :: newN p n) = false := by
  unfold asideP at h ⊢
  by_cases h1 : checkP [p] ≠ 0
  · rw [if_pos h1] at h
    exact absurd h h1
  · rw [if_neg h1] at h ⊢
    by_cases h2 : n < 1 ∨ 99 < n
    · rw [if_pos h2] at h
      cases h
    · rw [if_neg h2] at h ⊢
      dsimp only at h ⊢
      by_cases h3 : cutP (stemP (tailOf p)) (20 - ((markP n).length : Int) - ((extP (tailOf p)).length : Int)) = []
      · rw [if_pos h3] at h
        cases h
      · rw [if_neg h3] at h ⊢
        change (if greatB (if headOf p = [] then newN p n else headOf p ++ 47 :: newN p n) = true then (([], 2) : Str × Int) else (if headOf p = [] then newN p n else headOf p ++ 47 :: newN p n, 0)).2 = 0 at h
        refine ⟨by simpa using h1, by omega, by omega, h3, ?_⟩
        change (if greatB (if headOf p = [] then newN p n else headOf p ++ 47 :: newN p n) = true then (([], 2) : Str × Int) else (if headOf p = [] then newN p n else headOf p ++ 47 :: newN p n, 0)).1 = _ ∧ _
        by_cases h4 : greatB (if headOf p = [] then newN p n else headOf p ++ 47 :: newN p n) = true
        · rw [if_pos h4] at h
          cases h
        · rw [if_neg h4]
          exact ⟨rfl, by simpa using h4⟩
theorem asideP_no {p : Str} {n : Int} (h : (asideP p n).2 ≠ 0) : (asideP p n).1 = [] := by
  unfold asideP at h ⊢
  by_cases h1 : checkP [p] ≠ 0
  · rw [if_pos h1]
  · rw [if_neg h1] at h ⊢
    by_cases h2 : n < 1 ∨ 99 < n
    · rw [if_pos h2]
    · rw [if_neg h2] at h ⊢
      dsimp only at h ⊢
      by_cases h3 : cutP (stemP (tailOf p)) (20 - ((markP n).length : Int) - ((extP (tailOf p)).length : Int)) = []
      · rw [if_pos h3]
      · rw [if_neg h3] at h ⊢
        change (if greatB (if headOf p = [] then newN p n else headOf p ++ 47 :: newN p n) = true then (([], 2) : Str × Int) else (if headOf p = [] then newN p n else headOf p ++ 47 :: newN p n, 0)).2 ≠ 0 at h
        change (if greatB (if headOf p = [] then newN p n else headOf p ++ 47 :: newN p n) = true then (([], 2) : Str × Int) else (if headOf p = [] then newN p n else headOf p ++ 47 :: newN p n, 0)).1 = _
        by_cases h4 : greatB (if headOf p = [] then newN p n else headOf p ++ 47 :: newN p n) = true
        · rw [if_pos h4]
        · rw [if_neg h4] at h
          exact absurd rfl h
/-- WHAT GOES ASIDE PASSES, AND HAS THE SAME PARENT -/
theorem aside_back {p : Str} {n : Int} (h : (asideP p n).2 = 0) : checkP [(asideP p n).1] = 0 ∧ parentP (asideP p n).1 = headOf p := by
  obtain ⟨h1, h2, h3, h4, h5, h6⟩ := asideP_ok h
  obtain ⟨q1, q2, q3⟩ := parts h1
  have hn := newN_name q1 h2 h3 h4
  have h47 := isName_no47 hn
  rw [h5]
  have hc : checkP [if headOf p = [] then newN p n else headOf p ++ 47 :: newN p n] = 0 := by
    refine (checkP_iff _).2 ⟨fun x hx => ?_, h6⟩
    by_cases hh : headOf p = []
    · rw [if_pos hh, pcs_no _ h47] at hx
      obtain rfl : x = newN p n := by simpa using hx
      exact hn
    · rw [if_neg hh, pcs_app, pcs_no _ h47] at hx
      rcases List.mem_append.1 hx with hx | hx
      · exact ((checkP_iff _).1 (q3 hh)).1 x hx
      · obtain rfl : x = newN p n := by simpa using hx
        exact hn
  refine ⟨hc, ?_⟩
  rw [parentP, if_pos hc]
  split
  · rename_i hh
    rw [hh, headOf_no h47]
  · exact headOf_join h47
theorem itoa_inj {a b : Str} {n m : Int} (hn : 1 ≤ n ∧ n ≤ 99) (hm : 1 ≤ m ∧ m ≤ 99) (h : a ++ markP n = b ++ markP m) : n = m := by
  obtain ⟨k, rfl⟩ : ∃ m : Nat, n = m := ⟨n.toNat, by omega⟩
  obtain ⟨j, rfl⟩ : ∃ n : Nat, m = n := ⟨m.toNat, by omega⟩
  have key : ∀ k j : Fin 100, 1 ≤ k.val → 1 ≤ j.val → ((markP (k.val : Int)).reverse.take 3 = (markP (j.val : Int)).reverse.take 3 → k = j) := by decide +kernel
  have h2 := congrArg (fun l => l.reverse.take 3) h
  have ht : ∀ (x : Str) (i : Int), ((x ++ markP i).reverse).take 3 = (markP i).reverse.take 3 := by
    intro x i
    have := @mark_len i
    rw [List.reverse_append, List.take_append_of_le_length (by simpa using this)]
  simp only [ht] at h2
  have := key ⟨k, by omega⟩ ⟨j, by omega⟩ (by simp; omega) (by simp; omega) h2
  simp at this
  omega
theorem aside_len (p : Str) (n : Int) : (asideP p n).1.length ≤ 80 := by
  by_cases h : (asideP p n).2 = 0
  · have := ((checkP_iff _).1 (aside_back h).1).2
    rw [greatB_false] at this
    exact this.2
  · rw [asideP_no h]
    simp
theorem moved_len (p f t : Str) : (movedP p f t).1.length ≤ p.length + t.length := by
  unfold movedP
  split
  · simp
  · split
    · simp
    · split
      · simp
      · simp
        omega
theorem aside_asideQ {p : Str} {n : Int} (h : checkP [p] = 0) (h1 : 1 ≤ n) (h2 : n ≤ 99) : asideP p n = asideQ p n := by
  rw [asideP_Q, if_neg (by simpa using h), if_neg (by omega)]
/-- BY TWO NUMBERS TO TWO PLACES -/
theorem aside_apart {p : Str} {n m : Int} (h : (asideP p n).2 = 0) (k : (asideP p m).2 = 0) : (asideP p n).1 = (asideP p m).1 ↔ n = m := by
  constructor
  · intro e
    obtain ⟨h1, h2, h3, h4, h5, h6⟩ := asideP_ok h
    obtain ⟨k1, k2, k3, k4, k5, k6⟩ := asideP_ok k
    rw [h5, k5] at e
    have hx : newN p n = newN p m := by
      split at e
      · exact e
      · have := List.append_cancel_left e
        simpa using this
    unfold newN at hx
    exact itoa_inj ⟨h2, h3⟩ ⟨k2, k3⟩ (List.append_cancel_right hx)
  · rintro rfl
    rfl
end Go.VM.Tryd
end
section
set_option linter.unusedVariables false
set_option linter.unusedSimpArgs false
open Go Go.VM Go.Proofs Tether
namespace Go.VM.Tryd
set_option maxRecDepth 100000
theorem pathBegun_c : Meets Tryd.prog 14 [] (.bool true) [] := by
  refine meets_x (fn := Tryd.f14) Tryd.func14 rfl fb14 (by kernel_rfl) (Nat.le_of_ble_eq_true rfl) ?_
  have h1 : asideP [120, 47, 110, 111, 116, 101, 46, 116, 120, 116] 2 = ([120, 47, 110, 111, 116, 101, 32, 40, 50, 41, 46, 116, 120, 116], 0) := by decide +kernel
  have h2 : parentP [120, 47, 121] = [120] := by decide +kernel
  have h3 : checkP [[120, 47, 121]] = 0 := by decide +kernel
  refine cx_sr ?_
  simp only [go_sem]
  repeat first | (with_reducible refine side_d ?_ ?_; exact byD) | (with_reducible refine side_q ?_ ?_; exact byQ)
  refine cx_sr ?_
  simp only [go_sem]
  repeat first | (with_reducible refine side_d ?_ ?_; exact byD) | (with_reducible refine side_q ?_ ?_; exact byQ)
  refine cw_m (Aside_c [120, 47, 110, 111, 116, 101, 46, 116, 120, 116] 2 (by decide)) byW byT ?_
  simp only [go_sem]
  repeat first | (with_reducible refine side_d ?_ ?_; exact byD) | (with_reducible refine side_q ?_ ?_; exact byQ)
  refine cx_sr ?_
  simp only [go_sem]
  repeat first | (with_reducible refine side_d ?_ ?_; exact byD) | (with_reducible refine side_q ?_ ?_; exact byQ)
  refine cw_m (Parent_c [120, 47, 121] (by decide)) byW byT ?_
  simp only [go_sem]
  repeat first | (with_reducible refine side_d ?_ ?_; exact byD) | (with_reducible refine side_q ?_ ?_; exact byQ)
  refine cx_sr ?_
  simp only [go_sem]
  repeat first | (with_reducible refine side_d ?_ ?_; exact byD) | (with_reducible refine side_q ?_ ?_; exact byQ)
  intro t14 e14
  repeat first | (with_reducible refine side_d ?_ ?_; exact byD) | (with_reducible refine side_q ?_ ?_; exact byQ)
  intro t17 e17
  repeat first | (with_reducible refine side_d ?_ ?_; exact byD) | (with_reducible refine side_q ?_ ?_; exact byQ)
  intro t18 e18
  rw [bsel_and] at e18
  repeat first | (with_reducible refine side_d ?_ ?_; exact byD) | (with_reducible refine side_q ?_ ?_; exact byQ)
  intro t21 e21
  repeat first | (with_reducible refine side_d ?_ ?_; exact byD) | (with_reducible refine side_q ?_ ?_; exact byQ)
  intro t22 e22
  rw [bsel_and] at e22
  repeat first | (with_reducible refine side_d ?_ ?_; exact byD) | (with_reducible refine side_q ?_ ?_; exact byQ)
  intro t25 e25
  repeat first | (with_reducible refine side_d ?_ ?_; exact byD) | (with_reducible refine side_q ?_ ?_; exact byQ)
  intro t26 e26
  rw [bsel_and] at e26
  repeat first | (with_reducible refine side_d ?_ ?_; exact byD) | (with_reducible refine side_q ?_ ?_; exact byQ)
  subst e14 e17 e18 e21 e22 e25 e26
  refine cx_ret ?_
  simp only [go_sem]
  exact finw_bool (by simp [h1, h2, h3])
theorem PathChecks_c (p : Str) (hs : p.length ≤ 1048576) : Meets Tryd.prog 5 [.str p] (.bool true) [] := by
  refine meets_x (fn := Tryd.f5) Tryd.func5 rfl fb5 (by kernel_rfl) (Nat.le_of_ble_eq_true rfl) ?_
  refine cx_sr ?_
  simp only [go_sem]
  repeat first | (with_reducible refine side_d ?_ ?_; exact byD) | (with_reducible refine side_q ?_ ?_; exact byQ)
  refine cx_sr ?_
  simp only [go_sem]
  repeat first | (with_reducible refine side_d ?_ ?_; exact byD) | (with_reducible refine side_q ?_ ?_; exact byQ)
  refine cw_m (pathBegun_c) byW byT ?_
  simp only [go_sem]
  repeat first | (with_reducible refine side_d ?_ ?_; exact byD) | (with_reducible refine side_q ?_ ?_; exact byQ)
  refine ⟨_, fun hp => cw_m (Check_c p (by omega)) byW byT ⟨rfl, rfl⟩, ?_⟩
  simp only [go_sem]
  repeat first | (with_reducible refine side_d ?_ ?_; exact byD) | (with_reducible refine side_q ?_ ?_; exact byQ)
  refine ⟨_, fun hp => cw_m (CheckPath_c p (by omega)) byW byT ⟨rfl, rfl⟩, ?_⟩
  simp only [go_sem]
  repeat first | (with_reducible refine side_d ?_ ?_; exact byD) | (with_reducible refine side_q ?_ ?_; exact byQ)
  intro t9 e9
  repeat first | (with_reducible refine side_d ?_ ?_; exact byD) | (with_reducible refine side_q ?_ ?_; exact byQ)
  intro t10 e10
  rw [bsel_and] at e10
  repeat first | (with_reducible refine side_d ?_ ?_; exact byD) | (with_reducible refine side_q ?_ ?_; exact byQ)
  subst e9 e10
  refine cx_ret ?_
  simp only [go_sem]
  exact finw_bool (by simp)
theorem textIs_ok {g w : Str} {a b : Int} (h : a = b) (h2 : g = if b = 0 then w else []) : textIsP g a b w = true := by
  unfold textIsP
  rw [decide_eq_true h, decide_eq_true h2]
  rfl
theorem PathParts_c (p : Str) (hs : p.length ≤ 1048576) : Meets Tryd.prog 6 [.str p] (.bool true) [] := by
  refine meets_x (fn := Tryd.f6) Tryd.func6 rfl fb6 (by kernel_rfl) (Nat.le_of_ble_eq_true rfl) ?_
  refine cx_sr ?_
  simp only [go_sem]
  repeat first | (with_reducible refine side_d ?_ ?_; exact byD) | (with_reducible refine side_q ?_ ?_; exact byQ)
  refine cx_sr ?_
  simp only [go_sem]
  repeat first | (with_reducible refine side_d ?_ ?_; exact byD) | (with_reducible refine side_q ?_ ?_; exact byQ)
  refine cw_m (Parent_c p (by omega)) byW byT ?_
  simp only [go_sem]
  repeat first | (with_reducible refine side_d ?_ ?_; exact byD) | (with_reducible refine side_q ?_ ?_; exact byQ)
  refine cx_sr ?_
  simp only [go_sem]
  repeat first | (with_reducible refine side_d ?_ ?_; exact byD) | (with_reducible refine side_q ?_ ?_; exact byQ)
  refine cw_m (Name_c p (by omega)) byW byT ?_
  simp only [go_sem]
  repeat first | (with_reducible refine side_d ?_ ?_; exact byD) | (with_reducible refine side_q ?_ ?_; exact byQ)
  refine cx_sr ?_
  simp only [go_sem]
  repeat first | (with_reducible refine side_d ?_ ?_; exact byD) | (with_reducible refine side_q ?_ ?_; exact byQ)
  refine cw_m (CheckPath_c p (by omega)) byW byT ?_
  simp only [go_sem]
  repeat first | (with_reducible refine side_d ?_ ?_; exact byD) | (with_reducible refine side_q ?_ ?_; exact byQ)
  refine cx_seq ?_
  refine cx_sr ?_
  simp only [go_sem]
  repeat first | (with_reducible refine side_d ?_ ?_; exact byD) | (with_reducible refine side_q ?_ ?_; exact byQ)
  intro t23 e23
  repeat first | (with_reducible refine side_d ?_ ?_; exact byD) | (with_reducible refine side_q ?_ ?_; exact byQ)
  subst e23
  refine cx_if _ rfl (fun h23 => ?_) (fun h23 => ?_)
  ·
    (try simp only [go_sem] at h23)
    refine cx_region ?_
    simp only [go_sem]
    repeat first | (with_reducible refine side_d ?_ ?_; exact byD) | (with_reducible refine side_q ?_ ?_; exact byQ)
    refine cw_m (ParentOf2_c p (by omega)) byW byT ?_
    simp only [go_sem]
    repeat first | (with_reducible refine side_d ?_ ?_; exact byD) | (with_reducible refine side_q ?_ ?_; exact byQ)
    refine cw_m (LastOf2_c p (by omega)) byW byT ?_
    simp only [go_sem]
    repeat first | (with_reducible refine side_d ?_ ?_; exact byD) | (with_reducible refine side_q ?_ ?_; exact byQ)
    refine cx_sr ?_
    simp only [go_sem]
    repeat first | (with_reducible refine side_d ?_ ?_; exact byD) | (with_reducible refine side_q ?_ ?_; exact byQ)
    refine cw_m (pathBegun_c) byW byT ?_
    simp only [go_sem]
    repeat first | (with_reducible refine side_d ?_ ?_; exact byD) | (with_reducible refine side_q ?_ ?_; exact byQ)
    refine ⟨_, fun hp => cw_m (textIs_c _ _ _ _) byW byT ⟨rfl, rfl⟩, ?_⟩
    simp only [go_sem]
    repeat first | (with_reducible refine side_d ?_ ?_; exact byD) | (with_reducible refine side_q ?_ ?_; exact byQ)
    intro t35 e35
    rw [bsel_and] at e35
    repeat first | (with_reducible refine side_d ?_ ?_; exact byD) | (with_reducible refine side_q ?_ ?_; exact byQ)
    refine ⟨_, fun hp => cw_m (textIs_c _ _ _ _) byW byT ⟨rfl, rfl⟩, ?_⟩
    simp only [go_sem]
    repeat first | (with_reducible refine side_d ?_ ?_; exact byD) | (with_reducible refine side_q ?_ ?_; exact byQ)
    intro t42 e42
    rw [bsel_and] at e42
    repeat first | (with_reducible refine side_d ?_ ?_; exact byD) | (with_reducible refine side_q ?_ ?_; exact byQ)
    subst e35 e42
    refine cx_ret ?_
    simp only [go_sem]
    have h : checkP [p] = 0 := by simpa using h23
    exact finw_bool (by simp [textIsP, parentP, nameP, h])
  ·
    (try simp only [go_sem] at h23)
    refine cx_skip ?_
    (try simp only [go_sem])
    refine cx_sr ?_
    simp only [go_sem]
    repeat first | (with_reducible refine side_d ?_ ?_; exact byD) | (with_reducible refine side_q ?_ ?_; exact byQ)
    refine cw_m (pathBegun_c) byW byT ?_
    simp only [go_sem]
    repeat first | (with_reducible refine side_d ?_ ?_; exact byD) | (with_reducible refine side_q ?_ ?_; exact byQ)
    refine ⟨_, fun hp => cw_m (textIs_c _ _ _ _) byW byT ⟨rfl, rfl⟩, ?_⟩
    simp only [go_sem]
    repeat first | (with_reducible refine side_d ?_ ?_; exact byD) | (with_reducible refine side_q ?_ ?_; exact byQ)
    intro t35 e35
    rw [bsel_and] at e35
    repeat first | (with_reducible refine side_d ?_ ?_; exact byD) | (with_reducible refine side_q ?_ ?_; exact byQ)
    refine ⟨_, fun hp => cw_m (textIs_c _ _ _ _) byW byT ⟨rfl, rfl⟩, ?_⟩
    simp only [go_sem]
    repeat first | (with_reducible refine side_d ?_ ?_; exact byD) | (with_reducible refine side_q ?_ ?_; exact byQ)
    intro t42 e42
    rw [bsel_and] at e42
    repeat first | (with_reducible refine side_d ?_ ?_; exact byD) | (with_reducible refine side_q ?_ ?_; exact byQ)
    subst e35 e42
    refine cx_ret ?_
    simp only [go_sem]
    have h : ¬ checkP [p] = 0 := by simpa using h23
    exact finw_bool (by simp [textIsP, parentP, nameP, h])
theorem PathWithin_c (p q : Str) (hs : p.length ≤ 1048576) (hq : q.length ≤ 1048576) : Meets Tryd.prog 7 [.str p, .str q] (.bool true) [] := by
  refine meets_x (fn := Tryd.f7) Tryd.func7 rfl fb7 (by kernel_rfl) (Nat.le_of_ble_eq_true rfl) ?_
  refine cx_sr ?_
  simp only [go_sem]
  repeat first | (with_reducible refine side_d ?_ ?_; exact byD) | (with_reducible refine side_q ?_ ?_; exact byQ)
  refine cx_sr ?_
  simp only [go_sem]
  repeat first | (with_reducible refine side_d ?_ ?_; exact byD) | (with_reducible refine side_q ?_ ?_; exact byQ)
  refine cw_m (Within_c p q (by omega) (by omega)) byW byT ?_
  simp only [go_sem]
  repeat first | (with_reducible refine side_d ?_ ?_; exact byD) | (with_reducible refine side_q ?_ ?_; exact byQ)
  refine cx_sr ?_
  simp only [go_sem]
  repeat first | (with_reducible refine side_d ?_ ?_; exact byD) | (with_reducible refine side_q ?_ ?_; exact byQ)
  refine cw_v 2 (CheckPaths_c [p, q] (by simp) (by simp; omega)) byV byC rfl ?_
  simp only [go_sem]
  repeat first | (with_reducible refine side_d ?_ ?_; exact byD) | (with_reducible refine side_q ?_ ?_; exact byQ)
  refine cx_sr ?_
  simp only [go_sem]
  repeat first | (with_reducible refine side_d ?_ ?_; exact byD) | (with_reducible refine side_q ?_ ?_; exact byQ)
  refine cw_m (pathBegun_c) byW byT ?_
  simp only [go_sem]
  repeat first | (with_reducible refine side_d ?_ ?_; exact byD) | (with_reducible refine side_q ?_ ?_; exact byQ)
  intro t22 e22
  repeat first | (with_reducible refine side_d ?_ ?_; exact byD) | (with_reducible refine side_q ?_ ?_; exact byQ)
  intro t23 e23
  rw [bsel_and] at e23
  repeat first | (with_reducible refine side_d ?_ ?_; exact byD) | (with_reducible refine side_q ?_ ?_; exact byQ)
  intro t27 e27
  repeat first | (with_reducible refine side_d ?_ ?_; exact byD) | (with_reducible refine side_q ?_ ?_; exact byQ)
  refine ⟨_, fun hp => cw_m (IsIn_c p q (by omega) (by omega)) byW byT ⟨rfl, rfl⟩, ?_⟩
  simp only [go_sem]
  repeat first | (with_reducible refine side_d ?_ ?_; exact byD) | (with_reducible refine side_q ?_ ?_; exact byQ)
  intro t32 e32
  rw [bsel_and] at e32
  repeat first | (with_reducible refine side_d ?_ ?_; exact byD) | (with_reducible refine side_q ?_ ?_; exact byQ)
  intro t33 e33
  repeat first | (with_reducible refine side_d ?_ ?_; exact byD) | (with_reducible refine side_q ?_ ?_; exact byQ)
  intro t34 e34
  rw [bsel_and] at e34
  repeat first | (with_reducible refine side_d ?_ ?_; exact byD) | (with_reducible refine side_q ?_ ?_; exact byQ)
  subst e22 e23 e27 e32 e33 e34
  refine cx_ret ?_
  simp only [go_sem]
  exact finw_bool (by simp [withinP, isIn_pcs])
end Go.VM.Tryd
end
section
set_option linter.unusedVariables false
set_option linter.unusedSimpArgs false
open Go Go.VM Go.Proofs Tether
namespace Go.VM.Tryd
set_option maxRecDepth 100000
theorem PathJoins_c (p q : Str) (hs : p.length ≤ 1048576) (hq : q.length ≤ 1048576) : Meets Tryd.prog 8 [.str p, .str q] (.bool true) [] := by
  refine meets_x (fn := Tryd.f8) Tryd.func8 rfl fb8 (by kernel_rfl) (Nat.le_of_ble_eq_true rfl) ?_
  have hjl : (if p = [] then q else p ++ 47 :: q).length ≤ p.length + q.length + 1 := by
    split
    · omega
    · simp; omega
  refine cx_sr ?_
  simp only [go_sem]
  repeat first | (with_reducible refine side_d ?_ ?_; exact byD) | (with_reducible refine side_q ?_ ?_; exact byQ)
  refine cx_sr ?_
  simp only [go_sem]
  repeat first | (with_reducible refine side_d ?_ ?_; exact byD) | (with_reducible refine side_q ?_ ?_; exact byQ)
  refine cw_m (Join_c p q (by omega)) byW byT ?_
  simp only [go_sem]
  repeat first | (with_reducible refine side_d ?_ ?_; exact byD) | (with_reducible refine side_q ?_ ?_; exact byQ)
  refine cx_sr ?_
  simp only [go_sem]
  repeat first | (with_reducible refine side_d ?_ ?_; exact byD) | (with_reducible refine side_q ?_ ?_; exact byQ)
  refine cx_seq ?_
  refine cx_sr ?_
  simp only [go_sem]
  repeat first | (with_reducible refine side_d ?_ ?_; exact byD) | (with_reducible refine side_q ?_ ?_; exact byQ)
  intro t16 e16
  repeat first | (with_reducible refine side_d ?_ ?_; exact byD) | (with_reducible refine side_q ?_ ?_; exact byQ)
  subst e16
  refine cx_if _ rfl (fun h16 => ?_) (fun h16 => ?_)
  ·
    (try simp only [go_sem] at h16)
    refine cx_region ?_
    simp only [go_sem]
    repeat first | (with_reducible refine side_d ?_ ?_; exact byD) | (with_reducible refine side_q ?_ ?_; exact byQ)
    refine cw_m (CheckPath_c p (by omega)) byW byT ?_
    simp only [go_sem]
    repeat first | (with_reducible refine side_d ?_ ?_; exact byD) | (with_reducible refine side_q ?_ ?_; exact byQ)
    refine cx_seq ?_
    refine cx_sr ?_
    simp only [go_sem]
    repeat first | (with_reducible refine side_d ?_ ?_; exact byD) | (with_reducible refine side_q ?_ ?_; exact byQ)
    intro t20 e20
    repeat first | (with_reducible refine side_d ?_ ?_; exact byD) | (with_reducible refine side_q ?_ ?_; exact byQ)
    refine ⟨_, fun hp => cw_m (RIsName_c q (by omega)) byW byT ⟨rfl, rfl⟩, ?_⟩
    simp only [go_sem]
    repeat first | (with_reducible refine side_d ?_ ?_; exact byD) | (with_reducible refine side_q ?_ ?_; exact byQ)
    intro t24 e24
    repeat first | (with_reducible refine side_d ?_ ?_; exact byD) | (with_reducible refine side_q ?_ ?_; exact byQ)
    intro t25 e25
    rw [bsel_and] at e25
    repeat first | (with_reducible refine side_d ?_ ?_; exact byD) | (with_reducible refine side_q ?_ ?_; exact byQ)
    subst e20 e24 e25
    refine cx_if _ rfl (fun h25 => ?_) (fun h25 => ?_)
    ·
      (try simp only [go_sem] at h25)
      refine cx_region ?_
      simp only [go_sem]
      repeat first | (with_reducible refine side_d ?_ ?_; exact byD) | (with_reducible refine side_q ?_ ?_; exact byQ)
      refine cx_seq ?_
      refine cx_sr ?_
      simp only [go_sem]
      repeat first | (with_reducible refine side_d ?_ ?_; exact byD) | (with_reducible refine side_q ?_ ?_; exact byQ)
      intro t27 e27
      repeat first | (with_reducible refine side_d ?_ ?_; exact byD) | (with_reducible refine side_q ?_ ?_; exact byQ)
      subst e27
      refine cx_if _ rfl (fun h27 => no_if h27) (fun h27 => ?_)
      refine cx_skip ?_
      (try simp only [go_sem])
      refine cx_sr ?_
      simp only [go_sem]
      repeat first | (with_reducible refine side_d ?_ ?_; exact byD) | (with_reducible refine side_q ?_ ?_; exact byQ)
      refine cw_m (pathBegun_c) byW byT ?_
      simp only [go_sem]
      repeat first | (with_reducible refine side_d ?_ ?_; exact byD) | (with_reducible refine side_q ?_ ?_; exact byQ)
      refine ⟨_, fun hp => cw_m (textIs_c _ _ _ _) byW byT ⟨rfl, rfl⟩, ?_⟩
      simp only [go_sem]
      repeat first | (with_reducible refine side_d ?_ ?_; exact byD) | (with_reducible refine side_q ?_ ?_; exact byQ)
      intro t40 e40
      rw [bsel_and] at e40
      repeat first | (with_reducible refine side_d ?_ ?_; exact byD) | (with_reducible refine side_q ?_ ?_; exact byQ)
      subst e40
      refine cx_ret ?_
      simp only [go_sem]
      refine finw_bool ?_
      simp_all [textIsP, joinP]
    ·
      (try simp only [go_sem] at h25)
      refine cx_skip ?_
      (try simp only [go_sem])
      refine cx_seq ?_
      refine cx_sr ?_
      simp only [go_sem]
      repeat first | (with_reducible refine side_d ?_ ?_; exact byD) | (with_reducible refine side_q ?_ ?_; exact byQ)
      intro t27 e27
      repeat first | (with_reducible refine side_d ?_ ?_; exact byD) | (with_reducible refine side_q ?_ ?_; exact byQ)
      subst e27
      refine cx_if _ rfl (fun h27 => ?_) (fun h27 => ?_)
      ·
        (try simp only [go_sem] at h27)
        refine cx_sr ?_
        simp only [go_sem]
        repeat first | (with_reducible refine side_d ?_ ?_; exact byD) | (with_reducible refine side_q ?_ ?_; exact byQ)
        refine cw_m (Joined_c p q (by omega)) byW byT ?_
        simp only [go_sem]
        repeat first | (with_reducible refine side_d ?_ ?_; exact byD) | (with_reducible refine side_q ?_ ?_; exact byQ)
        refine cx_sr ?_
        simp only [go_sem]
        repeat first | (with_reducible refine side_d ?_ ?_; exact byD) | (with_reducible refine side_q ?_ ?_; exact byQ)
        refine cw_m (TooGreat_c (if p = [] then q else p ++ 47 :: q) (by omega)) byW byT ?_
        simp only [go_sem]
        repeat first | (with_reducible refine side_d ?_ ?_; exact byD) | (with_reducible refine side_q ?_ ?_; exact byQ)
        refine cx_if _ rfl (fun h32 => ?_) (fun h32 => ?_)
        ·
          (try simp only [go_sem] at h32)
          refine cx_region ?_
          simp only [go_sem]
          repeat first | (with_reducible refine side_d ?_ ?_; exact byD) | (with_reducible refine side_q ?_ ?_; exact byQ)
          refine cx_sr ?_
          simp only [go_sem]
          repeat first | (with_reducible refine side_d ?_ ?_; exact byD) | (with_reducible refine side_q ?_ ?_; exact byQ)
          refine cw_m (pathBegun_c) byW byT ?_
          simp only [go_sem]
          repeat first | (with_reducible refine side_d ?_ ?_; exact byD) | (with_reducible refine side_q ?_ ?_; exact byQ)
          refine ⟨_, fun hp => cw_m (textIs_c _ _ _ _) byW byT ⟨rfl, rfl⟩, ?_⟩
          simp only [go_sem]
          repeat first | (with_reducible refine side_d ?_ ?_; exact byD) | (with_reducible refine side_q ?_ ?_; exact byQ)
          intro t40 e40
          rw [bsel_and] at e40
          repeat first | (with_reducible refine side_d ?_ ?_; exact byD) | (with_reducible refine side_q ?_ ?_; exact byQ)
          subst e40
          refine cx_ret ?_
          simp only [go_sem]
          refine finw_bool ?_
          simp_all [textIsP, joinP]
        ·
          (try simp only [go_sem] at h32)
          refine cx_skip ?_
          (try simp only [go_sem])
          refine cx_sr ?_
          simp only [go_sem]
          repeat first | (with_reducible refine side_d ?_ ?_; exact byD) | (with_reducible refine side_q ?_ ?_; exact byQ)
          refine cw_m (pathBegun_c) byW byT ?_
          simp only [go_sem]
          repeat first | (with_reducible refine side_d ?_ ?_; exact byD) | (with_reducible refine side_q ?_ ?_; exact byQ)
          refine ⟨_, fun hp => cw_m (textIs_c _ _ _ _) byW byT ⟨rfl, rfl⟩, ?_⟩
          simp only [go_sem]
          repeat first | (with_reducible refine side_d ?_ ?_; exact byD) | (with_reducible refine side_q ?_ ?_; exact byQ)
          intro t40 e40
          rw [bsel_and] at e40
          repeat first | (with_reducible refine side_d ?_ ?_; exact byD) | (with_reducible refine side_q ?_ ?_; exact byQ)
          subst e40
          refine cx_ret ?_
          simp only [go_sem]
          refine finw_bool ?_
          simp_all [textIsP, joinP]
      ·
        (try simp only [go_sem] at h27)
        refine cx_skip ?_
        (try simp only [go_sem])
        refine cx_sr ?_
        simp only [go_sem]
        repeat first | (with_reducible refine side_d ?_ ?_; exact byD) | (with_reducible refine side_q ?_ ?_; exact byQ)
        refine cw_m (pathBegun_c) byW byT ?_
        simp only [go_sem]
        repeat first | (with_reducible refine side_d ?_ ?_; exact byD) | (with_reducible refine side_q ?_ ?_; exact byQ)
        refine ⟨_, fun hp => cw_m (textIs_c _ _ _ _) byW byT ⟨rfl, rfl⟩, ?_⟩
        simp only [go_sem]
        repeat first | (with_reducible refine side_d ?_ ?_; exact byD) | (with_reducible refine side_q ?_ ?_; exact byQ)
        intro t40 e40
        rw [bsel_and] at e40
        repeat first | (with_reducible refine side_d ?_ ?_; exact byD) | (with_reducible refine side_q ?_ ?_; exact byQ)
        subst e40
        refine cx_ret ?_
        simp only [go_sem]
        refine finw_bool ?_
        simp_all [textIsP, joinP]
  ·
    (try simp only [go_sem] at h16)
    refine cx_skip ?_
    (try simp only [go_sem])
    refine cx_seq ?_
    refine cx_sr ?_
    simp only [go_sem]
    repeat first | (with_reducible refine side_d ?_ ?_; exact byD) | (with_reducible refine side_q ?_ ?_; exact byQ)
    intro t20 e20
    repeat first | (with_reducible refine side_d ?_ ?_; exact byD) | (with_reducible refine side_q ?_ ?_; exact byQ)
    refine ⟨_, fun hp => cw_m (RIsName_c q (by omega)) byW byT ⟨rfl, rfl⟩, ?_⟩
    simp only [go_sem]
    repeat first | (with_reducible refine side_d ?_ ?_; exact byD) | (with_reducible refine side_q ?_ ?_; exact byQ)
    intro t24 e24
    repeat first | (with_reducible refine side_d ?_ ?_; exact byD) | (with_reducible refine side_q ?_ ?_; exact byQ)
    intro t25 e25
    rw [bsel_and] at e25
    repeat first | (with_reducible refine side_d ?_ ?_; exact byD) | (with_reducible refine side_q ?_ ?_; exact byQ)
    subst e20 e24 e25
    refine cx_if _ rfl (fun h25 => ?_) (fun h25 => ?_)
    ·
      (try simp only [go_sem] at h25)
      refine cx_region ?_
      simp only [go_sem]
      repeat first | (with_reducible refine side_d ?_ ?_; exact byD) | (with_reducible refine side_q ?_ ?_; exact byQ)
      refine cx_seq ?_
      refine cx_sr ?_
      simp only [go_sem]
      repeat first | (with_reducible refine side_d ?_ ?_; exact byD) | (with_reducible refine side_q ?_ ?_; exact byQ)
      intro t27 e27
      repeat first | (with_reducible refine side_d ?_ ?_; exact byD) | (with_reducible refine side_q ?_ ?_; exact byQ)
      subst e27
      refine cx_if _ rfl (fun h27 => no_if h27) (fun h27 => ?_)
      refine cx_skip ?_
      (try simp only [go_sem])
      refine cx_sr ?_
      simp only [go_sem]
      repeat first | (with_reducible refine side_d ?_ ?_; exact byD) | (with_reducible refine side_q ?_ ?_; exact byQ)
      refine cw_m (pathBegun_c) byW byT ?_
      simp only [go_sem]
      repeat first | (with_reducible refine side_d ?_ ?_; exact byD) | (with_reducible refine side_q ?_ ?_; exact byQ)
      refine ⟨_, fun hp => cw_m (textIs_c _ _ _ _) byW byT ⟨rfl, rfl⟩, ?_⟩
      simp only [go_sem]
      repeat first | (with_reducible refine side_d ?_ ?_; exact byD) | (with_reducible refine side_q ?_ ?_; exact byQ)
      intro t40 e40
      rw [bsel_and] at e40
      repeat first | (with_reducible refine side_d ?_ ?_; exact byD) | (with_reducible refine side_q ?_ ?_; exact byQ)
      subst e40
      refine cx_ret ?_
      simp only [go_sem]
      refine finw_bool ?_
      simp_all [textIsP, joinP]
    ·
      (try simp only [go_sem] at h25)
      refine cx_skip ?_
      (try simp only [go_sem])
      refine cx_seq ?_
      refine cx_sr ?_
      simp only [go_sem]
      repeat first | (with_reducible refine side_d ?_ ?_; exact byD) | (with_reducible refine side_q ?_ ?_; exact byQ)
      intro t27 e27
      repeat first | (with_reducible refine side_d ?_ ?_; exact byD) | (with_reducible refine side_q ?_ ?_; exact byQ)
      subst e27
      refine cx_if _ rfl (fun h27 => ?_) (fun h27 => no_if h27)
      refine cx_sr ?_
      simp only [go_sem]
      repeat first | (with_reducible refine side_d ?_ ?_; exact byD) | (with_reducible refine side_q ?_ ?_; exact byQ)
      refine cw_m (Joined_c p q (by omega)) byW byT ?_
      simp only [go_sem]
      repeat first | (with_reducible refine side_d ?_ ?_; exact byD) | (with_reducible refine side_q ?_ ?_; exact byQ)
      refine cx_sr ?_
      simp only [go_sem]
      repeat first | (with_reducible refine side_d ?_ ?_; exact byD) | (with_reducible refine side_q ?_ ?_; exact byQ)
      refine cw_m (TooGreat_c (if p = [] then q else p ++ 47 :: q) (by omega)) byW byT ?_
      simp only [go_sem]
      repeat first | (with_reducible refine side_d ?_ ?_; exact byD) | (with_reducible refine side_q ?_ ?_; exact byQ)
      refine cx_if _ rfl (fun h32 => ?_) (fun h32 => ?_)
      ·
        (try simp only [go_sem] at h32)
        refine cx_region ?_
        simp only [go_sem]
        repeat first | (with_reducible refine side_d ?_ ?_; exact byD) | (with_reducible refine side_q ?_ ?_; exact byQ)
        refine cx_sr ?_
        simp only [go_sem]
        repeat first | (with_reducible refine side_d ?_ ?_; exact byD) | (with_reducible refine side_q ?_ ?_; exact byQ)
        refine cw_m (pathBegun_c) byW byT ?_
        simp only [go_sem]
        repeat first | (with_reducible refine side_d ?_ ?_; exact byD) | (with_reducible refine side_q ?_ ?_; exact byQ)
        refine ⟨_, fun hp => cw_m (textIs_c _ _ _ _) byW byT ⟨rfl, rfl⟩, ?_⟩
        simp only [go_sem]
        repeat first | (with_reducible refine side_d ?_ ?_; exact byD) | (with_reducible refine side_q ?_ ?_; exact byQ)
        intro t40 e40
        rw [bsel_and] at e40
        repeat first | (with_reducible refine side_d ?_ ?_; exact byD) | (with_reducible refine side_q ?_ ?_; exact byQ)
        subst e40
        refine cx_ret ?_
        simp only [go_sem]
        refine finw_bool ?_
        simp_all [textIsP, joinP]
      ·
        (try simp only [go_sem] at h32)
        refine cx_skip ?_
        (try simp only [go_sem])
        refine cx_sr ?_
        simp only [go_sem]
        repeat first | (with_reducible refine side_d ?_ ?_; exact byD) | (with_reducible refine side_q ?_ ?_; exact byQ)
        refine cw_m (pathBegun_c) byW byT ?_
        simp only [go_sem]
        repeat first | (with_reducible refine side_d ?_ ?_; exact byD) | (with_reducible refine side_q ?_ ?_; exact byQ)
        refine ⟨_, fun hp => cw_m (textIs_c _ _ _ _) byW byT ⟨rfl, rfl⟩, ?_⟩
        simp only [go_sem]
        repeat first | (with_reducible refine side_d ?_ ?_; exact byD) | (with_reducible refine side_q ?_ ?_; exact byQ)
        intro t40 e40
        rw [bsel_and] at e40
        repeat first | (with_reducible refine side_d ?_ ?_; exact byD) | (with_reducible refine side_q ?_ ?_; exact byQ)
        subst e40
        refine cx_ret ?_
        simp only [go_sem]
        refine finw_bool ?_
        simp_all [textIsP, joinP]
end Go.VM.Tryd
end
section
set_option linter.unusedVariables false
set_option linter.unusedSimpArgs false
open Go Go.VM Go.Proofs Tether
namespace Go.VM.Tryd
set_option maxRecDepth 100000
theorem PathOfM_c {p f : Str} (t : Str) (h : isIn p f = true) (hp : p.length ≤ 1048576) (ht : t.length ≤ 1048576) : Meets Tryd.prog 29 [strsV' (pcs t ++ (pcs p).drop (pcs f).length)] (.str (t ++ p.drop f.length)) [] := by
  have hm := moved_pcs t h
  have hl : (t ++ p.drop f.length).length ≤ 2097152 := by simp; omega
  have hpl : (pcs (t ++ p.drop f.length)).length ≤ (t ++ p.drop f.length).length + 1 := by rw [pcs_cnt]; have := List.count_le_length (a := (47 : UInt8)) (l := (t ++ p.drop f.length)); omega
  have := PathOf_c (pcs t ++ (pcs p).drop (pcs f).length) (by rw [hm]; omega) (fun i hi => by
    rw [hm] at hi ⊢
    have := pathN_le _ i hi
    omega)
  rw [hm, pathN_pcs] at this
  rwa [hm]
theorem PathMoves_c (p f t : Str) (hs : p.length ≤ 1048576) (hf : f.length ≤ 1048576) (ht : t.length ≤ 1048576) : Meets Tryd.prog 9 [.str p, .str f, .str t] (.bool true) [] := by
  refine meets_x (fn := Tryd.f9) Tryd.func9 rfl fb9 (by kernel_rfl) (Nat.le_of_ble_eq_true rfl) ?_
  have hpl : (pcs p).length ≤ p.length + 1 := by rw [pcs_cnt]; have := List.count_le_length (a := (47 : UInt8)) (l := p); omega
  have htl : (pcs t).length ≤ t.length + 1 := by rw [pcs_cnt]; have := List.count_le_length (a := (47 : UInt8)) (l := t); omega
  refine cx_sr ?_
  simp only [go_sem]
  repeat first | (with_reducible refine side_d ?_ ?_; exact byD) | (with_reducible refine side_q ?_ ?_; exact byQ)
  refine cx_sr ?_
  simp only [go_sem]
  repeat first | (with_reducible refine side_d ?_ ?_; exact byD) | (with_reducible refine side_q ?_ ?_; exact byQ)
  refine cw_m (Moved_c p f t (by omega) (by omega)) byW byT ?_
  simp only [go_sem]
  repeat first | (with_reducible refine side_d ?_ ?_; exact byD) | (with_reducible refine side_q ?_ ?_; exact byQ)
  refine cx_sr ?_
  simp only [go_sem]
  repeat first | (with_reducible refine side_d ?_ ?_; exact byD) | (with_reducible refine side_q ?_ ?_; exact byQ)
  refine cw_v 2 (CheckPaths_c [p, f, t] (by simp) (by simp; omega)) byV byC rfl ?_
  simp only [go_sem]
  repeat first | (with_reducible refine side_d ?_ ?_; exact byD) | (with_reducible refine side_q ?_ ?_; exact byQ)
  refine cx_seq ?_
  refine cx_sr ?_
  simp only [go_sem]
  repeat first | (with_reducible refine side_d ?_ ?_; exact byD) | (with_reducible refine side_q ?_ ?_; exact byQ)
  intro t24 e24
  repeat first | (with_reducible refine side_d ?_ ?_; exact byD) | (with_reducible refine side_q ?_ ?_; exact byQ)
  refine ⟨_, fun hp => cw_m (IsIn_c p f (by omega) (by omega)) byW byT ⟨rfl, rfl⟩, ?_⟩
  simp only [go_sem]
  repeat first | (with_reducible refine side_d ?_ ?_; exact byD) | (with_reducible refine side_q ?_ ?_; exact byQ)
  intro t29 e29
  repeat first | (with_reducible refine side_d ?_ ?_; exact byD) | (with_reducible refine side_q ?_ ?_; exact byQ)
  intro t30 e30
  rw [bsel_and] at e30
  repeat first | (with_reducible refine side_d ?_ ?_; exact byD) | (with_reducible refine side_q ?_ ?_; exact byQ)
  subst e24 e29 e30
  refine cx_if _ rfl (fun h30 => ?_) (fun h30 => ?_)
  ·
    (try simp only [go_sem] at h30)
    refine cx_region ?_
    simp only [go_sem]
    repeat first | (with_reducible refine side_d ?_ ?_; exact byD) | (with_reducible refine side_q ?_ ?_; exact byQ)
    refine cx_seq ?_
    refine cx_sr ?_
    simp only [go_sem]
    repeat first | (with_reducible refine side_d ?_ ?_; exact byD) | (with_reducible refine side_q ?_ ?_; exact byQ)
    intro t32 e32
    repeat first | (with_reducible refine side_d ?_ ?_; exact byD) | (with_reducible refine side_q ?_ ?_; exact byQ)
    subst e32
    refine cx_if _ rfl (fun h32 => no_if h32) (fun h32 => ?_)
    refine cx_skip ?_
    (try simp only [go_sem])
    refine cx_sr ?_
    simp only [go_sem]
    repeat first | (with_reducible refine side_d ?_ ?_; exact byD) | (with_reducible refine side_q ?_ ?_; exact byQ)
    refine cw_m (pathBegun_c) byW byT ?_
    simp only [go_sem]
    repeat first | (with_reducible refine side_d ?_ ?_; exact byD) | (with_reducible refine side_q ?_ ?_; exact byQ)
    refine ⟨_, fun hp => cw_m (textIs_c _ _ _ _) byW byT ⟨rfl, rfl⟩, ?_⟩
    simp only [go_sem]
    repeat first | (with_reducible refine side_d ?_ ?_; exact byD) | (with_reducible refine side_q ?_ ?_; exact byQ)
    intro t54 e54
    rw [bsel_and] at e54
    repeat first | (with_reducible refine side_d ?_ ?_; exact byD) | (with_reducible refine side_q ?_ ?_; exact byQ)
    subst e54
    refine cx_ret ?_
    simp only [go_sem]
    refine finw_bool ?_
    have := isIn_pcs p f
    simp_all [textIsP, movedP]
  ·
    (try simp only [go_sem] at h30)
    refine cx_skip ?_
    (try simp only [go_sem])
    refine cx_seq ?_
    refine cx_sr ?_
    simp only [go_sem]
    repeat first | (with_reducible refine side_d ?_ ?_; exact byD) | (with_reducible refine side_q ?_ ?_; exact byQ)
    intro t32 e32
    repeat first | (with_reducible refine side_d ?_ ?_; exact byD) | (with_reducible refine side_q ?_ ?_; exact byQ)
    subst e32
    refine cx_if _ rfl (fun h32 => ?_) (fun h32 => ?_)
    ·
      (try simp only [go_sem] at h32)
      have hin : inP (pcs p) (pcs f) = true := by simpa [h32] using h30
      have hi : isIn p f = true := by rw [isIn_pcs]; exact hin
      have hfl : (pcs f).length ≤ (pcs p).length := by simp [inP] at hin; omega
      refine cx_sr ?_
      simp only [go_sem]
      repeat first | (with_reducible refine side_d ?_ ?_; exact byD) | (with_reducible refine side_q ?_ ?_; exact byQ)
      refine cw_m (NamesOf_c t (by omega)) byW byT ?_
      simp only [go_sem]
      repeat first | (with_reducible refine side_d ?_ ?_; exact byD) | (with_reducible refine side_q ?_ ?_; exact byQ)
      refine cw_m (NamesOf_c p (by omega)) byW byT ?_
      simp only [go_sem]
      repeat first | (with_reducible refine side_d ?_ ?_; exact byD) | (with_reducible refine side_q ?_ ?_; exact byQ)
      refine cw_m (NamesOf_c f (by omega)) byW byT ?_
      simp only [go_sem]
      repeat ((with_reducible first | refine side_d ?_ ?_ | refine side_q ?_ ?_); focus (first | exact byD | exact byQ | ((refine Sd.mk ?_; omega))))
      repeat first | (with_reducible refine side_d ?_ ?_; exact byD) | (with_reducible refine side_q ?_ ?_; exact byQ)
      refine cw_v 2 (PathOfM_c t hi hs ht) byV byC rfl ?_
      simp only [go_sem]
      repeat first | (with_reducible refine side_d ?_ ?_; exact byD) | (with_reducible refine side_q ?_ ?_; exact byQ)
      refine cx_sr ?_
      simp only [go_sem]
      repeat first | (with_reducible refine side_d ?_ ?_; exact byD) | (with_reducible refine side_q ?_ ?_; exact byQ)
      refine cw_m (TooGreat_c (t ++ p.drop f.length) (by simp; omega)) byW byT ?_
      simp only [go_sem]
      repeat first | (with_reducible refine side_d ?_ ?_; exact byD) | (with_reducible refine side_q ?_ ?_; exact byQ)
      refine cx_if _ rfl (fun h46 => ?_) (fun h46 => ?_)
      ·
        (try simp only [go_sem] at h46)
        refine cx_region ?_
        simp only [go_sem]
        repeat first | (with_reducible refine side_d ?_ ?_; exact byD) | (with_reducible refine side_q ?_ ?_; exact byQ)
        refine cx_sr ?_
        simp only [go_sem]
        repeat first | (with_reducible refine side_d ?_ ?_; exact byD) | (with_reducible refine side_q ?_ ?_; exact byQ)
        refine cw_m (pathBegun_c) byW byT ?_
        simp only [go_sem]
        repeat first | (with_reducible refine side_d ?_ ?_; exact byD) | (with_reducible refine side_q ?_ ?_; exact byQ)
        refine ⟨_, fun hp => cw_m (textIs_c _ _ _ _) byW byT ⟨rfl, rfl⟩, ?_⟩
        simp only [go_sem]
        repeat first | (with_reducible refine side_d ?_ ?_; exact byD) | (with_reducible refine side_q ?_ ?_; exact byQ)
        intro t54 e54
        rw [bsel_and] at e54
        repeat first | (with_reducible refine side_d ?_ ?_; exact byD) | (with_reducible refine side_q ?_ ?_; exact byQ)
        subst e54
        refine cx_ret ?_
        simp only [go_sem]
        refine finw_bool ?_
        have := isIn_pcs p f
        simp_all [textIsP, movedP]
      ·
        (try simp only [go_sem] at h46)
        refine cx_skip ?_
        (try simp only [go_sem])
        refine cx_sr ?_
        simp only [go_sem]
        repeat first | (with_reducible refine side_d ?_ ?_; exact byD) | (with_reducible refine side_q ?_ ?_; exact byQ)
        refine cw_m (pathBegun_c) byW byT ?_
        simp only [go_sem]
        repeat first | (with_reducible refine side_d ?_ ?_; exact byD) | (with_reducible refine side_q ?_ ?_; exact byQ)
        refine ⟨_, fun hp => cw_m (textIs_c _ _ _ _) byW byT ⟨rfl, rfl⟩, ?_⟩
        simp only [go_sem]
        repeat first | (with_reducible refine side_d ?_ ?_; exact byD) | (with_reducible refine side_q ?_ ?_; exact byQ)
        intro t54 e54
        rw [bsel_and] at e54
        repeat first | (with_reducible refine side_d ?_ ?_; exact byD) | (with_reducible refine side_q ?_ ?_; exact byQ)
        subst e54
        refine cx_ret ?_
        simp only [go_sem]
        refine finw_bool ?_
        have := isIn_pcs p f
        simp_all [textIsP, movedP]
    ·
      (try simp only [go_sem] at h32)
      refine cx_skip ?_
      (try simp only [go_sem])
      refine cx_sr ?_
      simp only [go_sem]
      repeat first | (with_reducible refine side_d ?_ ?_; exact byD) | (with_reducible refine side_q ?_ ?_; exact byQ)
      refine cw_m (pathBegun_c) byW byT ?_
      simp only [go_sem]
      repeat first | (with_reducible refine side_d ?_ ?_; exact byD) | (with_reducible refine side_q ?_ ?_; exact byQ)
      refine ⟨_, fun hp => cw_m (textIs_c _ _ _ _) byW byT ⟨rfl, rfl⟩, ?_⟩
      simp only [go_sem]
      repeat first | (with_reducible refine side_d ?_ ?_; exact byD) | (with_reducible refine side_q ?_ ?_; exact byQ)
      intro t54 e54
      rw [bsel_and] at e54
      repeat first | (with_reducible refine side_d ?_ ?_; exact byD) | (with_reducible refine side_q ?_ ?_; exact byQ)
      subst e54
      refine cx_ret ?_
      simp only [go_sem]
      refine finw_bool ?_
      have := isIn_pcs p f
      simp_all [textIsP, movedP]
end Go.VM.Tryd
end
section
set_option linter.unusedVariables false
set_option linter.unusedSimpArgs false
open Go Go.VM Go.Proofs Tether
namespace Go.VM.Tryd
set_option maxRecDepth 100000
theorem PathAsides_c (p : Str) (n : Int) (hs : p.length ≤ 1048576) : Meets Tryd.prog 3 [.str p, .int .i64 n] (.bool true) [] := by
  refine meets_x (fn := Tryd.f3) Tryd.func3 rfl fb3 (by kernel_rfl) (Nat.le_of_ble_eq_true rfl) ?_
  refine cx_sr ?_
  simp only [go_sem]
  repeat first | (with_reducible refine side_d ?_ ?_; exact byD) | (with_reducible refine side_q ?_ ?_; exact byQ)
  refine cx_sr ?_
  simp only [go_sem]
  repeat first | (with_reducible refine side_d ?_ ?_; exact byD) | (with_reducible refine side_q ?_ ?_; exact byQ)
  refine cw_m (Aside_c p n (by omega)) byW byT ?_
  simp only [go_sem]
  repeat first | (with_reducible refine side_d ?_ ?_; exact byD) | (with_reducible refine side_q ?_ ?_; exact byQ)
  refine cx_sr ?_
  simp only [go_sem]
  repeat first | (with_reducible refine side_d ?_ ?_; exact byD) | (with_reducible refine side_q ?_ ?_; exact byQ)
  refine cw_m (CheckPath_c p (by omega)) byW byT ?_
  simp only [go_sem]
  repeat first | (with_reducible refine side_d ?_ ?_; exact byD) | (with_reducible refine side_q ?_ ?_; exact byQ)
  refine cx_seq ?_
  refine cx_sr ?_
  simp only [go_sem]
  repeat first | (with_reducible refine side_d ?_ ?_; exact byD) | (with_reducible refine side_q ?_ ?_; exact byQ)
  intro t18 e18
  repeat first | (with_reducible refine side_d ?_ ?_; exact byD) | (with_reducible refine side_q ?_ ?_; exact byQ)
  intro t21 e21
  repeat first | (with_reducible refine side_d ?_ ?_; exact byD) | (with_reducible refine side_q ?_ ?_; exact byQ)
  intro t24 e24
  repeat first | (with_reducible refine side_d ?_ ?_; exact byD) | (with_reducible refine side_q ?_ ?_; exact byQ)
  intro t25 e25
  rw [bsel_or] at e25
  repeat first | (with_reducible refine side_d ?_ ?_; exact byD) | (with_reducible refine side_q ?_ ?_; exact byQ)
  intro t26 e26
  rw [bsel_and] at e26
  repeat first | (with_reducible refine side_d ?_ ?_; exact byD) | (with_reducible refine side_q ?_ ?_; exact byQ)
  subst e18 e21 e24 e25 e26
  refine cx_if _ rfl (fun h26 => ?_) (fun h26 => ?_)
  ·
    (try simp only [go_sem] at h26)
    refine cx_region ?_
    simp only [go_sem]
    repeat first | (with_reducible refine side_d ?_ ?_; exact byD) | (with_reducible refine side_q ?_ ?_; exact byQ)
    refine cx_seq ?_
    refine cx_sr ?_
    simp only [go_sem]
    repeat first | (with_reducible refine side_d ?_ ?_; exact byD) | (with_reducible refine side_q ?_ ?_; exact byQ)
    intro t28 e28
    repeat first | (with_reducible refine side_d ?_ ?_; exact byD) | (with_reducible refine side_q ?_ ?_; exact byQ)
    subst e28
    refine cx_if _ rfl (fun h28 => no_if h28) (fun h28 => ?_)
    refine cx_skip ?_
    (try simp only [go_sem])
    refine cx_sr ?_
    simp only [go_sem]
    repeat first | (with_reducible refine side_d ?_ ?_; exact byD) | (with_reducible refine side_q ?_ ?_; exact byQ)
    refine cw_m (pathBegun_c) byW byT ?_
    simp only [go_sem]
    repeat first | (with_reducible refine side_d ?_ ?_; exact byD) | (with_reducible refine side_q ?_ ?_; exact byQ)
    refine ⟨_, fun hp => cw_m (textIs_c _ _ _ _) byW byT ⟨rfl, rfl⟩, ?_⟩
    simp only [go_sem]
    repeat first | (with_reducible refine side_d ?_ ?_; exact byD) | (with_reducible refine side_q ?_ ?_; exact byQ)
    intro t42 e42
    rw [bsel_and] at e42
    repeat first | (with_reducible refine side_d ?_ ?_; exact byD) | (with_reducible refine side_q ?_ ?_; exact byQ)
    subst e42
    refine cx_ret ?_
    simp only [go_sem]
    refine finw_bool ?_
    simp_all [textIsP, asideP_Q]
  ·
    (try simp only [go_sem] at h26)
    refine cx_skip ?_
    (try simp only [go_sem])
    refine cx_seq ?_
    refine cx_sr ?_
    simp only [go_sem]
    repeat first | (with_reducible refine side_d ?_ ?_; exact byD) | (with_reducible refine side_q ?_ ?_; exact byQ)
    intro t28 e28
    repeat first | (with_reducible refine side_d ?_ ?_; exact byD) | (with_reducible refine side_q ?_ ?_; exact byQ)
    subst e28
    refine cx_if _ rfl (fun h28 => ?_) (fun h28 => ?_)
    ·
      (try simp only [go_sem] at h28)
      have hck : checkP [p] = 0 := by simpa using h28
      have hr : 1 ≤ n ∧ n ≤ 99 := by simp [hck] at h26; omega
      refine cx_region ?_
      simp only [go_sem]
      repeat first | (with_reducible refine side_d ?_ ?_; exact byD) | (with_reducible refine side_q ?_ ?_; exact byQ)
      refine cw_m (AsideOf_c p n hr.1 hr.2 (by omega)) byW byT ?_
      simp only [go_sem]
      repeat first | (with_reducible refine side_d ?_ ?_; exact byD) | (with_reducible refine side_q ?_ ?_; exact byQ)
      refine cx_sr ?_
      simp only [go_sem]
      repeat first | (with_reducible refine side_d ?_ ?_; exact byD) | (with_reducible refine side_q ?_ ?_; exact byQ)
      refine cw_m (pathBegun_c) byW byT ?_
      simp only [go_sem]
      repeat first | (with_reducible refine side_d ?_ ?_; exact byD) | (with_reducible refine side_q ?_ ?_; exact byQ)
      refine ⟨_, fun hp => cw_m (textIs_c _ _ _ _) byW byT ⟨rfl, rfl⟩, ?_⟩
      simp only [go_sem]
      repeat first | (with_reducible refine side_d ?_ ?_; exact byD) | (with_reducible refine side_q ?_ ?_; exact byQ)
      intro t42 e42
      rw [bsel_and] at e42
      repeat first | (with_reducible refine side_d ?_ ?_; exact byD) | (with_reducible refine side_q ?_ ?_; exact byQ)
      subst e42
      refine cx_ret ?_
      simp only [go_sem]
      refine finw_bool ?_
      rw [aside_asideQ hck hr.1 hr.2]
      by_cases h0 : (asideQ p n).2 = 0
      · simp [textIsP, h0]
      · have := @asideP_no p n (by rw [aside_asideQ hck hr.1 hr.2]; exact h0)
        rw [aside_asideQ hck hr.1 hr.2] at this
        simp [textIsP, h0, this]
    ·
      (try simp only [go_sem] at h28)
      refine cx_skip ?_
      (try simp only [go_sem])
      refine cx_sr ?_
      simp only [go_sem]
      repeat first | (with_reducible refine side_d ?_ ?_; exact byD) | (with_reducible refine side_q ?_ ?_; exact byQ)
      refine cw_m (pathBegun_c) byW byT ?_
      simp only [go_sem]
      repeat first | (with_reducible refine side_d ?_ ?_; exact byD) | (with_reducible refine side_q ?_ ?_; exact byQ)
      refine ⟨_, fun hp => cw_m (textIs_c _ _ _ _) byW byT ⟨rfl, rfl⟩, ?_⟩
      simp only [go_sem]
      repeat first | (with_reducible refine side_d ?_ ?_; exact byD) | (with_reducible refine side_q ?_ ?_; exact byQ)
      intro t42 e42
      rw [bsel_and] at e42
      repeat first | (with_reducible refine side_d ?_ ?_; exact byD) | (with_reducible refine side_q ?_ ?_; exact byQ)
      subst e42
      refine cx_ret ?_
      simp only [go_sem]
      refine finw_bool ?_
      have hck : ¬ checkP [p] = 0 := by simpa using h28
      simp [textIsP, asideP_Q, hck]
theorem PathApart_c (p : Str) (n m : Int) (hs : p.length ≤ 1048576) : Meets Tryd.prog 4 [.str p, .int .i64 n, .int .i64 m] (.bool true) [] := by
  refine meets_x (fn := Tryd.f4) Tryd.func4 rfl fb4 (by kernel_rfl) (Nat.le_of_ble_eq_true rfl) ?_
  refine cx_sr ?_
  simp only [go_sem]
  repeat first | (with_reducible refine side_d ?_ ?_; exact byD) | (with_reducible refine side_q ?_ ?_; exact byQ)
  refine cx_seq ?_
  refine cx_sr ?_
  simp only [go_sem]
  repeat first | (with_reducible refine side_d ?_ ?_; exact byD) | (with_reducible refine side_q ?_ ?_; exact byQ)
  refine cw_m (pathBegun_c) byW byT ?_
  simp only [go_sem]
  repeat first | (with_reducible refine side_d ?_ ?_; exact byD) | (with_reducible refine side_q ?_ ?_; exact byQ)
  intro t12 e12
  repeat first | (with_reducible refine side_d ?_ ?_; exact byD) | (with_reducible refine side_q ?_ ?_; exact byQ)
  subst e12
  refine cx_if _ rfl (fun h12 => ?_) (fun h12 => ?_)
  ·
    (try simp only [go_sem] at h12)
    refine cx_sr ?_
    simp only [go_sem]
    repeat first | (with_reducible refine side_d ?_ ?_; exact byD) | (with_reducible refine side_q ?_ ?_; exact byQ)
    refine cx_ret ?_
    simp only [go_sem]
    refine finw_bool ?_
    by_cases h1 : (asideP p n).2 = 0 <;> by_cases h2 : (asideP p m).2 = 0
    · have := aside_apart h1 h2
      simp_all
    · simp_all
    · simp_all
    · simp_all
  ·
    (try simp only [go_sem] at h12)
    refine cx_skip ?_
    (try simp only [go_sem])
    refine cx_sr ?_
    simp only [go_sem]
    repeat first | (with_reducible refine side_d ?_ ?_; exact byD) | (with_reducible refine side_q ?_ ?_; exact byQ)
    refine cw_m (Aside_c p n (by omega)) byW byT ?_
    simp only [go_sem]
    repeat first | (with_reducible refine side_d ?_ ?_; exact byD) | (with_reducible refine side_q ?_ ?_; exact byQ)
    refine cx_sr ?_
    simp only [go_sem]
    repeat first | (with_reducible refine side_d ?_ ?_; exact byD) | (with_reducible refine side_q ?_ ?_; exact byQ)
    refine cw_m (Aside_c p m (by omega)) byW byT ?_
    simp only [go_sem]
    repeat first | (with_reducible refine side_d ?_ ?_; exact byD) | (with_reducible refine side_q ?_ ?_; exact byQ)
    refine cx_sr ?_
    simp only [go_sem]
    repeat first | (with_reducible refine side_d ?_ ?_; exact byD) | (with_reducible refine side_q ?_ ?_; exact byQ)
    intro t26 e26
    repeat first | (with_reducible refine side_d ?_ ?_; exact byD) | (with_reducible refine side_q ?_ ?_; exact byQ)
    intro t29 e29
    repeat first | (with_reducible refine side_d ?_ ?_; exact byD) | (with_reducible refine side_q ?_ ?_; exact byQ)
    intro t30 e30
    rw [bsel_or] at e30
    repeat first | (with_reducible refine side_d ?_ ?_; exact byD) | (with_reducible refine side_q ?_ ?_; exact byQ)
    intro t34 e34
    repeat first | (with_reducible refine side_d ?_ ?_; exact byD) | (with_reducible refine side_q ?_ ?_; exact byQ)
    intro t37 e37
    repeat first | (with_reducible refine side_d ?_ ?_; exact byD) | (with_reducible refine side_q ?_ ?_; exact byQ)
    intro t38 e38
    repeat first | (with_reducible refine side_d ?_ ?_; exact byD) | (with_reducible refine side_q ?_ ?_; exact byQ)
    intro t39 e39
    rw [bsel_or] at e39
    repeat first | (with_reducible refine side_d ?_ ?_; exact byD) | (with_reducible refine side_q ?_ ?_; exact byQ)
    subst e26 e29 e30 e34 e37 e38 e39
    refine cx_ret ?_
    simp only [go_sem]
    refine finw_bool ?_
    by_cases h1 : (asideP p n).2 = 0 <;> by_cases h2 : (asideP p m).2 = 0
    · have := aside_apart h1 h2
      simp_all
    · simp_all
    · simp_all
    · simp_all
end Go.VM.Tryd
end
section
set_option linter.unusedVariables false
set_option linter.unusedSimpArgs false
open Go Go.VM Go.Proofs Tether
namespace Go.VM.Tryd
set_option maxRecDepth 100000
theorem PathBack_c (p f t : Str) (n : Int) (hs : p.length ≤ 1048576) (hf : f.length ≤ 1048576) (ht : t.length ≤ 1048576) : Meets Tryd.prog 10 [.str p, .str f, .str t, .int .i64 n] (.bool true) [] := by
  refine meets_x (fn := Tryd.f10) Tryd.func10 rfl fb10 (by kernel_rfl) (Nat.le_of_ble_eq_true rfl) ?_
  have hml := moved_len p f t
  have hal := aside_len p n
  have hpl : (parentP p).length ≤ p.length := by unfold parentP headOf; split <;> simp; omega
  have hnl : (nameP p).length ≤ p.length := by unfold nameP tailOf; split <;> simp
  refine cx_sr ?_
  simp only [go_sem]
  repeat first | (with_reducible refine side_d ?_ ?_; exact byD) | (with_reducible refine side_q ?_ ?_; exact byQ)
  refine cx_seq ?_
  refine cx_sr ?_
  simp only [go_sem]
  repeat first | (with_reducible refine side_d ?_ ?_; exact byD) | (with_reducible refine side_q ?_ ?_; exact byQ)
  refine cw_m (pathBegun_c) byW byT ?_
  simp only [go_sem]
  repeat first | (with_reducible refine side_d ?_ ?_; exact byD) | (with_reducible refine side_q ?_ ?_; exact byQ)
  intro t22 e22
  repeat first | (with_reducible refine side_d ?_ ?_; exact byD) | (with_reducible refine side_q ?_ ?_; exact byQ)
  subst e22
  refine cx_if _ rfl (fun h22 => ?_) (fun h22 => ?_)
  ·
    (try simp only [go_sem] at h22)
    refine cx_sr ?_
    simp only [go_sem]
    repeat first | (with_reducible refine side_d ?_ ?_; exact byD) | (with_reducible refine side_q ?_ ?_; exact byQ)
    refine cx_ret ?_
    simp only [go_sem]
    exact finw_bool (by simp_all)
  ·
    (try simp only [go_sem] at h22)
    refine cx_skip ?_
    (try simp only [go_sem])
    refine cx_sr ?_
    simp only [go_sem]
    repeat first | (with_reducible refine side_d ?_ ?_; exact byD) | (with_reducible refine side_q ?_ ?_; exact byQ)
    refine cw_m (Parent_c p (by omega)) byW byT ?_
    simp only [go_sem]
    repeat first | (with_reducible refine side_d ?_ ?_; exact byD) | (with_reducible refine side_q ?_ ?_; exact byQ)
    refine cx_sr ?_
    simp only [go_sem]
    repeat first | (with_reducible refine side_d ?_ ?_; exact byD) | (with_reducible refine side_q ?_ ?_; exact byQ)
    refine cw_m (Name_c p (by omega)) byW byT ?_
    simp only [go_sem]
    repeat first | (with_reducible refine side_d ?_ ?_; exact byD) | (with_reducible refine side_q ?_ ?_; exact byQ)
    refine cx_seq ?_
    refine cx_sr ?_
    simp only [go_sem]
    repeat first | (with_reducible refine side_d ?_ ?_; exact byD) | (with_reducible refine side_q ?_ ?_; exact byQ)
    intro t34 e34
    repeat first | (with_reducible refine side_d ?_ ?_; exact byD) | (with_reducible refine side_q ?_ ?_; exact byQ)
    intro t37 e37
    repeat first | (with_reducible refine side_d ?_ ?_; exact byD) | (with_reducible refine side_q ?_ ?_; exact byQ)
    intro t38 e38
    rw [bsel_or] at e38
    repeat first | (with_reducible refine side_d ?_ ?_; exact byD) | (with_reducible refine side_q ?_ ?_; exact byQ)
    subst e34 e37 e38
    refine cx_if _ rfl (fun h38 => ?_) (fun h38 => ?_)
    ·
      (try simp only [go_sem] at h38)
      refine cx_sr ?_
      simp only [go_sem]
      repeat first | (with_reducible refine side_d ?_ ?_; exact byD) | (with_reducible refine side_q ?_ ?_; exact byQ)
      intro t41 e41
      repeat first | (with_reducible refine side_d ?_ ?_; exact byD) | (with_reducible refine side_q ?_ ?_; exact byQ)
      subst e41
      refine cx_ret ?_
      simp only [go_sem]
      exact finw_bool (by simp)
    ·
      (try simp only [go_sem] at h38)
      have hck : checkP [p] = 0 := by simpa using h38
      have hj : joinP (parentP p) (nameP p) = (p, 0) := by rw [parentP, nameP, if_pos hck, if_pos hck]; exact join_back hck
      refine cx_skip ?_
      (try simp only [go_sem])
      refine cx_sr ?_
      simp only [go_sem]
      repeat first | (with_reducible refine side_d ?_ ?_; exact byD) | (with_reducible refine side_q ?_ ?_; exact byQ)
      refine cw_m (Join_c (parentP p) (nameP p) (by omega)) byW byT ?_
      simp only [go_sem]
      repeat first | (with_reducible refine side_d ?_ ?_; exact byD) | (with_reducible refine side_q ?_ ?_; exact byQ)
      refine cx_seq ?_
      refine cx_sr ?_
      simp only [go_sem]
      repeat first | (with_reducible refine side_d ?_ ?_; exact byD) | (with_reducible refine side_q ?_ ?_; exact byQ)
      intro t49 e49
      repeat first | (with_reducible refine side_d ?_ ?_; exact byD) | (with_reducible refine side_q ?_ ?_; exact byQ)
      intro t53 e53
      repeat first | (with_reducible refine side_d ?_ ?_; exact byD) | (with_reducible refine side_q ?_ ?_; exact byQ)
      intro t54 e54
      rw [bsel_or] at e54
      repeat first | (with_reducible refine side_d ?_ ?_; exact byD) | (with_reducible refine side_q ?_ ?_; exact byQ)
      subst e49 e53 e54
      refine cx_if _ rfl (fun h54 => ?_) (fun h54 => ?_)
      ·
        (try simp only [go_sem] at h54)
        refine cx_sr ?_
        simp only [go_sem]
        repeat first | (with_reducible refine side_d ?_ ?_; exact byD) | (with_reducible refine side_q ?_ ?_; exact byQ)
        refine cx_ret ?_
        simp only [go_sem]
        exfalso
        simp [hj] at h54
      ·
        (try simp only [go_sem] at h54)
        refine cx_skip ?_
        (try simp only [go_sem])
        refine cx_sr ?_
        simp only [go_sem]
        repeat first | (with_reducible refine side_d ?_ ?_; exact byD) | (with_reducible refine side_q ?_ ?_; exact byQ)
        refine cw_m (Moved_c p f t (by omega) (by omega)) byW byT ?_
        simp only [go_sem]
        repeat first | (with_reducible refine side_d ?_ ?_; exact byD) | (with_reducible refine side_q ?_ ?_; exact byQ)
        refine cx_seq ?_
        refine cx_sr ?_
        simp only [go_sem]
        repeat first | (with_reducible refine side_d ?_ ?_; exact byD) | (with_reducible refine side_q ?_ ?_; exact byQ)
        intro t63 e63
        repeat first | (with_reducible refine side_d ?_ ?_; exact byD) | (with_reducible refine side_q ?_ ?_; exact byQ)
        subst e63
        refine cx_if _ rfl (fun h63 => ?_) (fun h63 => ?_)
        ·
          (try simp only [go_sem] at h63)
          refine cx_sr ?_
          simp only [go_sem]
          repeat first | (with_reducible refine side_d ?_ ?_; exact byD) | (with_reducible refine side_q ?_ ?_; exact byQ)
          refine cw_m (Moved_c (movedP p f t).1 t f (by omega) (by omega)) byW byT ?_
          simp only [go_sem]
          repeat first | (with_reducible refine side_d ?_ ?_; exact byD) | (with_reducible refine side_q ?_ ?_; exact byQ)
          refine cx_sr ?_
          simp only [go_sem]
          repeat first | (with_reducible refine side_d ?_ ?_; exact byD) | (with_reducible refine side_q ?_ ?_; exact byQ)
          refine cw_m (Within_c (movedP p f t).1 t (by omega) (by omega)) byW byT ?_
          simp only [go_sem]
          repeat first | (with_reducible refine side_d ?_ ?_; exact byD) | (with_reducible refine side_q ?_ ?_; exact byQ)
          refine cx_sr ?_
          simp only [go_sem]
          repeat first | (with_reducible refine side_d ?_ ?_; exact byD) | (with_reducible refine side_q ?_ ?_; exact byQ)
          intro t78 e78
          repeat first | (with_reducible refine side_d ?_ ?_; exact byD) | (with_reducible refine side_q ?_ ?_; exact byQ)
          intro t81 e81
          repeat first | (with_reducible refine side_d ?_ ?_; exact byD) | (with_reducible refine side_q ?_ ?_; exact byQ)
          intro t82 e82
          rw [bsel_or] at e82
          repeat first | (with_reducible refine side_d ?_ ?_; exact byD) | (with_reducible refine side_q ?_ ?_; exact byQ)
          intro t85 e85
          repeat first | (with_reducible refine side_d ?_ ?_; exact byD) | (with_reducible refine side_q ?_ ?_; exact byQ)
          intro t86 e86
          rw [bsel_or] at e86
          repeat first | (with_reducible refine side_d ?_ ?_; exact byD) | (with_reducible refine side_q ?_ ?_; exact byQ)
          intro t90 e90
          repeat first | (with_reducible refine side_d ?_ ?_; exact byD) | (with_reducible refine side_q ?_ ?_; exact byQ)
          intro t91 e91
          rw [bsel_or] at e91
          repeat first | (with_reducible refine side_d ?_ ?_; exact byD) | (with_reducible refine side_q ?_ ?_; exact byQ)
          subst e78 e81 e82 e85 e86 e90 e91
          refine cx_if _ rfl (fun h91 => ?_) (fun h91 => ?_)
          ·
            (try simp only [go_sem] at h91)
            refine cx_sr ?_
            simp only [go_sem]
            repeat first | (with_reducible refine side_d ?_ ?_; exact byD) | (with_reducible refine side_q ?_ ?_; exact byQ)
            refine cx_ret ?_
            simp only [go_sem]
            exfalso
            obtain ⟨h1, h2, h3⟩ := moved_back h63
            simp [h1, h2, h3] at h91
          ·
            (try simp only [go_sem] at h91)
            refine cx_skip ?_
            (try simp only [go_sem])
            refine cx_sr ?_
            simp only [go_sem]
            repeat first | (with_reducible refine side_d ?_ ?_; exact byD) | (with_reducible refine side_q ?_ ?_; exact byQ)
            refine cw_m (Aside_c p n (by omega)) byW byT ?_
            simp only [go_sem]
            repeat first | (with_reducible refine side_d ?_ ?_; exact byD) | (with_reducible refine side_q ?_ ?_; exact byQ)
            refine cx_seq ?_
            refine cx_sr ?_
            simp only [go_sem]
            repeat first | (with_reducible refine side_d ?_ ?_; exact byD) | (with_reducible refine side_q ?_ ?_; exact byQ)
            intro t99 e99
            repeat first | (with_reducible refine side_d ?_ ?_; exact byD) | (with_reducible refine side_q ?_ ?_; exact byQ)
            subst e99
            refine cx_if _ rfl (fun h99 => ?_) (fun h99 => ?_)
            ·
              (try simp only [go_sem] at h99)
              refine cx_sr ?_
              simp only [go_sem]
              repeat first | (with_reducible refine side_d ?_ ?_; exact byD) | (with_reducible refine side_q ?_ ?_; exact byQ)
              refine cx_ret ?_
              simp only [go_sem]
              exact finw_bool rfl
            ·
              (try simp only [go_sem] at h99)
              refine cx_skip ?_
              (try simp only [go_sem])
              refine cx_sr ?_
              simp only [go_sem]
              repeat first | (with_reducible refine side_d ?_ ?_; exact byD) | (with_reducible refine side_q ?_ ?_; exact byQ)
              refine cw_m (Parent_c (asideP p n).1 (by omega)) byW byT ?_
              simp only [go_sem]
              repeat first | (with_reducible refine side_d ?_ ?_; exact byD) | (with_reducible refine side_q ?_ ?_; exact byQ)
              refine cx_sr ?_
              simp only [go_sem]
              repeat first | (with_reducible refine side_d ?_ ?_; exact byD) | (with_reducible refine side_q ?_ ?_; exact byQ)
              refine cw_m (Check_c (asideP p n).1 (by omega)) byW byT ?_
              simp only [go_sem]
              repeat first | (with_reducible refine side_d ?_ ?_; exact byD) | (with_reducible refine side_q ?_ ?_; exact byQ)
              intro t107 e107
              repeat first | (with_reducible refine side_d ?_ ?_; exact byD) | (with_reducible refine side_q ?_ ?_; exact byQ)
              intro t110 e110
              repeat first | (with_reducible refine side_d ?_ ?_; exact byD) | (with_reducible refine side_q ?_ ?_; exact byQ)
              intro t111 e111
              rw [bsel_and] at e111
              repeat first | (with_reducible refine side_d ?_ ?_; exact byD) | (with_reducible refine side_q ?_ ?_; exact byQ)
              intro t115 e115
              repeat first | (with_reducible refine side_d ?_ ?_; exact byD) | (with_reducible refine side_q ?_ ?_; exact byQ)
              intro t116 e116
              rw [bsel_and] at e116
              repeat first | (with_reducible refine side_d ?_ ?_; exact byD) | (with_reducible refine side_q ?_ ?_; exact byQ)
              subst e107 e110 e111 e115 e116
              refine cx_ret ?_
              simp only [go_sem]
              obtain ⟨h1, h2⟩ := aside_back (by simpa using h99)
              have h3 : parentP p = headOf p := by rw [parentP, if_pos hck]
              exact finw_bool (by simp [h1, h2, h3])
        ·
          (try simp only [go_sem] at h63)
          refine cx_skip ?_
          (try simp only [go_sem])
          refine cx_sr ?_
          simp only [go_sem]
          repeat first | (with_reducible refine side_d ?_ ?_; exact byD) | (with_reducible refine side_q ?_ ?_; exact byQ)
          refine cw_m (Aside_c p n (by omega)) byW byT ?_
          simp only [go_sem]
          repeat first | (with_reducible refine side_d ?_ ?_; exact byD) | (with_reducible refine side_q ?_ ?_; exact byQ)
          refine cx_seq ?_
          refine cx_sr ?_
          simp only [go_sem]
          repeat first | (with_reducible refine side_d ?_ ?_; exact byD) | (with_reducible refine side_q ?_ ?_; exact byQ)
          intro t99 e99
          repeat first | (with_reducible refine side_d ?_ ?_; exact byD) | (with_reducible refine side_q ?_ ?_; exact byQ)
          subst e99
          refine cx_if _ rfl (fun h99 => ?_) (fun h99 => ?_)
          ·
            (try simp only [go_sem] at h99)
            refine cx_sr ?_
            simp only [go_sem]
            repeat first | (with_reducible refine side_d ?_ ?_; exact byD) | (with_reducible refine side_q ?_ ?_; exact byQ)
            refine cx_ret ?_
            simp only [go_sem]
            exact finw_bool rfl
          ·
            (try simp only [go_sem] at h99)
            refine cx_skip ?_
            (try simp only [go_sem])
            refine cx_sr ?_
            simp only [go_sem]
            repeat first | (with_reducible refine side_d ?_ ?_; exact byD) | (with_reducible refine side_q ?_ ?_; exact byQ)
            refine cw_m (Parent_c (asideP p n).1 (by omega)) byW byT ?_
            simp only [go_sem]
            repeat first | (with_reducible refine side_d ?_ ?_; exact byD) | (with_reducible refine side_q ?_ ?_; exact byQ)
            refine cx_sr ?_
            simp only [go_sem]
            repeat first | (with_reducible refine side_d ?_ ?_; exact byD) | (with_reducible refine side_q ?_ ?_; exact byQ)
            refine cw_m (Check_c (asideP p n).1 (by omega)) byW byT ?_
            simp only [go_sem]
            repeat first | (with_reducible refine side_d ?_ ?_; exact byD) | (with_reducible refine side_q ?_ ?_; exact byQ)
            intro t107 e107
            repeat first | (with_reducible refine side_d ?_ ?_; exact byD) | (with_reducible refine side_q ?_ ?_; exact byQ)
            intro t110 e110
            repeat first | (with_reducible refine side_d ?_ ?_; exact byD) | (with_reducible refine side_q ?_ ?_; exact byQ)
            intro t111 e111
            rw [bsel_and] at e111
            repeat first | (with_reducible refine side_d ?_ ?_; exact byD) | (with_reducible refine side_q ?_ ?_; exact byQ)
            intro t115 e115
            repeat first | (with_reducible refine side_d ?_ ?_; exact byD) | (with_reducible refine side_q ?_ ?_; exact byQ)
            intro t116 e116
            rw [bsel_and] at e116
            repeat first | (with_reducible refine side_d ?_ ?_; exact byD) | (with_reducible refine side_q ?_ ?_; exact byQ)
            subst e107 e110 e111 e115 e116
            refine cx_ret ?_
            simp only [go_sem]
            obtain ⟨h1, h2⟩ := aside_back (by simpa using h99)
            have h3 : parentP p = headOf p := by rw [parentP, if_pos hck]
            exact finw_bool (by simp [h1, h2, h3])
end Go.VM.Tryd
end
