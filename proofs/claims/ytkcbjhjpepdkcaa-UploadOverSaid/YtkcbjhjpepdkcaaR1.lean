import Derived.Test.YtkcbjhjpepdkcaaU8
import Derived.Test.YtkcbjhjpepdkcaaTR
set_option linter.unusedVariables false
set_option linter.unusedSimpArgs false
open Go Go.VM Go.Proofs Tether
namespace Go.VM.Try
set_option maxRecDepth 100000
theorem RIsName_c (s : Str) (hs : s.length < 4611686018427387904) : Meets Try.prog 29 [.str s] (.bool (isName s)) [] := by
  refine meets_x (fn := Try.f29) Try.func29 rfl fb29 (by kernel_rfl) (Nat.le_of_ble_eq_true rfl) ?_
  refine cx_sr ?_
  simp only [go_sem]
  repeat ((with_reducible first | refine side_d ?_ ?_ | refine side_q ?_ ?_); focus (first | (refine Sd.mk ?_; omega) | (refine Sq.mk ?_; omega) | exact Sd.mk trivial | exact Sq.mk trivial | (refine Sq.mk ?_; and_intros <;> first | omega | trivial | (simp; omega)) | (refine Sd.of fun hp => ?_; simp only [pc, and_true] at hp; (try subst_vars); simp only [decide_eq_true_eq, Bool.not_eq_true', decide_eq_false_iff_not, Bool.and_eq_true, Bool.or_eq_true, Bool.or_eq_false_iff] at hp; omega)))
  refine cx_seq ?_
  refine cx_sr ?_
  simp only [go_sem]
  repeat ((with_reducible first | refine side_d ?_ ?_ | refine side_q ?_ ?_); focus (first | (refine Sd.mk ?_; omega) | (refine Sq.mk ?_; omega) | exact Sd.mk trivial | exact Sq.mk trivial | (refine Sq.mk ?_; and_intros <;> first | omega | trivial | (simp; omega)) | (refine Sd.of fun hp => ?_; simp only [pc, and_true] at hp; (try subst_vars); simp only [decide_eq_true_eq, Bool.not_eq_true', decide_eq_false_iff_not, Bool.and_eq_true, Bool.or_eq_true, Bool.or_eq_false_iff] at hp; omega)))
  refine cx_block ?_
  refine cx_loop0 (σ := Nat) (fun i => i ≤ s.length ∧ ∀ j, j < i → okAt s j = true) (fun i => [⟨3, 0, [], .int .i64 (i : Nat)⟩]) [0] (fun i => s.length - i) 0 ⟨Nat.zero_le _, fun j hj => absurd hj (Nat.not_lt_zero j)⟩ (Nat.zero_le _) (by (first | trivial | (simp only [go_sem, wk, wks, wkB, wkH, subw, subEw, hprew, ltb, subr, subEr]; done) | (simp only [go_sem, wk, wks, wkB, wkH, subw, subEw, hprew, ltb, subr, subEr]; and_intros <;> first | trivial | rfl | omega | assumption | exact Nat.le_refl _ | exact wks_refl _ | exact wk_refl _ | (intros; exact wks_refl _) | (simp; done) | (simp; omega)))) (fun i hI1 => ?_)
  simp only [go_sem]
  refine cx_seq ?_
  refine cx_sr ?_
  simp only [go_sem]
  repeat ((with_reducible first | refine side_d ?_ ?_ | refine side_q ?_ ?_); focus (first | (refine Sd.mk ?_; omega) | (refine Sq.mk ?_; omega) | exact Sd.mk trivial | exact Sq.mk trivial | (refine Sq.mk ?_; and_intros <;> first | omega | trivial | (simp; omega)) | (refine Sd.of fun hp => ?_; simp only [pc, and_true] at hp; (try subst_vars); simp only [decide_eq_true_eq, Bool.not_eq_true', decide_eq_false_iff_not, Bool.and_eq_true, Bool.or_eq_true, Bool.or_eq_false_iff] at hp; omega)))
  intro t9 e9
  repeat ((with_reducible first | refine side_d ?_ ?_ | refine side_q ?_ ?_); focus (first | (refine Sd.mk ?_; omega) | (refine Sq.mk ?_; omega) | exact Sd.mk trivial | exact Sq.mk trivial | (refine Sq.mk ?_; and_intros <;> first | omega | trivial | (simp; omega)) | (refine Sd.of fun hp => ?_; simp only [pc, and_true] at hp; (try subst_vars); simp only [decide_eq_true_eq, Bool.not_eq_true', decide_eq_false_iff_not, Bool.and_eq_true, Bool.or_eq_true, Bool.or_eq_false_iff] at hp; omega)))
  subst e9
  refine cx_if _ rfl (fun h9 => ?_) (fun h9 => ?_)
  ·
    (try simp only [go_sem] at h9)
    refine cx_skip ?_
    (try simp only [go_sem])
    refine cx_seq (cx_block ?_)
    refine cx_sr ?_
    simp only [go_sem]
    repeat ((with_reducible first | refine side_d ?_ ?_ | refine side_q ?_ ?_); focus (first | (refine Sd.mk ?_; omega) | (refine Sq.mk ?_; omega) | exact Sd.mk trivial | exact Sq.mk trivial | (refine Sq.mk ?_; and_intros <;> first | omega | trivial | (simp; omega)) | (refine Sd.of fun hp => ?_; simp only [pc, and_true] at hp; (try subst_vars); simp only [decide_eq_true_eq, Bool.not_eq_true', decide_eq_false_iff_not, Bool.and_eq_true, Bool.or_eq_true, Bool.or_eq_false_iff] at hp; omega)))
    intro t14 e14
    repeat ((with_reducible first | refine side_d ?_ ?_ | refine side_q ?_ ?_); focus (first | (refine Sd.mk ?_; omega) | (refine Sq.mk ?_; omega) | exact Sd.mk trivial | exact Sq.mk trivial | (refine Sq.mk ?_; and_intros <;> first | omega | trivial | (simp; omega)) | (refine Sd.of fun hp => ?_; simp only [pc, and_true] at hp; (try subst_vars); simp only [decide_eq_true_eq, Bool.not_eq_true', decide_eq_false_iff_not, Bool.and_eq_true, Bool.or_eq_true, Bool.or_eq_false_iff] at hp; omega)))
    refine cx_sr ?_
    simp only [go_sem]
    repeat ((with_reducible first | refine side_d ?_ ?_ | refine side_q ?_ ?_); focus (first | (refine Sd.mk ?_; omega) | (refine Sq.mk ?_; omega) | exact Sd.mk trivial | exact Sq.mk trivial | (refine Sq.mk ?_; and_intros <;> first | omega | trivial | (simp; omega)) | (refine Sd.of fun hp => ?_; simp only [pc, and_true] at hp; (try subst_vars); simp only [decide_eq_true_eq, Bool.not_eq_true', decide_eq_false_iff_not, Bool.and_eq_true, Bool.or_eq_true, Bool.or_eq_false_iff] at hp; omega)))
    intro t16 e16
    repeat ((with_reducible first | refine side_d ?_ ?_ | refine side_q ?_ ?_); focus (first | (refine Sd.mk ?_; omega) | (refine Sq.mk ?_; omega) | exact Sd.mk trivial | exact Sq.mk trivial | (refine Sq.mk ?_; and_intros <;> first | omega | trivial | (simp; omega)) | (refine Sd.of fun hp => ?_; simp only [pc, and_true] at hp; (try subst_vars); simp only [decide_eq_true_eq, Bool.not_eq_true', decide_eq_false_iff_not, Bool.and_eq_true, Bool.or_eq_true, Bool.or_eq_false_iff] at hp; omega)))
    intro t19 e19
    repeat ((with_reducible first | refine side_d ?_ ?_ | refine side_q ?_ ?_); focus (first | (refine Sd.mk ?_; omega) | (refine Sq.mk ?_; omega) | exact Sd.mk trivial | exact Sq.mk trivial | (refine Sq.mk ?_; and_intros <;> first | omega | trivial | (simp; omega)) | (refine Sd.of fun hp => ?_; simp only [pc, and_true] at hp; (try subst_vars); simp only [decide_eq_true_eq, Bool.not_eq_true', decide_eq_false_iff_not, Bool.and_eq_true, Bool.or_eq_true, Bool.or_eq_false_iff] at hp; omega)))
    intro t20 e20
    rw [bsel_and] at e20
    repeat ((with_reducible first | refine side_d ?_ ?_ | refine side_q ?_ ?_); focus (first | (refine Sd.mk ?_; omega) | (refine Sq.mk ?_; omega) | exact Sd.mk trivial | exact Sq.mk trivial | (refine Sq.mk ?_; and_intros <;> first | omega | trivial | (simp; omega)) | (refine Sd.of fun hp => ?_; simp only [pc, and_true] at hp; (try subst_vars); simp only [decide_eq_true_eq, Bool.not_eq_true', decide_eq_false_iff_not, Bool.and_eq_true, Bool.or_eq_true, Bool.or_eq_false_iff] at hp; omega)))
    intro t23 e23
    repeat ((with_reducible first | refine side_d ?_ ?_ | refine side_q ?_ ?_); focus (first | (refine Sd.mk ?_; omega) | (refine Sq.mk ?_; omega) | exact Sd.mk trivial | exact Sq.mk trivial | (refine Sq.mk ?_; and_intros <;> first | omega | trivial | (simp; omega)) | (refine Sd.of fun hp => ?_; simp only [pc, and_true] at hp; (try subst_vars); simp only [decide_eq_true_eq, Bool.not_eq_true', decide_eq_false_iff_not, Bool.and_eq_true, Bool.or_eq_true, Bool.or_eq_false_iff] at hp; omega)))
    intro t26 e26
    repeat ((with_reducible first | refine side_d ?_ ?_ | refine side_q ?_ ?_); focus (first | (refine Sd.mk ?_; omega) | (refine Sq.mk ?_; omega) | exact Sd.mk trivial | exact Sq.mk trivial | (refine Sq.mk ?_; and_intros <;> first | omega | trivial | (simp; omega)) | (refine Sd.of fun hp => ?_; simp only [pc, and_true] at hp; (try subst_vars); simp only [decide_eq_true_eq, Bool.not_eq_true', decide_eq_false_iff_not, Bool.and_eq_true, Bool.or_eq_true, Bool.or_eq_false_iff] at hp; omega)))
    intro t27 e27
    rw [bsel_and] at e27
    repeat ((with_reducible first | refine side_d ?_ ?_ | refine side_q ?_ ?_); focus (first | (refine Sd.mk ?_; omega) | (refine Sq.mk ?_; omega) | exact Sd.mk trivial | exact Sq.mk trivial | (refine Sq.mk ?_; and_intros <;> first | omega | trivial | (simp; omega)) | (refine Sd.of fun hp => ?_; simp only [pc, and_true] at hp; (try subst_vars); simp only [decide_eq_true_eq, Bool.not_eq_true', decide_eq_false_iff_not, Bool.and_eq_true, Bool.or_eq_true, Bool.or_eq_false_iff] at hp; omega)))
    intro t28 e28
    rw [bsel_or] at e28
    repeat ((with_reducible first | refine side_d ?_ ?_ | refine side_q ?_ ?_); focus (first | (refine Sd.mk ?_; omega) | (refine Sq.mk ?_; omega) | exact Sd.mk trivial | exact Sq.mk trivial | (refine Sq.mk ?_; and_intros <;> first | omega | trivial | (simp; omega)) | (refine Sd.of fun hp => ?_; simp only [pc, and_true] at hp; (try subst_vars); simp only [decide_eq_true_eq, Bool.not_eq_true', decide_eq_false_iff_not, Bool.and_eq_true, Bool.or_eq_true, Bool.or_eq_false_iff] at hp; omega)))
    intro t31 e31
    repeat ((with_reducible first | refine side_d ?_ ?_ | refine side_q ?_ ?_); focus (first | (refine Sd.mk ?_; omega) | (refine Sq.mk ?_; omega) | exact Sd.mk trivial | exact Sq.mk trivial | (refine Sq.mk ?_; and_intros <;> first | omega | trivial | (simp; omega)) | (refine Sd.of fun hp => ?_; simp only [pc, and_true] at hp; (try subst_vars); simp only [decide_eq_true_eq, Bool.not_eq_true', decide_eq_false_iff_not, Bool.and_eq_true, Bool.or_eq_true, Bool.or_eq_false_iff] at hp; omega)))
    intro t34 e34
    repeat ((with_reducible first | refine side_d ?_ ?_ | refine side_q ?_ ?_); focus (first | (refine Sd.mk ?_; omega) | (refine Sq.mk ?_; omega) | exact Sd.mk trivial | exact Sq.mk trivial | (refine Sq.mk ?_; and_intros <;> first | omega | trivial | (simp; omega)) | (refine Sd.of fun hp => ?_; simp only [pc, and_true] at hp; (try subst_vars); simp only [decide_eq_true_eq, Bool.not_eq_true', decide_eq_false_iff_not, Bool.and_eq_true, Bool.or_eq_true, Bool.or_eq_false_iff] at hp; omega)))
    intro t35 e35
    rw [bsel_and] at e35
    repeat ((with_reducible first | refine side_d ?_ ?_ | refine side_q ?_ ?_); focus (first | (refine Sd.mk ?_; omega) | (refine Sq.mk ?_; omega) | exact Sd.mk trivial | exact Sq.mk trivial | (refine Sq.mk ?_; and_intros <;> first | omega | trivial | (simp; omega)) | (refine Sd.of fun hp => ?_; simp only [pc, and_true] at hp; (try subst_vars); simp only [decide_eq_true_eq, Bool.not_eq_true', decide_eq_false_iff_not, Bool.and_eq_true, Bool.or_eq_true, Bool.or_eq_false_iff] at hp; omega)))
    intro t36 e36
    rw [bsel_or] at e36
    repeat ((with_reducible first | refine side_d ?_ ?_ | refine side_q ?_ ?_); focus (first | (refine Sd.mk ?_; omega) | (refine Sq.mk ?_; omega) | exact Sd.mk trivial | exact Sq.mk trivial | (refine Sq.mk ?_; and_intros <;> first | omega | trivial | (simp; omega)) | (refine Sd.of fun hp => ?_; simp only [pc, and_true] at hp; (try subst_vars); simp only [decide_eq_true_eq, Bool.not_eq_true', decide_eq_false_iff_not, Bool.and_eq_true, Bool.or_eq_true, Bool.or_eq_false_iff] at hp; omega)))
    intro t39 e39
    repeat ((with_reducible first | refine side_d ?_ ?_ | refine side_q ?_ ?_); focus (first | (refine Sd.mk ?_; omega) | (refine Sq.mk ?_; omega) | exact Sd.mk trivial | exact Sq.mk trivial | (refine Sq.mk ?_; and_intros <;> first | omega | trivial | (simp; omega)) | (refine Sd.of fun hp => ?_; simp only [pc, and_true] at hp; (try subst_vars); simp only [decide_eq_true_eq, Bool.not_eq_true', decide_eq_false_iff_not, Bool.and_eq_true, Bool.or_eq_true, Bool.or_eq_false_iff] at hp; omega)))
    intro t40 e40
    rw [bsel_or] at e40
    repeat ((with_reducible first | refine side_d ?_ ?_ | refine side_q ?_ ?_); focus (first | (refine Sd.mk ?_; omega) | (refine Sq.mk ?_; omega) | exact Sd.mk trivial | exact Sq.mk trivial | (refine Sq.mk ?_; and_intros <;> first | omega | trivial | (simp; omega)) | (refine Sd.of fun hp => ?_; simp only [pc, and_true] at hp; (try subst_vars); simp only [decide_eq_true_eq, Bool.not_eq_true', decide_eq_false_iff_not, Bool.and_eq_true, Bool.or_eq_true, Bool.or_eq_false_iff] at hp; omega)))
    intro t43 e43
    repeat ((with_reducible first | refine side_d ?_ ?_ | refine side_q ?_ ?_); focus (first | (refine Sd.mk ?_; omega) | (refine Sq.mk ?_; omega) | exact Sd.mk trivial | exact Sq.mk trivial | (refine Sq.mk ?_; and_intros <;> first | omega | trivial | (simp; omega)) | (refine Sd.of fun hp => ?_; simp only [pc, and_true] at hp; (try subst_vars); simp only [decide_eq_true_eq, Bool.not_eq_true', decide_eq_false_iff_not, Bool.and_eq_true, Bool.or_eq_true, Bool.or_eq_false_iff] at hp; omega)))
    intro t44 e44
    rw [bsel_or] at e44
    repeat ((with_reducible first | refine side_d ?_ ?_ | refine side_q ?_ ?_); focus (first | (refine Sd.mk ?_; omega) | (refine Sq.mk ?_; omega) | exact Sd.mk trivial | exact Sq.mk trivial | (refine Sq.mk ?_; and_intros <;> first | omega | trivial | (simp; omega)) | (refine Sd.of fun hp => ?_; simp only [pc, and_true] at hp; (try subst_vars); simp only [decide_eq_true_eq, Bool.not_eq_true', decide_eq_false_iff_not, Bool.and_eq_true, Bool.or_eq_true, Bool.or_eq_false_iff] at hp; omega)))
    intro t47 e47
    repeat ((with_reducible first | refine side_d ?_ ?_ | refine side_q ?_ ?_); focus (first | (refine Sd.mk ?_; omega) | (refine Sq.mk ?_; omega) | exact Sd.mk trivial | exact Sq.mk trivial | (refine Sq.mk ?_; and_intros <;> first | omega | trivial | (simp; omega)) | (refine Sd.of fun hp => ?_; simp only [pc, and_true] at hp; (try subst_vars); simp only [decide_eq_true_eq, Bool.not_eq_true', decide_eq_false_iff_not, Bool.and_eq_true, Bool.or_eq_true, Bool.or_eq_false_iff] at hp; omega)))
    intro t48 e48
    rw [bsel_or] at e48
    repeat ((with_reducible first | refine side_d ?_ ?_ | refine side_q ?_ ?_); focus (first | (refine Sd.mk ?_; omega) | (refine Sq.mk ?_; omega) | exact Sd.mk trivial | exact Sq.mk trivial | (refine Sq.mk ?_; and_intros <;> first | omega | trivial | (simp; omega)) | (refine Sd.of fun hp => ?_; simp only [pc, and_true] at hp; (try subst_vars); simp only [decide_eq_true_eq, Bool.not_eq_true', decide_eq_false_iff_not, Bool.and_eq_true, Bool.or_eq_true, Bool.or_eq_false_iff] at hp; omega)))
    intro t51 e51
    repeat ((with_reducible first | refine side_d ?_ ?_ | refine side_q ?_ ?_); focus (first | (refine Sd.mk ?_; omega) | (refine Sq.mk ?_; omega) | exact Sd.mk trivial | exact Sq.mk trivial | (refine Sq.mk ?_; and_intros <;> first | omega | trivial | (simp; omega)) | (refine Sd.of fun hp => ?_; simp only [pc, and_true] at hp; (try subst_vars); simp only [decide_eq_true_eq, Bool.not_eq_true', decide_eq_false_iff_not, Bool.and_eq_true, Bool.or_eq_true, Bool.or_eq_false_iff] at hp; omega)))
    intro t52 e52
    rw [bsel_or] at e52
    repeat ((with_reducible first | refine side_d ?_ ?_ | refine side_q ?_ ?_); focus (first | (refine Sd.mk ?_; omega) | (refine Sq.mk ?_; omega) | exact Sd.mk trivial | exact Sq.mk trivial | (refine Sq.mk ?_; and_intros <;> first | omega | trivial | (simp; omega)) | (refine Sd.of fun hp => ?_; simp only [pc, and_true] at hp; (try subst_vars); simp only [decide_eq_true_eq, Bool.not_eq_true', decide_eq_false_iff_not, Bool.and_eq_true, Bool.or_eq_true, Bool.or_eq_false_iff] at hp; omega)))
    intro t55 e55
    repeat ((with_reducible first | refine side_d ?_ ?_ | refine side_q ?_ ?_); focus (first | (refine Sd.mk ?_; omega) | (refine Sq.mk ?_; omega) | exact Sd.mk trivial | exact Sq.mk trivial | (refine Sq.mk ?_; and_intros <;> first | omega | trivial | (simp; omega)) | (refine Sd.of fun hp => ?_; simp only [pc, and_true] at hp; (try subst_vars); simp only [decide_eq_true_eq, Bool.not_eq_true', decide_eq_false_iff_not, Bool.and_eq_true, Bool.or_eq_true, Bool.or_eq_false_iff] at hp; omega)))
    intro t56 e56
    rw [bsel_or] at e56
    repeat ((with_reducible first | refine side_d ?_ ?_ | refine side_q ?_ ?_); focus (first | (refine Sd.mk ?_; omega) | (refine Sq.mk ?_; omega) | exact Sd.mk trivial | exact Sq.mk trivial | (refine Sq.mk ?_; and_intros <;> first | omega | trivial | (simp; omega)) | (refine Sd.of fun hp => ?_; simp only [pc, and_true] at hp; (try subst_vars); simp only [decide_eq_true_eq, Bool.not_eq_true', decide_eq_false_iff_not, Bool.and_eq_true, Bool.or_eq_true, Bool.or_eq_false_iff] at hp; omega)))
    intro t59 e59
    repeat ((with_reducible first | refine side_d ?_ ?_ | refine side_q ?_ ?_); focus (first | (refine Sd.mk ?_; omega) | (refine Sq.mk ?_; omega) | exact Sd.mk trivial | exact Sq.mk trivial | (refine Sq.mk ?_; and_intros <;> first | omega | trivial | (simp; omega)) | (refine Sd.of fun hp => ?_; simp only [pc, and_true] at hp; (try subst_vars); simp only [decide_eq_true_eq, Bool.not_eq_true', decide_eq_false_iff_not, Bool.and_eq_true, Bool.or_eq_true, Bool.or_eq_false_iff] at hp; omega)))
    intro t60 e60
    rw [bsel_or] at e60
    repeat ((with_reducible first | refine side_d ?_ ?_ | refine side_q ?_ ?_); focus (first | (refine Sd.mk ?_; omega) | (refine Sq.mk ?_; omega) | exact Sd.mk trivial | exact Sq.mk trivial | (refine Sq.mk ?_; and_intros <;> first | omega | trivial | (simp; omega)) | (refine Sd.of fun hp => ?_; simp only [pc, and_true] at hp; (try subst_vars); simp only [decide_eq_true_eq, Bool.not_eq_true', decide_eq_false_iff_not, Bool.and_eq_true, Bool.or_eq_true, Bool.or_eq_false_iff] at hp; omega)))
    subst e16 e19 e20 e23 e26 e27 e28 e31 e34 e35 e36 e39 e40 e43 e44 e47 e48 e51 e52 e55 e56 e59 e60
    refine cx_sr ?_
    simp only [go_sem]
    repeat ((with_reducible first | refine side_d ?_ ?_ | refine side_q ?_ ?_); focus (first | (refine Sd.mk ?_; omega) | (refine Sq.mk ?_; omega) | exact Sd.mk trivial | exact Sq.mk trivial | (refine Sq.mk ?_; and_intros <;> first | omega | trivial | (simp; omega)) | (refine Sd.of fun hp => ?_; simp only [pc, and_true] at hp; (try subst_vars); simp only [decide_eq_true_eq, Bool.not_eq_true', decide_eq_false_iff_not, Bool.and_eq_true, Bool.or_eq_true, Bool.or_eq_false_iff] at hp; omega)))
    intro t62 e62
    repeat ((with_reducible first | refine side_d ?_ ?_ | refine side_q ?_ ?_); focus (first | (refine Sd.mk ?_; omega) | (refine Sq.mk ?_; omega) | exact Sd.mk trivial | exact Sq.mk trivial | (refine Sq.mk ?_; and_intros <;> first | omega | trivial | (simp; omega)) | (refine Sd.of fun hp => ?_; simp only [pc, and_true] at hp; (try subst_vars); simp only [decide_eq_true_eq, Bool.not_eq_true', decide_eq_false_iff_not, Bool.and_eq_true, Bool.or_eq_true, Bool.or_eq_false_iff] at hp; omega)))
    intro t65 e65
    repeat ((with_reducible first | refine side_d ?_ ?_ | refine side_q ?_ ?_); focus (first | (refine Sd.mk ?_; omega) | (refine Sq.mk ?_; omega) | exact Sd.mk trivial | exact Sq.mk trivial | (refine Sq.mk ?_; and_intros <;> first | omega | trivial | (simp; omega)) | (refine Sd.of fun hp => ?_; simp only [pc, and_true] at hp; (try subst_vars); simp only [decide_eq_true_eq, Bool.not_eq_true', decide_eq_false_iff_not, Bool.and_eq_true, Bool.or_eq_true, Bool.or_eq_false_iff] at hp; omega)))
    intro t68 e68
    repeat ((with_reducible first | refine side_d ?_ ?_ | refine side_q ?_ ?_); focus (first | (refine Sd.mk ?_; omega) | (refine Sq.mk ?_; omega) | exact Sd.mk trivial | exact Sq.mk trivial | (refine Sq.mk ?_; and_intros <;> first | omega | trivial | (simp; omega)) | (refine Sd.of fun hp => ?_; simp only [pc, and_true] at hp; (try subst_vars); simp only [decide_eq_true_eq, Bool.not_eq_true', decide_eq_false_iff_not, Bool.and_eq_true, Bool.or_eq_true, Bool.or_eq_false_iff] at hp; omega)))
    intro t73 e73
    (try replace e73 := w64 e73 (by omega) (by omega))
    repeat ((with_reducible first | refine side_d ?_ ?_ | refine side_q ?_ ?_); focus (first | (refine Sd.mk ?_; omega) | (refine Sq.mk ?_; omega) | exact Sd.mk trivial | exact Sq.mk trivial | (refine Sq.mk ?_; and_intros <;> first | omega | trivial | (simp; omega)) | (refine Sd.of fun hp => ?_; simp only [pc, and_true] at hp; (try subst_vars); simp only [decide_eq_true_eq, Bool.not_eq_true', decide_eq_false_iff_not, Bool.and_eq_true, Bool.or_eq_true, Bool.or_eq_false_iff] at hp; omega)))
    intro t74 e74
    repeat ((with_reducible first | refine side_d ?_ ?_ | refine side_q ?_ ?_); focus (first | (refine Sd.mk ?_; omega) | (refine Sq.mk ?_; omega) | exact Sd.mk trivial | exact Sq.mk trivial | (refine Sq.mk ?_; and_intros <;> first | omega | trivial | (simp; omega)) | (refine Sd.of fun hp => ?_; simp only [pc, and_true] at hp; (try subst_vars); simp only [decide_eq_true_eq, Bool.not_eq_true', decide_eq_false_iff_not, Bool.and_eq_true, Bool.or_eq_true, Bool.or_eq_false_iff] at hp; omega)))
    intro t75 e75
    rw [bsel_or] at e75
    repeat ((with_reducible first | refine side_d ?_ ?_ | refine side_q ?_ ?_); focus (first | (refine Sd.mk ?_; omega) | (refine Sq.mk ?_; omega) | exact Sd.mk trivial | exact Sq.mk trivial | (refine Sq.mk ?_; and_intros <;> first | omega | trivial | (simp; omega)) | (refine Sd.of fun hp => ?_; simp only [pc, and_true] at hp; (try subst_vars); simp only [decide_eq_true_eq, Bool.not_eq_true', decide_eq_false_iff_not, Bool.and_eq_true, Bool.or_eq_true, Bool.or_eq_false_iff] at hp; omega)))
    intro t76 e76
    rw [bsel_and] at e76
    repeat ((with_reducible first | refine side_d ?_ ?_ | refine side_q ?_ ?_); focus (first | (refine Sd.mk ?_; omega) | (refine Sq.mk ?_; omega) | exact Sd.mk trivial | exact Sq.mk trivial | (refine Sq.mk ?_; and_intros <;> first | omega | trivial | (simp; omega)) | (refine Sd.of fun hp => ?_; simp only [pc, and_true] at hp; (try subst_vars); simp only [decide_eq_true_eq, Bool.not_eq_true', decide_eq_false_iff_not, Bool.and_eq_true, Bool.or_eq_true, Bool.or_eq_false_iff] at hp; omega)))
    intro t77 e77
    rw [bsel_or] at e77
    repeat ((with_reducible first | refine side_d ?_ ?_ | refine side_q ?_ ?_); focus (first | (refine Sd.mk ?_; omega) | (refine Sq.mk ?_; omega) | exact Sd.mk trivial | exact Sq.mk trivial | (refine Sq.mk ?_; and_intros <;> first | omega | trivial | (simp; omega)) | (refine Sd.of fun hp => ?_; simp only [pc, and_true] at hp; (try subst_vars); simp only [decide_eq_true_eq, Bool.not_eq_true', decide_eq_false_iff_not, Bool.and_eq_true, Bool.or_eq_true, Bool.or_eq_false_iff] at hp; omega)))
    subst e62 e65 e68 e74 e75 e76 e77
    refine cx_if _ rfl (fun h77 => ?_) (fun h77 => ?_)
    ·
      (try simp only [go_sem] at h77)
      refine cx_sr ?_
      simp only [go_sem]
      repeat ((with_reducible first | refine side_d ?_ ?_ | refine side_q ?_ ?_); focus (first | (refine Sd.mk ?_; omega) | (refine Sq.mk ?_; omega) | exact Sd.mk trivial | exact Sq.mk trivial | (refine Sq.mk ?_; and_intros <;> first | omega | trivial | (simp; omega)) | (refine Sd.of fun hp => ?_; simp only [pc, and_true] at hp; (try subst_vars); simp only [decide_eq_true_eq, Bool.not_eq_true', decide_eq_false_iff_not, Bool.and_eq_true, Bool.or_eq_true, Bool.or_eq_false_iff] at hp; omega)))
      refine cx_ret ?_
      simp only [go_sem]
      refine finw_bool ?_
      have ha : at8 s i = t14 := e14.symm
      have hk : okAt s i = false := by
        simp only [okAt, sgnR, ha, Bool.and_eq_true, Bool.or_eq_true, Bool.not_eq_false', Bool.and_eq_false_iff, Bool.or_eq_false_iff, decide_eq_true_eq, decide_eq_false_iff_not]
        omega
      rw [← isName_okAt, range_all_false (i := i) (by omega) hk, Bool.false_and]
    ·
      (try simp only [go_sem] at h77)
      refine cx_skip ?_
      (try simp only [go_sem])
      refine cx_region ?_
      simp only [go_sem]
      repeat ((with_reducible first | refine side_d ?_ ?_ | refine side_q ?_ ?_); focus (first | (refine Sd.mk ?_; omega) | (refine Sq.mk ?_; omega) | exact Sd.mk trivial | exact Sq.mk trivial | (refine Sq.mk ?_; and_intros <;> first | omega | trivial | (simp; omega)) | (refine Sd.of fun hp => ?_; simp only [pc, and_true] at hp; (try subst_vars); simp only [decide_eq_true_eq, Bool.not_eq_true', decide_eq_false_iff_not, Bool.and_eq_true, Bool.or_eq_true, Bool.or_eq_false_iff] at hp; omega)))
      intro t11 e11
      (try replace e11 := w64 e11 (by omega) (by omega))
      repeat ((with_reducible first | refine side_d ?_ ?_ | refine side_q ?_ ?_); focus (first | (refine Sd.mk ?_; omega) | (refine Sq.mk ?_; omega) | exact Sd.mk trivial | exact Sq.mk trivial | (refine Sq.mk ?_; and_intros <;> first | omega | trivial | (simp; omega)) | (refine Sd.of fun hp => ?_; simp only [pc, and_true] at hp; (try subst_vars); simp only [decide_eq_true_eq, Bool.not_eq_true', decide_eq_false_iff_not, Bool.and_eq_true, Bool.or_eq_true, Bool.or_eq_false_iff] at hp; omega)))
      have ha : at8 s i = t14 := e14.symm
      have hk : okAt s i = true := by
        simp only [okAt, sgnR, ha, Bool.and_eq_true, Bool.or_eq_true, Bool.not_eq_true', Bool.and_eq_false_iff, Bool.or_eq_false_iff, decide_eq_true_eq, decide_eq_false_iff_not]
        omega
      refine rnd_next (i + 1) ⟨by omega, all_next hI1.2 hk⟩ (by first | omega | (dsimp only; omega)) (by (first | trivial | (simp only [go_sem, wk, wks, wkB, wkH, subw, subEw, hprew, ltb, subr, subEr]; done) | (simp only [go_sem, wk, wks, wkB, wkH, subw, subEw, hprew, ltb, subr, subEr]; and_intros <;> first | trivial | rfl | omega | assumption | exact Nat.le_refl _ | exact wks_refl _ | exact wk_refl _ | (intros; exact wks_refl _) | (simp; done) | (simp; omega))))
  ·
    (try simp only [go_sem] at h9)
    refine cx_exit ?_
    simp only [go_sem]
    refine cx_sr ?_
    simp only [go_sem]
    repeat ((with_reducible first | refine side_d ?_ ?_ | refine side_q ?_ ?_); focus (first | (refine Sd.mk ?_; omega) | (refine Sq.mk ?_; omega) | exact Sd.mk trivial | exact Sq.mk trivial | (refine Sq.mk ?_; and_intros <;> first | omega | trivial | (simp; omega)) | (refine Sd.of fun hp => ?_; simp only [pc, and_true] at hp; (try subst_vars); simp only [decide_eq_true_eq, Bool.not_eq_true', decide_eq_false_iff_not, Bool.and_eq_true, Bool.or_eq_true, Bool.or_eq_false_iff] at hp; omega)))
    intro t79 e79
    repeat ((with_reducible first | refine side_d ?_ ?_ | refine side_q ?_ ?_); focus (first | (refine Sd.mk ?_; omega) | (refine Sq.mk ?_; omega) | exact Sd.mk trivial | exact Sq.mk trivial | (refine Sq.mk ?_; and_intros <;> first | omega | trivial | (simp; omega)) | (refine Sd.of fun hp => ?_; simp only [pc, and_true] at hp; (try subst_vars); simp only [decide_eq_true_eq, Bool.not_eq_true', decide_eq_false_iff_not, Bool.and_eq_true, Bool.or_eq_true, Bool.or_eq_false_iff] at hp; omega)))
    intro t83 e83
    repeat ((with_reducible first | refine side_d ?_ ?_ | refine side_q ?_ ?_); focus (first | (refine Sd.mk ?_; omega) | (refine Sq.mk ?_; omega) | exact Sd.mk trivial | exact Sq.mk trivial | (refine Sq.mk ?_; and_intros <;> first | omega | trivial | (simp; omega)) | (refine Sd.of fun hp => ?_; simp only [pc, and_true] at hp; (try subst_vars); simp only [decide_eq_true_eq, Bool.not_eq_true', decide_eq_false_iff_not, Bool.and_eq_true, Bool.or_eq_true, Bool.or_eq_false_iff] at hp; omega)))
    intro t84 e84
    rw [bsel_and] at e84
    repeat ((with_reducible first | refine side_d ?_ ?_ | refine side_q ?_ ?_); focus (first | (refine Sd.mk ?_; omega) | (refine Sq.mk ?_; omega) | exact Sd.mk trivial | exact Sq.mk trivial | (refine Sq.mk ?_; and_intros <;> first | omega | trivial | (simp; omega)) | (refine Sd.of fun hp => ?_; simp only [pc, and_true] at hp; (try subst_vars); simp only [decide_eq_true_eq, Bool.not_eq_true', decide_eq_false_iff_not, Bool.and_eq_true, Bool.or_eq_true, Bool.or_eq_false_iff] at hp; omega)))
    intro t87 e87
    repeat ((with_reducible first | refine side_d ?_ ?_ | refine side_q ?_ ?_); focus (first | (refine Sd.mk ?_; omega) | (refine Sq.mk ?_; omega) | exact Sd.mk trivial | exact Sq.mk trivial | (refine Sq.mk ?_; and_intros <;> first | omega | trivial | (simp; omega)) | (refine Sd.of fun hp => ?_; simp only [pc, and_true] at hp; (try subst_vars); simp only [decide_eq_true_eq, Bool.not_eq_true', decide_eq_false_iff_not, Bool.and_eq_true, Bool.or_eq_true, Bool.or_eq_false_iff] at hp; omega)))
    intro t88 e88
    rw [bsel_and] at e88
    repeat ((with_reducible first | refine side_d ?_ ?_ | refine side_q ?_ ?_); focus (first | (refine Sd.mk ?_; omega) | (refine Sq.mk ?_; omega) | exact Sd.mk trivial | exact Sq.mk trivial | (refine Sq.mk ?_; and_intros <;> first | omega | trivial | (simp; omega)) | (refine Sd.of fun hp => ?_; simp only [pc, and_true] at hp; (try subst_vars); simp only [decide_eq_true_eq, Bool.not_eq_true', decide_eq_false_iff_not, Bool.and_eq_true, Bool.or_eq_true, Bool.or_eq_false_iff] at hp; omega)))
    intro t91 e91
    repeat ((with_reducible first | refine side_d ?_ ?_ | refine side_q ?_ ?_); focus (first | (refine Sd.mk ?_; omega) | (refine Sq.mk ?_; omega) | exact Sd.mk trivial | exact Sq.mk trivial | (refine Sq.mk ?_; and_intros <;> first | omega | trivial | (simp; omega)) | (refine Sd.of fun hp => ?_; simp only [pc, and_true] at hp; (try subst_vars); simp only [decide_eq_true_eq, Bool.not_eq_true', decide_eq_false_iff_not, Bool.and_eq_true, Bool.or_eq_true, Bool.or_eq_false_iff] at hp; omega)))
    intro t92 e92
    rw [bsel_and] at e92
    repeat ((with_reducible first | refine side_d ?_ ?_ | refine side_q ?_ ?_); focus (first | (refine Sd.mk ?_; omega) | (refine Sq.mk ?_; omega) | exact Sd.mk trivial | exact Sq.mk trivial | (refine Sq.mk ?_; and_intros <;> first | omega | trivial | (simp; omega)) | (refine Sd.of fun hp => ?_; simp only [pc, and_true] at hp; (try subst_vars); simp only [decide_eq_true_eq, Bool.not_eq_true', decide_eq_false_iff_not, Bool.and_eq_true, Bool.or_eq_true, Bool.or_eq_false_iff] at hp; omega)))
    subst e79 e83 e84 e87 e88 e91 e92
    refine cx_ret ?_
    simp only [go_sem]
    refine finw_bool ?_
    rw [← isName_okAt, range_all_true fun j hj => hI1.2 j (by omega), Bool.true_and]
theorem OpenOf_c (l : List Session) (who : Str) (hl : l.length < 4611686018427387904) : Meets Try.prog 49 [ssV l, .str who] (.int .i64 (openW l who)) [] := by
  refine meets_x (fn := Try.f49) Try.func49 rfl fb49 (by kernel_rfl) (Nat.le_of_ble_eq_true rfl) ?_
  refine cx_sr ?_
  simp only [go_sem]
  repeat ((with_reducible first | refine side_d ?_ ?_ | refine side_q ?_ ?_); focus (first | (refine Sd.mk ?_; omega) | (refine Sq.mk ?_; omega) | exact Sd.mk trivial | exact Sq.mk trivial | (refine Sq.mk ?_; and_intros <;> first | omega | trivial | (simp; omega)) | (refine Sd.of fun hp => ?_; simp only [pc, and_true] at hp; (try subst_vars); simp only [decide_eq_true_eq, Bool.not_eq_true', decide_eq_false_iff_not, Bool.and_eq_true, Bool.or_eq_true, Bool.or_eq_false_iff] at hp; omega)))
  refine cx_sr ?_
  simp only [go_sem]
  repeat ((with_reducible first | refine side_d ?_ ?_ | refine side_q ?_ ?_); focus (first | (refine Sd.mk ?_; omega) | (refine Sq.mk ?_; omega) | exact Sd.mk trivial | exact Sq.mk trivial | (refine Sq.mk ?_; and_intros <;> first | omega | trivial | (simp; omega)) | (refine Sd.of fun hp => ?_; simp only [pc, and_true] at hp; (try subst_vars); simp only [decide_eq_true_eq, Bool.not_eq_true', decide_eq_false_iff_not, Bool.and_eq_true, Bool.or_eq_true, Bool.or_eq_false_iff] at hp; omega)))
  refine cx_seq ?_
  refine cx_sr ?_
  simp only [go_sem]
  repeat ((with_reducible first | refine side_d ?_ ?_ | refine side_q ?_ ?_); focus (first | (refine Sd.mk ?_; omega) | (refine Sq.mk ?_; omega) | exact Sd.mk trivial | exact Sq.mk trivial | (refine Sq.mk ?_; and_intros <;> first | omega | trivial | (simp; omega)) | (refine Sd.of fun hp => ?_; simp only [pc, and_true] at hp; (try subst_vars); simp only [decide_eq_true_eq, Bool.not_eq_true', decide_eq_false_iff_not, Bool.and_eq_true, Bool.or_eq_true, Bool.or_eq_false_iff] at hp; omega)))
  refine cx_block ?_
  refine cx_loop0 (σ := Nat) (fun i => i ≤ l.length) (fun i => [⟨6, 0, [], .int .i64 (i : Nat)⟩, ⟨5, 0, [], .int .i64 (openW (l.take i) who)⟩]) [0, 1, 4] (fun i => l.length - i) 0 (by first | trivial | omega | simp) (Nat.zero_le _) (by (first | trivial | (simp only [go_sem, wk, wks, wkB, wkH, subw, subEw, hprew, ltb, subr, subEr]; done) | (simp only [go_sem, wk, wks, wkB, wkH, subw, subEw, hprew, ltb, subr, subEr]; and_intros <;> first | trivial | rfl | omega | assumption | exact Nat.le_refl _ | exact wks_refl _ | exact wk_refl _ | (intros; exact wks_refl _) | (simp; done) | (simp; omega)))) (fun i hI1 => ?_)
  simp only [go_sem]
  refine cx_seq ?_
  refine cx_sr ?_
  simp only [go_sem]
  repeat ((with_reducible first | refine side_d ?_ ?_ | refine side_q ?_ ?_); focus (first | (refine Sd.mk ?_; omega) | (refine Sq.mk ?_; omega) | exact Sd.mk trivial | exact Sq.mk trivial | (refine Sq.mk ?_; and_intros <;> first | omega | trivial | (simp; omega)) | (refine Sd.of fun hp => ?_; simp only [pc, and_true] at hp; (try subst_vars); simp only [decide_eq_true_eq, Bool.not_eq_true', decide_eq_false_iff_not, Bool.and_eq_true, Bool.or_eq_true, Bool.or_eq_false_iff] at hp; omega)))
  intro t10 e10
  repeat ((with_reducible first | refine side_d ?_ ?_ | refine side_q ?_ ?_); focus (first | (refine Sd.mk ?_; omega) | (refine Sq.mk ?_; omega) | exact Sd.mk trivial | exact Sq.mk trivial | (refine Sq.mk ?_; and_intros <;> first | omega | trivial | (simp; omega)) | (refine Sd.of fun hp => ?_; simp only [pc, and_true] at hp; (try subst_vars); simp only [decide_eq_true_eq, Bool.not_eq_true', decide_eq_false_iff_not, Bool.and_eq_true, Bool.or_eq_true, Bool.or_eq_false_iff] at hp; omega)))
  subst e10
  refine cx_if _ rfl (fun h10 => ?_) (fun h10 => ?_)
  ·
    (try simp only [go_sem] at h10)
    refine cx_skip ?_
    (try simp only [go_sem])
    refine cx_seq (cx_block ?_)
    refine cx_sr ?_
    simp only [go_sem]
    repeat ((with_reducible first | refine side_d ?_ ?_ | refine side_q ?_ ?_); focus (first | (refine Sd.mk ?_; omega) | (refine Sq.mk ?_; omega) | exact Sd.mk trivial | exact Sq.mk trivial | (refine Sq.mk ?_; and_intros <;> first | omega | trivial | (simp; omega)) | (refine Sd.of fun hp => ?_; simp only [pc, and_true] at hp; (try subst_vars); simp only [decide_eq_true_eq, Bool.not_eq_true', decide_eq_false_iff_not, Bool.and_eq_true, Bool.or_eq_true, Bool.or_eq_false_iff] at hp; omega)))
    intro t19 e19
    repeat ((with_reducible first | refine side_d ?_ ?_ | refine side_q ?_ ?_); focus (first | (refine Sd.mk ?_; omega) | (refine Sq.mk ?_; omega) | exact Sd.mk trivial | exact Sq.mk trivial | (refine Sq.mk ?_; and_intros <;> first | omega | trivial | (simp; omega)) | (refine Sd.of fun hp => ?_; simp only [pc, and_true] at hp; (try subst_vars); simp only [decide_eq_true_eq, Bool.not_eq_true', decide_eq_false_iff_not, Bool.and_eq_true, Bool.or_eq_true, Bool.or_eq_false_iff] at hp; omega)))
    subst e19
    refine cx_if _ rfl (fun h19 => ?_) (fun h19 => ?_)
    ·
      (try simp only [go_sem] at h19)
      refine cx_region ?_
      simp only [go_sem]
      repeat ((with_reducible first | refine side_d ?_ ?_ | refine side_q ?_ ?_); focus (first | (refine Sd.mk ?_; omega) | (refine Sq.mk ?_; omega) | exact Sd.mk trivial | exact Sq.mk trivial | (refine Sq.mk ?_; and_intros <;> first | omega | trivial | (simp; omega)) | (refine Sd.of fun hp => ?_; simp only [pc, and_true] at hp; (try subst_vars); simp only [decide_eq_true_eq, Bool.not_eq_true', decide_eq_false_iff_not, Bool.and_eq_true, Bool.or_eq_true, Bool.or_eq_false_iff] at hp; omega)))
      intro t26 e26
      (try replace e26 := w64 e26 (by omega) (by omega))
      repeat ((with_reducible first | refine side_d ?_ ?_ | refine side_q ?_ ?_); focus (first | (refine Sd.mk ?_; omega) | (refine Sq.mk ?_; omega) | exact Sd.mk trivial | exact Sq.mk trivial | (refine Sq.mk ?_; and_intros <;> first | omega | trivial | (simp; omega)) | (refine Sd.of fun hp => ?_; simp only [pc, and_true] at hp; (try subst_vars); simp only [decide_eq_true_eq, Bool.not_eq_true', decide_eq_false_iff_not, Bool.and_eq_true, Bool.or_eq_true, Bool.or_eq_false_iff] at hp; omega)))
      refine cx_region ?_
      simp only [go_sem]
      repeat ((with_reducible first | refine side_d ?_ ?_ | refine side_q ?_ ?_); focus (first | (refine Sd.mk ?_; omega) | (refine Sq.mk ?_; omega) | exact Sd.mk trivial | exact Sq.mk trivial | (refine Sq.mk ?_; and_intros <;> first | omega | trivial | (simp; omega)) | (refine Sd.of fun hp => ?_; simp only [pc, and_true] at hp; (try subst_vars); simp only [decide_eq_true_eq, Bool.not_eq_true', decide_eq_false_iff_not, Bool.and_eq_true, Bool.or_eq_true, Bool.or_eq_false_iff] at hp; omega)))
      intro t12 e12
      (try replace e12 := w64 e12 (by omega) (by omega))
      repeat ((with_reducible first | refine side_d ?_ ?_ | refine side_q ?_ ?_); focus (first | (refine Sd.mk ?_; omega) | (refine Sq.mk ?_; omega) | exact Sd.mk trivial | exact Sq.mk trivial | (refine Sq.mk ?_; and_intros <;> first | omega | trivial | (simp; omega)) | (refine Sd.of fun hp => ?_; simp only [pc, and_true] at hp; (try subst_vars); simp only [decide_eq_true_eq, Bool.not_eq_true', decide_eq_false_iff_not, Bool.and_eq_true, Bool.or_eq_true, Bool.or_eq_false_iff] at hp; omega)))
      have hx : t26 = openW (l.take (i + 1)) who := by
        rw [openW, foldl_take _ _ _ default (by omega), e26, if_pos h19]; rfl
      refine rnd_next (i + 1) (by omega) (by first | omega | (dsimp only; omega)) (by (first | trivial | (simp only [go_sem, wk, wks, wkB, wkH, subw, subEw, hprew, ltb, subr, subEr]; done) | (simp only [go_sem, wk, wks, wkB, wkH, subw, subEw, hprew, ltb, subr, subEr]; and_intros <;> first | trivial | rfl | omega | assumption | exact Nat.le_refl _ | exact wks_refl _ | exact wk_refl _ | (intros; exact wks_refl _) | (simp; done) | (simp; omega))))
    ·
      (try simp only [go_sem] at h19)
      refine cx_skip ?_
      (try simp only [go_sem])
      refine cx_region ?_
      simp only [go_sem]
      repeat ((with_reducible first | refine side_d ?_ ?_ | refine side_q ?_ ?_); focus (first | (refine Sd.mk ?_; omega) | (refine Sq.mk ?_; omega) | exact Sd.mk trivial | exact Sq.mk trivial | (refine Sq.mk ?_; and_intros <;> first | omega | trivial | (simp; omega)) | (refine Sd.of fun hp => ?_; simp only [pc, and_true] at hp; (try subst_vars); simp only [decide_eq_true_eq, Bool.not_eq_true', decide_eq_false_iff_not, Bool.and_eq_true, Bool.or_eq_true, Bool.or_eq_false_iff] at hp; omega)))
      intro t12 e12
      (try replace e12 := w64 e12 (by omega) (by omega))
      repeat ((with_reducible first | refine side_d ?_ ?_ | refine side_q ?_ ?_); focus (first | (refine Sd.mk ?_; omega) | (refine Sq.mk ?_; omega) | exact Sd.mk trivial | exact Sq.mk trivial | (refine Sq.mk ?_; and_intros <;> first | omega | trivial | (simp; omega)) | (refine Sd.of fun hp => ?_; simp only [pc, and_true] at hp; (try subst_vars); simp only [decide_eq_true_eq, Bool.not_eq_true', decide_eq_false_iff_not, Bool.and_eq_true, Bool.or_eq_true, Bool.or_eq_false_iff] at hp; omega)))
      have hx : openW (l.take i) who = openW (l.take (i + 1)) who := by
        rw [openW, openW, foldl_take _ _ _ default (by omega), if_neg h19]
      refine rnd_next (i + 1) (by omega) (by first | omega | (dsimp only; omega)) (by (first | trivial | (simp only [go_sem, wk, wks, wkB, wkH, subw, subEw, hprew, ltb, subr, subEr]; done) | (simp only [go_sem, wk, wks, wkB, wkH, subw, subEw, hprew, ltb, subr, subEr]; and_intros <;> first | trivial | rfl | omega | assumption | exact Nat.le_refl _ | exact wks_refl _ | exact wk_refl _ | (intros; exact wks_refl _) | (simp; done) | (simp; omega))))
  ·
    (try simp only [go_sem] at h10)
    refine cx_exit ?_
    simp only [go_sem]
    refine cx_sr ?_
    simp only [go_sem]
    repeat ((with_reducible first | refine side_d ?_ ?_ | refine side_q ?_ ?_); focus (first | (refine Sd.mk ?_; omega) | (refine Sq.mk ?_; omega) | exact Sd.mk trivial | exact Sq.mk trivial | (refine Sq.mk ?_; and_intros <;> first | omega | trivial | (simp; omega)) | (refine Sd.of fun hp => ?_; simp only [pc, and_true] at hp; (try subst_vars); simp only [decide_eq_true_eq, Bool.not_eq_true', decide_eq_false_iff_not, Bool.and_eq_true, Bool.or_eq_true, Bool.or_eq_false_iff] at hp; omega)))
    refine cx_ret ?_
    simp only [go_sem]
    refine finw_int ?_
    rw [List.take_of_length_le (by omega)]
theorem RChk1_c (n a b : Int) : Meets Try.prog 52 [.int .i64 n, .int .i64 a, .int .i64 b] (.bool (within n a b)) [] := by
  refine meets_x (fn := Try.f52) Try.func52 rfl fb52 (by kernel_rfl) (Nat.le_of_ble_eq_true rfl) ?_
  refine cx_sr ?_
  simp only [go_sem]
  repeat ((with_reducible first | refine side_d ?_ ?_ | refine side_q ?_ ?_); focus (first | (refine Sd.mk ?_; omega) | (refine Sq.mk ?_; omega) | exact Sd.mk trivial | exact Sq.mk trivial | (refine Sq.mk ?_; and_intros <;> first | omega | trivial | (simp; omega)) | (refine Sd.of fun hp => ?_; simp only [pc, and_true] at hp; (try subst_vars); simp only [decide_eq_true_eq, Bool.not_eq_true', decide_eq_false_iff_not, Bool.and_eq_true, Bool.or_eq_true, Bool.or_eq_false_iff] at hp; omega)))
  refine cx_sr ?_
  simp only [go_sem]
  repeat ((with_reducible first | refine side_d ?_ ?_ | refine side_q ?_ ?_); focus (first | (refine Sd.mk ?_; omega) | (refine Sq.mk ?_; omega) | exact Sd.mk trivial | exact Sq.mk trivial | (refine Sq.mk ?_; and_intros <;> first | omega | trivial | (simp; omega)) | (refine Sd.of fun hp => ?_; simp only [pc, and_true] at hp; (try subst_vars); simp only [decide_eq_true_eq, Bool.not_eq_true', decide_eq_false_iff_not, Bool.and_eq_true, Bool.or_eq_true, Bool.or_eq_false_iff] at hp; omega)))
  intro t9 e9
  repeat ((with_reducible first | refine side_d ?_ ?_ | refine side_q ?_ ?_); focus (first | (refine Sd.mk ?_; omega) | (refine Sq.mk ?_; omega) | exact Sd.mk trivial | exact Sq.mk trivial | (refine Sq.mk ?_; and_intros <;> first | omega | trivial | (simp; omega)) | (refine Sd.of fun hp => ?_; simp only [pc, and_true] at hp; (try subst_vars); simp only [decide_eq_true_eq, Bool.not_eq_true', decide_eq_false_iff_not, Bool.and_eq_true, Bool.or_eq_true, Bool.or_eq_false_iff] at hp; omega)))
  intro t13 e13
  repeat ((with_reducible first | refine side_d ?_ ?_ | refine side_q ?_ ?_); focus (first | (refine Sd.mk ?_; omega) | (refine Sq.mk ?_; omega) | exact Sd.mk trivial | exact Sq.mk trivial | (refine Sq.mk ?_; and_intros <;> first | omega | trivial | (simp; omega)) | (refine Sd.of fun hp => ?_; simp only [pc, and_true] at hp; (try subst_vars); simp only [decide_eq_true_eq, Bool.not_eq_true', decide_eq_false_iff_not, Bool.and_eq_true, Bool.or_eq_true, Bool.or_eq_false_iff] at hp; omega)))
  intro t14 e14
  rw [bsel_and] at e14
  repeat ((with_reducible first | refine side_d ?_ ?_ | refine side_q ?_ ?_); focus (first | (refine Sd.mk ?_; omega) | (refine Sq.mk ?_; omega) | exact Sd.mk trivial | exact Sq.mk trivial | (refine Sq.mk ?_; and_intros <;> first | omega | trivial | (simp; omega)) | (refine Sd.of fun hp => ?_; simp only [pc, and_true] at hp; (try subst_vars); simp only [decide_eq_true_eq, Bool.not_eq_true', decide_eq_false_iff_not, Bool.and_eq_true, Bool.or_eq_true, Bool.or_eq_false_iff] at hp; omega)))
  subst e9 e13 e14
  refine cx_ret ?_
  simp only [go_sem]
  exact finw_bool rfl
theorem RCheck_c (u : Uploads) (hl : u.ss.length < 4611686018427387904) (hw : ∀ s ∈ u.ss, s.who.length < 4611686018427387904) : Meets Try.prog 24 [u.enc] (.int .i64 (checkU u)) [] := by
  refine meets_x (fn := Try.f24) Try.func24 rfl fb24 (by kernel_rfl) (Nat.le_of_ble_eq_true rfl) ?_
  refine cx_sr ?_
  simp only [go_sem]
  repeat ((with_reducible first | refine side_d ?_ ?_ | refine side_q ?_ ?_); focus (first | (refine Sd.mk ?_; omega) | (refine Sq.mk ?_; omega) | exact Sd.mk trivial | exact Sq.mk trivial | (refine Sq.mk ?_; and_intros <;> first | omega | trivial | (simp; omega)) | (refine Sd.of fun hp => ?_; simp only [pc, and_true] at hp; (try subst_vars); simp only [decide_eq_true_eq, Bool.not_eq_true', decide_eq_false_iff_not, Bool.and_eq_true, Bool.or_eq_true, Bool.or_eq_false_iff] at hp; omega)))
  refine cx_sr ?_
  simp only [go_sem]
  repeat ((with_reducible first | refine side_d ?_ ?_ | refine side_q ?_ ?_); focus (first | (refine Sd.mk ?_; omega) | (refine Sq.mk ?_; omega) | exact Sd.mk trivial | exact Sq.mk trivial | (refine Sq.mk ?_; and_intros <;> first | omega | trivial | (simp; omega)) | (refine Sd.of fun hp => ?_; simp only [pc, and_true] at hp; (try subst_vars); simp only [decide_eq_true_eq, Bool.not_eq_true', decide_eq_false_iff_not, Bool.and_eq_true, Bool.or_eq_true, Bool.or_eq_false_iff] at hp; omega)))
  refine cx_seq ?_
  refine cx_sr ?_
  simp only [go_sem]
  repeat ((with_reducible first | refine side_d ?_ ?_ | refine side_q ?_ ?_); focus (first | (refine Sd.mk ?_; omega) | (refine Sq.mk ?_; omega) | exact Sd.mk trivial | exact Sq.mk trivial | (refine Sq.mk ?_; and_intros <;> first | omega | trivial | (simp; omega)) | (refine Sd.of fun hp => ?_; simp only [pc, and_true] at hp; (try subst_vars); simp only [decide_eq_true_eq, Bool.not_eq_true', decide_eq_false_iff_not, Bool.and_eq_true, Bool.or_eq_true, Bool.or_eq_false_iff] at hp; omega)))
  refine cw_m (RChk1_c _ _ _) (by first | exact wks_refl _ | (first | trivial | (simp only [go_sem, wk, wks, wkB, wkH, subw, subEw, hprew, ltb, subr, subEr]; done) | (simp only [go_sem, wk, wks, wkB, wkH, subw, subEw, hprew, ltb, subr, subEr]; and_intros <;> first | trivial | rfl | omega | assumption | exact Nat.le_refl _ | exact wks_refl _ | exact wk_refl _ | (intros; exact wks_refl _) | (simp; done) | (simp; omega)))) (by first | rfl | (simp only [go_sem]; assumption)) ?_
  simp only [go_sem]
  repeat ((with_reducible first | refine side_d ?_ ?_ | refine side_q ?_ ?_); focus (first | (refine Sd.mk ?_; omega) | (refine Sq.mk ?_; omega) | exact Sd.mk trivial | exact Sq.mk trivial | (refine Sq.mk ?_; and_intros <;> first | omega | trivial | (simp; omega)) | (refine Sd.of fun hp => ?_; simp only [pc, and_true] at hp; (try subst_vars); simp only [decide_eq_true_eq, Bool.not_eq_true', decide_eq_false_iff_not, Bool.and_eq_true, Bool.or_eq_true, Bool.or_eq_false_iff] at hp; omega)))
  intro t12 e12
  repeat ((with_reducible first | refine side_d ?_ ?_ | refine side_q ?_ ?_); focus (first | (refine Sd.mk ?_; omega) | (refine Sq.mk ?_; omega) | exact Sd.mk trivial | exact Sq.mk trivial | (refine Sq.mk ?_; and_intros <;> first | omega | trivial | (simp; omega)) | (refine Sd.of fun hp => ?_; simp only [pc, and_true] at hp; (try subst_vars); simp only [decide_eq_true_eq, Bool.not_eq_true', decide_eq_false_iff_not, Bool.and_eq_true, Bool.or_eq_true, Bool.or_eq_false_iff] at hp; omega)))
  refine ⟨_, fun hp => cw_m (RChk1_c _ _ _) (by first | exact wks_refl _ | (first | trivial | (simp only [go_sem, wk, wks, wkB, wkH, subw, subEw, hprew, ltb, subr, subEr]; done) | (simp only [go_sem, wk, wks, wkB, wkH, subw, subEw, hprew, ltb, subr, subEr]; and_intros <;> first | trivial | rfl | omega | assumption | exact Nat.le_refl _ | exact wks_refl _ | exact wk_refl _ | (intros; exact wks_refl _) | (simp; done) | (simp; omega)))) (by first | rfl | (simp only [go_sem]; assumption)) ⟨rfl, rfl⟩, ?_⟩
  simp only [go_sem]
  repeat ((with_reducible first | refine side_d ?_ ?_ | refine side_q ?_ ?_); focus (first | (refine Sd.mk ?_; omega) | (refine Sq.mk ?_; omega) | exact Sd.mk trivial | exact Sq.mk trivial | (refine Sq.mk ?_; and_intros <;> first | omega | trivial | (simp; omega)) | (refine Sd.of fun hp => ?_; simp only [pc, and_true] at hp; (try subst_vars); simp only [decide_eq_true_eq, Bool.not_eq_true', decide_eq_false_iff_not, Bool.and_eq_true, Bool.or_eq_true, Bool.or_eq_false_iff] at hp; omega)))
  intro t18 e18
  repeat ((with_reducible first | refine side_d ?_ ?_ | refine side_q ?_ ?_); focus (first | (refine Sd.mk ?_; omega) | (refine Sq.mk ?_; omega) | exact Sd.mk trivial | exact Sq.mk trivial | (refine Sq.mk ?_; and_intros <;> first | omega | trivial | (simp; omega)) | (refine Sd.of fun hp => ?_; simp only [pc, and_true] at hp; (try subst_vars); simp only [decide_eq_true_eq, Bool.not_eq_true', decide_eq_false_iff_not, Bool.and_eq_true, Bool.or_eq_true, Bool.or_eq_false_iff] at hp; omega)))
  intro t19 e19
  rw [bsel_or] at e19
  repeat ((with_reducible first | refine side_d ?_ ?_ | refine side_q ?_ ?_); focus (first | (refine Sd.mk ?_; omega) | (refine Sq.mk ?_; omega) | exact Sd.mk trivial | exact Sq.mk trivial | (refine Sq.mk ?_; and_intros <;> first | omega | trivial | (simp; omega)) | (refine Sd.of fun hp => ?_; simp only [pc, and_true] at hp; (try subst_vars); simp only [decide_eq_true_eq, Bool.not_eq_true', decide_eq_false_iff_not, Bool.and_eq_true, Bool.or_eq_true, Bool.or_eq_false_iff] at hp; omega)))
  refine ⟨_, fun hp => cw_m (RChk1_c _ _ _) (by first | exact wks_refl _ | (first | trivial | (simp only [go_sem, wk, wks, wkB, wkH, subw, subEw, hprew, ltb, subr, subEr]; done) | (simp only [go_sem, wk, wks, wkB, wkH, subw, subEw, hprew, ltb, subr, subEr]; and_intros <;> first | trivial | rfl | omega | assumption | exact Nat.le_refl _ | exact wks_refl _ | exact wk_refl _ | (intros; exact wks_refl _) | (simp; done) | (simp; omega)))) (by first | rfl | (simp only [go_sem]; assumption)) ⟨rfl, rfl⟩, ?_⟩
  simp only [go_sem]
  repeat ((with_reducible first | refine side_d ?_ ?_ | refine side_q ?_ ?_); focus (first | (refine Sd.mk ?_; omega) | (refine Sq.mk ?_; omega) | exact Sd.mk trivial | exact Sq.mk trivial | (refine Sq.mk ?_; and_intros <;> first | omega | trivial | (simp; omega)) | (refine Sd.of fun hp => ?_; simp only [pc, and_true] at hp; (try subst_vars); simp only [decide_eq_true_eq, Bool.not_eq_true', decide_eq_false_iff_not, Bool.and_eq_true, Bool.or_eq_true, Bool.or_eq_false_iff] at hp; omega)))
  intro t25 e25
  repeat ((with_reducible first | refine side_d ?_ ?_ | refine side_q ?_ ?_); focus (first | (refine Sd.mk ?_; omega) | (refine Sq.mk ?_; omega) | exact Sd.mk trivial | exact Sq.mk trivial | (refine Sq.mk ?_; and_intros <;> first | omega | trivial | (simp; omega)) | (refine Sd.of fun hp => ?_; simp only [pc, and_true] at hp; (try subst_vars); simp only [decide_eq_true_eq, Bool.not_eq_true', decide_eq_false_iff_not, Bool.and_eq_true, Bool.or_eq_true, Bool.or_eq_false_iff] at hp; omega)))
  intro t26 e26
  rw [bsel_or] at e26
  repeat ((with_reducible first | refine side_d ?_ ?_ | refine side_q ?_ ?_); focus (first | (refine Sd.mk ?_; omega) | (refine Sq.mk ?_; omega) | exact Sd.mk trivial | exact Sq.mk trivial | (refine Sq.mk ?_; and_intros <;> first | omega | trivial | (simp; omega)) | (refine Sd.of fun hp => ?_; simp only [pc, and_true] at hp; (try subst_vars); simp only [decide_eq_true_eq, Bool.not_eq_true', decide_eq_false_iff_not, Bool.and_eq_true, Bool.or_eq_true, Bool.or_eq_false_iff] at hp; omega)))
  subst e12 e18 e19 e25 e26
  refine cx_if _ rfl (fun h26 => ?_) (fun h26 => ?_)
  ·
    (try simp only [go_sem] at h26)
    refine cx_sr ?_
    simp only [go_sem]
    repeat ((with_reducible first | refine side_d ?_ ?_ | refine side_q ?_ ?_); focus (first | (refine Sd.mk ?_; omega) | (refine Sq.mk ?_; omega) | exact Sd.mk trivial | exact Sq.mk trivial | (refine Sq.mk ?_; and_intros <;> first | omega | trivial | (simp; omega)) | (refine Sd.of fun hp => ?_; simp only [pc, and_true] at hp; (try subst_vars); simp only [decide_eq_true_eq, Bool.not_eq_true', decide_eq_false_iff_not, Bool.and_eq_true, Bool.or_eq_true, Bool.or_eq_false_iff] at hp; omega)))
    refine cx_ret ?_
    simp only [go_sem]
    refine finw_int ?_
    rcases h26 with (h | h) | h <;> simp [checkU, h]
  ·
    (try simp only [go_sem] at h26)
    refine cx_skip ?_
    (try simp only [go_sem])
    refine cx_seq ?_
    refine cx_sr ?_
    simp only [go_sem]
    repeat ((with_reducible first | refine side_d ?_ ?_ | refine side_q ?_ ?_); focus (first | (refine Sd.mk ?_; omega) | (refine Sq.mk ?_; omega) | exact Sd.mk trivial | exact Sq.mk trivial | (refine Sq.mk ?_; and_intros <;> first | omega | trivial | (simp; omega)) | (refine Sd.of fun hp => ?_; simp only [pc, and_true] at hp; (try subst_vars); simp only [decide_eq_true_eq, Bool.not_eq_true', decide_eq_false_iff_not, Bool.and_eq_true, Bool.or_eq_true, Bool.or_eq_false_iff] at hp; omega)))
    intro t30 e30
    repeat ((with_reducible first | refine side_d ?_ ?_ | refine side_q ?_ ?_); focus (first | (refine Sd.mk ?_; omega) | (refine Sq.mk ?_; omega) | exact Sd.mk trivial | exact Sq.mk trivial | (refine Sq.mk ?_; and_intros <;> first | omega | trivial | (simp; omega)) | (refine Sd.of fun hp => ?_; simp only [pc, and_true] at hp; (try subst_vars); simp only [decide_eq_true_eq, Bool.not_eq_true', decide_eq_false_iff_not, Bool.and_eq_true, Bool.or_eq_true, Bool.or_eq_false_iff] at hp; omega)))
    subst e30
    refine cx_if _ rfl (fun h30 => ?_) (fun h30 => ?_)
    ·
      (try simp only [go_sem] at h30)
      refine cx_sr ?_
      simp only [go_sem]
      repeat ((with_reducible first | refine side_d ?_ ?_ | refine side_q ?_ ?_); focus (first | (refine Sd.mk ?_; omega) | (refine Sq.mk ?_; omega) | exact Sd.mk trivial | exact Sq.mk trivial | (refine Sq.mk ?_; and_intros <;> first | omega | trivial | (simp; omega)) | (refine Sd.of fun hp => ?_; simp only [pc, and_true] at hp; (try subst_vars); simp only [decide_eq_true_eq, Bool.not_eq_true', decide_eq_false_iff_not, Bool.and_eq_true, Bool.or_eq_true, Bool.or_eq_false_iff] at hp; omega)))
      refine cx_ret ?_
      simp only [go_sem]
      refine finw_int ?_
      simp [checkU, h26, h30]
    ·
      (try simp only [go_sem] at h30)
      refine cx_skip ?_
      (try simp only [go_sem])
      refine cx_seq ?_
      refine cx_sr ?_
      simp only [go_sem]
      repeat ((with_reducible first | refine side_d ?_ ?_ | refine side_q ?_ ?_); focus (first | (refine Sd.mk ?_; omega) | (refine Sq.mk ?_; omega) | exact Sd.mk trivial | exact Sq.mk trivial | (refine Sq.mk ?_; and_intros <;> first | omega | trivial | (simp; omega)) | (refine Sd.of fun hp => ?_; simp only [pc, and_true] at hp; (try subst_vars); simp only [decide_eq_true_eq, Bool.not_eq_true', decide_eq_false_iff_not, Bool.and_eq_true, Bool.or_eq_true, Bool.or_eq_false_iff] at hp; omega)))
      refine cx_block ?_
      refine cx_loop0 (σ := Nat) (fun i => i ≤ u.ss.length ∧ ∀ j, j < i → sessErr u (u.ss.getD j default) = 0) (fun i => [⟨4, 0, [], .int .i64 (i : Nat)⟩]) [1, 3] (fun i => u.ss.length - i) 0 ⟨Nat.zero_le _, fun j hj => absurd hj (Nat.not_lt_zero j)⟩ (Nat.zero_le _) (by (first | trivial | (simp only [go_sem, wk, wks, wkB, wkH, subw, subEw, hprew, ltb, subr, subEr]; done) | (simp only [go_sem, wk, wks, wkB, wkH, subw, subEw, hprew, ltb, subr, subEr]; and_intros <;> first | trivial | rfl | omega | assumption | exact Nat.le_refl _ | exact wks_refl _ | exact wk_refl _ | (intros; exact wks_refl _) | (simp; done) | (simp; omega)))) (fun i hI1 => ?_)
      simp only [go_sem]
      refine cx_seq ?_
      refine cx_sr ?_
      simp only [go_sem]
      repeat ((with_reducible first | refine side_d ?_ ?_ | refine side_q ?_ ?_); focus (first | (refine Sd.mk ?_; omega) | (refine Sq.mk ?_; omega) | exact Sd.mk trivial | exact Sq.mk trivial | (refine Sq.mk ?_; and_intros <;> first | omega | trivial | (simp; omega)) | (refine Sd.of fun hp => ?_; simp only [pc, and_true] at hp; (try subst_vars); simp only [decide_eq_true_eq, Bool.not_eq_true', decide_eq_false_iff_not, Bool.and_eq_true, Bool.or_eq_true, Bool.or_eq_false_iff] at hp; omega)))
      intro t35 e35
      repeat ((with_reducible first | refine side_d ?_ ?_ | refine side_q ?_ ?_); focus (first | (refine Sd.mk ?_; omega) | (refine Sq.mk ?_; omega) | exact Sd.mk trivial | exact Sq.mk trivial | (refine Sq.mk ?_; and_intros <;> first | omega | trivial | (simp; omega)) | (refine Sd.of fun hp => ?_; simp only [pc, and_true] at hp; (try subst_vars); simp only [decide_eq_true_eq, Bool.not_eq_true', decide_eq_false_iff_not, Bool.and_eq_true, Bool.or_eq_true, Bool.or_eq_false_iff] at hp; omega)))
      subst e35
      refine cx_if _ rfl (fun h35 => ?_) (fun h35 => ?_)
      ·
        (try simp only [go_sem] at h35)
        refine cx_skip ?_
        (try simp only [go_sem])
        refine cx_seq (cx_block ?_)
        refine cx_sr ?_
        simp only [go_sem]
        repeat ((with_reducible first | refine side_d ?_ ?_ | refine side_q ?_ ?_); focus (first | (refine Sd.mk ?_; omega) | (refine Sq.mk ?_; omega) | exact Sd.mk trivial | exact Sq.mk trivial | (refine Sq.mk ?_; and_intros <;> first | omega | trivial | (simp; omega)) | (refine Sd.of fun hp => ?_; simp only [pc, and_true] at hp; (try subst_vars); simp only [decide_eq_true_eq, Bool.not_eq_true', decide_eq_false_iff_not, Bool.and_eq_true, Bool.or_eq_true, Bool.or_eq_false_iff] at hp; omega)))
        refine cx_block ?_
        refine cx_seq ?_
        refine cx_sr ?_
        simp only [go_sem]
        repeat ((with_reducible first | refine side_d ?_ ?_ | refine side_q ?_ ?_); focus (first | (refine Sd.mk ?_; omega) | (refine Sq.mk ?_; omega) | exact Sd.mk trivial | exact Sq.mk trivial | (refine Sq.mk ?_; and_intros <;> first | omega | trivial | (simp; omega)) | (refine Sd.of fun hp => ?_; simp only [pc, and_true] at hp; (try subst_vars); simp only [decide_eq_true_eq, Bool.not_eq_true', decide_eq_false_iff_not, Bool.and_eq_true, Bool.or_eq_true, Bool.or_eq_false_iff] at hp; omega)))
        intro t49 e49
        (try replace e49 := w64 e49 (by omega) (by omega))
        repeat ((with_reducible first | refine side_d ?_ ?_ | refine side_q ?_ ?_); focus (first | (refine Sd.mk ?_; omega) | (refine Sq.mk ?_; omega) | exact Sd.mk trivial | exact Sq.mk trivial | (refine Sq.mk ?_; and_intros <;> first | omega | trivial | (simp; omega)) | (refine Sd.of fun hp => ?_; simp only [pc, and_true] at hp; (try subst_vars); simp only [decide_eq_true_eq, Bool.not_eq_true', decide_eq_false_iff_not, Bool.and_eq_true, Bool.or_eq_true, Bool.or_eq_false_iff] at hp; omega)))
        refine cw_m (RChk1_c _ _ _) (by first | exact wks_refl _ | (first | trivial | (simp only [go_sem, wk, wks, wkB, wkH, subw, subEw, hprew, ltb, subr, subEr]; done) | (simp only [go_sem, wk, wks, wkB, wkH, subw, subEw, hprew, ltb, subr, subEr]; and_intros <;> first | trivial | rfl | omega | assumption | exact Nat.le_refl _ | exact wks_refl _ | exact wk_refl _ | (intros; exact wks_refl _) | (simp; done) | (simp; omega)))) (by first | rfl | (simp only [go_sem]; assumption)) ?_
        simp only [go_sem]
        repeat ((with_reducible first | refine side_d ?_ ?_ | refine side_q ?_ ?_); focus (first | (refine Sd.mk ?_; omega) | (refine Sq.mk ?_; omega) | exact Sd.mk trivial | exact Sq.mk trivial | (refine Sq.mk ?_; and_intros <;> first | omega | trivial | (simp; omega)) | (refine Sd.of fun hp => ?_; simp only [pc, and_true] at hp; (try subst_vars); simp only [decide_eq_true_eq, Bool.not_eq_true', decide_eq_false_iff_not, Bool.and_eq_true, Bool.or_eq_true, Bool.or_eq_false_iff] at hp; omega)))
        intro t51 e51
        repeat ((with_reducible first | refine side_d ?_ ?_ | refine side_q ?_ ?_); focus (first | (refine Sd.mk ?_; omega) | (refine Sq.mk ?_; omega) | exact Sd.mk trivial | exact Sq.mk trivial | (refine Sq.mk ?_; and_intros <;> first | omega | trivial | (simp; omega)) | (refine Sd.of fun hp => ?_; simp only [pc, and_true] at hp; (try subst_vars); simp only [decide_eq_true_eq, Bool.not_eq_true', decide_eq_false_iff_not, Bool.and_eq_true, Bool.or_eq_true, Bool.or_eq_false_iff] at hp; omega)))
        subst e51
        refine cx_if _ rfl (fun h43 => ?_) (fun h43 => ?_)
        ·
          (try simp only [go_sem] at h43)
          refine cx_skip ?_
          (try simp only [go_sem])
          refine cx_if _ rfl (fun h43b => ?_) (fun h43b => (by first | cases h43b | (simp at h43b; done) | (simp at h43b; contradiction) | simp_all))
          refine cx_sr ?_
          simp only [go_sem]
          repeat ((with_reducible first | refine side_d ?_ ?_ | refine side_q ?_ ?_); focus (first | (refine Sd.mk ?_; omega) | (refine Sq.mk ?_; omega) | exact Sd.mk trivial | exact Sq.mk trivial | (refine Sq.mk ?_; and_intros <;> first | omega | trivial | (simp; omega)) | (refine Sd.of fun hp => ?_; simp only [pc, and_true] at hp; (try subst_vars); simp only [decide_eq_true_eq, Bool.not_eq_true', decide_eq_false_iff_not, Bool.and_eq_true, Bool.or_eq_true, Bool.or_eq_false_iff] at hp; omega)))
          refine cx_ret ?_
          simp only [go_sem]
          subst e49
          have hk : sessErr u (u.ss.getD i default) = 3 := if_pos (by rw [h43]; simp)
          refine finw_int ?_
          have hf := firstErr_at (f := sessErr u) (i := i) (by omega) hI1.2 (by rw [hk]; simp)
          rw [checkU, if_neg (by simp [h26]), if_neg h30, hf, hk, if_pos (by simp)]
        ·
          (try simp only [go_sem] at h43)
          refine cx_sr ?_
          simp only [go_sem]
          repeat ((with_reducible first | refine side_d ?_ ?_ | refine side_q ?_ ?_); focus (first | (refine Sd.mk ?_; omega) | (refine Sq.mk ?_; omega) | exact Sd.mk trivial | exact Sq.mk trivial | (refine Sq.mk ?_; and_intros <;> first | omega | trivial | (simp; omega)) | (refine Sd.of fun hp => ?_; simp only [pc, and_true] at hp; (try subst_vars); simp only [decide_eq_true_eq, Bool.not_eq_true', decide_eq_false_iff_not, Bool.and_eq_true, Bool.or_eq_true, Bool.or_eq_false_iff] at hp; omega)))
          refine cw_m (RChk1_c _ _ _) (by first | exact wks_refl _ | (first | trivial | (simp only [go_sem, wk, wks, wkB, wkH, subw, subEw, hprew, ltb, subr, subEr]; done) | (simp only [go_sem, wk, wks, wkB, wkH, subw, subEw, hprew, ltb, subr, subEr]; and_intros <;> first | trivial | rfl | omega | assumption | exact Nat.le_refl _ | exact wks_refl _ | exact wk_refl _ | (intros; exact wks_refl _) | (simp; done) | (simp; omega)))) (by first | rfl | (simp only [go_sem]; assumption)) ?_
          simp only [go_sem]
          repeat ((with_reducible first | refine side_d ?_ ?_ | refine side_q ?_ ?_); focus (first | (refine Sd.mk ?_; omega) | (refine Sq.mk ?_; omega) | exact Sd.mk trivial | exact Sq.mk trivial | (refine Sq.mk ?_; and_intros <;> first | omega | trivial | (simp; omega)) | (refine Sd.of fun hp => ?_; simp only [pc, and_true] at hp; (try subst_vars); simp only [decide_eq_true_eq, Bool.not_eq_true', decide_eq_false_iff_not, Bool.and_eq_true, Bool.or_eq_true, Bool.or_eq_false_iff] at hp; omega)))
          intro t56 e56
          repeat ((with_reducible first | refine side_d ?_ ?_ | refine side_q ?_ ?_); focus (first | (refine Sd.mk ?_; omega) | (refine Sq.mk ?_; omega) | exact Sd.mk trivial | exact Sq.mk trivial | (refine Sq.mk ?_; and_intros <;> first | omega | trivial | (simp; omega)) | (refine Sd.of fun hp => ?_; simp only [pc, and_true] at hp; (try subst_vars); simp only [decide_eq_true_eq, Bool.not_eq_true', decide_eq_false_iff_not, Bool.and_eq_true, Bool.or_eq_true, Bool.or_eq_false_iff] at hp; omega)))
          subst e56
          refine cx_if _ rfl (fun h43b => ?_) (fun h43b => ?_)
          ·
            (try simp only [go_sem] at h43b)
            refine cx_skip ?_
            (try simp only [go_sem])
            refine cx_if _ rfl (fun h43c => ?_) (fun h43c => (by first | cases h43c | (simp at h43c; done) | (simp at h43c; contradiction) | simp_all))
            refine cx_sr ?_
            simp only [go_sem]
            repeat ((with_reducible first | refine side_d ?_ ?_ | refine side_q ?_ ?_); focus (first | (refine Sd.mk ?_; omega) | (refine Sq.mk ?_; omega) | exact Sd.mk trivial | exact Sq.mk trivial | (refine Sq.mk ?_; and_intros <;> first | omega | trivial | (simp; omega)) | (refine Sd.of fun hp => ?_; simp only [pc, and_true] at hp; (try subst_vars); simp only [decide_eq_true_eq, Bool.not_eq_true', decide_eq_false_iff_not, Bool.and_eq_true, Bool.or_eq_true, Bool.or_eq_false_iff] at hp; omega)))
            refine cx_ret ?_
            simp only [go_sem]
            have hk : sessErr u (u.ss.getD i default) = 3 := if_pos (by rw [h43b]; simp)
            refine finw_int ?_
            have hf := firstErr_at (f := sessErr u) (i := i) (by omega) hI1.2 (by rw [hk]; simp)
            rw [checkU, if_neg (by simp [h26]), if_neg h30, hf, hk, if_pos (by simp)]
          ·
            (try simp only [go_sem] at h43b)
            refine cx_region ?_
            simp only [go_sem]
            repeat ((with_reducible first | refine side_d ?_ ?_ | refine side_q ?_ ?_); focus (first | (refine Sd.mk ?_; omega) | (refine Sq.mk ?_; omega) | exact Sd.mk trivial | exact Sq.mk trivial | (refine Sq.mk ?_; and_intros <;> first | omega | trivial | (simp; omega)) | (refine Sd.of fun hp => ?_; simp only [pc, and_true] at hp; (try subst_vars); simp only [decide_eq_true_eq, Bool.not_eq_true', decide_eq_false_iff_not, Bool.and_eq_true, Bool.or_eq_true, Bool.or_eq_false_iff] at hp; omega)))
            refine cw_m (RChk1_c _ _ _) (by first | exact wks_refl _ | (first | trivial | (simp only [go_sem, wk, wks, wkB, wkH, subw, subEw, hprew, ltb, subr, subEr]; done) | (simp only [go_sem, wk, wks, wkB, wkH, subw, subEw, hprew, ltb, subr, subEr]; and_intros <;> first | trivial | rfl | omega | assumption | exact Nat.le_refl _ | exact wks_refl _ | exact wk_refl _ | (intros; exact wks_refl _) | (simp; done) | (simp; omega)))) (by first | rfl | (simp only [go_sem]; assumption)) ?_
            simp only [go_sem]
            repeat ((with_reducible first | refine side_d ?_ ?_ | refine side_q ?_ ?_); focus (first | (refine Sd.mk ?_; omega) | (refine Sq.mk ?_; omega) | exact Sd.mk trivial | exact Sq.mk trivial | (refine Sq.mk ?_; and_intros <;> first | omega | trivial | (simp; omega)) | (refine Sd.of fun hp => ?_; simp only [pc, and_true] at hp; (try subst_vars); simp only [decide_eq_true_eq, Bool.not_eq_true', decide_eq_false_iff_not, Bool.and_eq_true, Bool.or_eq_true, Bool.or_eq_false_iff] at hp; omega)))
            intro t61 e61
            repeat ((with_reducible first | refine side_d ?_ ?_ | refine side_q ?_ ?_); focus (first | (refine Sd.mk ?_; omega) | (refine Sq.mk ?_; omega) | exact Sd.mk trivial | exact Sq.mk trivial | (refine Sq.mk ?_; and_intros <;> first | omega | trivial | (simp; omega)) | (refine Sd.of fun hp => ?_; simp only [pc, and_true] at hp; (try subst_vars); simp only [decide_eq_true_eq, Bool.not_eq_true', decide_eq_false_iff_not, Bool.and_eq_true, Bool.or_eq_true, Bool.or_eq_false_iff] at hp; omega)))
            subst e61
            refine cx_if _ rfl (fun h43c => ?_) (fun h43c => ?_)
            ·
              (try simp only [go_sem] at h43c)
              refine cx_sr ?_
              simp only [go_sem]
              repeat ((with_reducible first | refine side_d ?_ ?_ | refine side_q ?_ ?_); focus (first | (refine Sd.mk ?_; omega) | (refine Sq.mk ?_; omega) | exact Sd.mk trivial | exact Sq.mk trivial | (refine Sq.mk ?_; and_intros <;> first | omega | trivial | (simp; omega)) | (refine Sd.of fun hp => ?_; simp only [pc, and_true] at hp; (try subst_vars); simp only [decide_eq_true_eq, Bool.not_eq_true', decide_eq_false_iff_not, Bool.and_eq_true, Bool.or_eq_true, Bool.or_eq_false_iff] at hp; omega)))
              refine cx_ret ?_
              simp only [go_sem]
              have hk : sessErr u (u.ss.getD i default) = 3 := if_pos (by rw [h43c]; simp)
              refine finw_int ?_
              have hf := firstErr_at (f := sessErr u) (i := i) (by omega) hI1.2 (by rw [hk]; simp)
              rw [checkU, if_neg (by simp [h26]), if_neg h30, hf, hk, if_pos (by simp)]
            ·
              (try simp only [go_sem] at h43c)
              refine cx_sr ?_
              simp only [go_sem]
              repeat ((with_reducible first | refine side_d ?_ ?_ | refine side_q ?_ ?_); focus (first | (refine Sd.mk ?_; omega) | (refine Sq.mk ?_; omega) | exact Sd.mk trivial | exact Sq.mk trivial | (refine Sq.mk ?_; and_intros <;> first | omega | trivial | (simp; omega)) | (refine Sd.of fun hp => ?_; simp only [pc, and_true] at hp; (try subst_vars); simp only [decide_eq_true_eq, Bool.not_eq_true', decide_eq_false_iff_not, Bool.and_eq_true, Bool.or_eq_true, Bool.or_eq_false_iff] at hp; omega)))
              refine cw_m (RIsName_c (u.ss.getD i default).who (hw _ (getD_mem (by omega)))) (by first | exact wks_refl _ | (first | trivial | (simp only [go_sem, wk, wks, wkB, wkH, subw, subEw, hprew, ltb, subr, subEr]; done) | (simp only [go_sem, wk, wks, wkB, wkH, subw, subEw, hprew, ltb, subr, subEr]; and_intros <;> first | trivial | rfl | omega | assumption | exact Nat.le_refl _ | exact wks_refl _ | exact wk_refl _ | (intros; exact wks_refl _) | (simp; done) | (simp; omega)))) (by first | rfl | (simp only [go_sem]; assumption)) ?_
              simp only [go_sem]
              repeat ((with_reducible first | refine side_d ?_ ?_ | refine side_q ?_ ?_); focus (first | (refine Sd.mk ?_; omega) | (refine Sq.mk ?_; omega) | exact Sd.mk trivial | exact Sq.mk trivial | (refine Sq.mk ?_; and_intros <;> first | omega | trivial | (simp; omega)) | (refine Sd.of fun hp => ?_; simp only [pc, and_true] at hp; (try subst_vars); simp only [decide_eq_true_eq, Bool.not_eq_true', decide_eq_false_iff_not, Bool.and_eq_true, Bool.or_eq_true, Bool.or_eq_false_iff] at hp; omega)))
              intro t66 e66
              repeat ((with_reducible first | refine side_d ?_ ?_ | refine side_q ?_ ?_); focus (first | (refine Sd.mk ?_; omega) | (refine Sq.mk ?_; omega) | exact Sd.mk trivial | exact Sq.mk trivial | (refine Sq.mk ?_; and_intros <;> first | omega | trivial | (simp; omega)) | (refine Sd.of fun hp => ?_; simp only [pc, and_true] at hp; (try subst_vars); simp only [decide_eq_true_eq, Bool.not_eq_true', decide_eq_false_iff_not, Bool.and_eq_true, Bool.or_eq_true, Bool.or_eq_false_iff] at hp; omega)))
              subst e66
              refine cx_if _ rfl (fun h62 => ?_) (fun h62 => ?_)
              ·
                (try simp only [go_sem] at h62)
                refine cx_sr ?_
                simp only [go_sem]
                repeat ((with_reducible first | refine side_d ?_ ?_ | refine side_q ?_ ?_); focus (first | (refine Sd.mk ?_; omega) | (refine Sq.mk ?_; omega) | exact Sd.mk trivial | exact Sq.mk trivial | (refine Sq.mk ?_; and_intros <;> first | omega | trivial | (simp; omega)) | (refine Sd.of fun hp => ?_; simp only [pc, and_true] at hp; (try subst_vars); simp only [decide_eq_true_eq, Bool.not_eq_true', decide_eq_false_iff_not, Bool.and_eq_true, Bool.or_eq_true, Bool.or_eq_false_iff] at hp; omega)))
                refine cx_ret ?_
                simp only [go_sem]
                subst e49
                have hk : sessErr u (u.ss.getD i default) = 1 := by rw [sessErr, if_neg (by simp only [wrap]; rw [h43, h43b, h43c]; simp), if_pos h62]
                refine finw_int ?_
                have hf := firstErr_at (f := sessErr u) (i := i) (by omega) hI1.2 (by rw [hk]; simp)
                rw [checkU, if_neg (by simp [h26]), if_neg h30, hf, hk, if_pos (by simp)]
              ·
                (try simp only [go_sem] at h62)
                refine cx_sr ?_
                simp only [go_sem]
                repeat ((with_reducible first | refine side_d ?_ ?_ | refine side_q ?_ ?_); focus (first | (refine Sd.mk ?_; omega) | (refine Sq.mk ?_; omega) | exact Sd.mk trivial | exact Sq.mk trivial | (refine Sq.mk ?_; and_intros <;> first | omega | trivial | (simp; omega)) | (refine Sd.of fun hp => ?_; simp only [pc, and_true] at hp; (try subst_vars); simp only [decide_eq_true_eq, Bool.not_eq_true', decide_eq_false_iff_not, Bool.and_eq_true, Bool.or_eq_true, Bool.or_eq_false_iff] at hp; omega)))
                intro t73 e73
                repeat ((with_reducible first | refine side_d ?_ ?_ | refine side_q ?_ ?_); focus (first | (refine Sd.mk ?_; omega) | (refine Sq.mk ?_; omega) | exact Sd.mk trivial | exact Sq.mk trivial | (refine Sq.mk ?_; and_intros <;> first | omega | trivial | (simp; omega)) | (refine Sd.of fun hp => ?_; simp only [pc, and_true] at hp; (try subst_vars); simp only [decide_eq_true_eq, Bool.not_eq_true', decide_eq_false_iff_not, Bool.and_eq_true, Bool.or_eq_true, Bool.or_eq_false_iff] at hp; omega)))
                subst e73
                refine cx_if _ rfl (fun h67 => ?_) (fun h67 => ?_)
                ·
                  (try simp only [go_sem] at h67)
                  refine cx_sr ?_
                  simp only [go_sem]
                  repeat ((with_reducible first | refine side_d ?_ ?_ | refine side_q ?_ ?_); focus (first | (refine Sd.mk ?_; omega) | (refine Sq.mk ?_; omega) | exact Sd.mk trivial | exact Sq.mk trivial | (refine Sq.mk ?_; and_intros <;> first | omega | trivial | (simp; omega)) | (refine Sd.of fun hp => ?_; simp only [pc, and_true] at hp; (try subst_vars); simp only [decide_eq_true_eq, Bool.not_eq_true', decide_eq_false_iff_not, Bool.and_eq_true, Bool.or_eq_true, Bool.or_eq_false_iff] at hp; omega)))
                  refine cx_ret ?_
                  simp only [go_sem]
                  subst e49
                  have hk : sessErr u (u.ss.getD i default) = 2 := by rw [sessErr, if_neg (by simp only [wrap]; rw [h43, h43b, h43c]; simp), if_neg (by rw [h62]; simp), if_pos h67]
                  refine finw_int ?_
                  have hf := firstErr_at (f := sessErr u) (i := i) (by omega) hI1.2 (by rw [hk]; simp)
                  rw [checkU, if_neg (by simp [h26]), if_neg h30, hf, hk, if_pos (by simp)]
                ·
                  (try simp only [go_sem] at h67)
                  refine cx_skip ?_
                  (try simp only [go_sem])
                  refine cx_region ?_
                  simp only [go_sem]
                  repeat ((with_reducible first | refine side_d ?_ ?_ | refine side_q ?_ ?_); focus (first | (refine Sd.mk ?_; omega) | (refine Sq.mk ?_; omega) | exact Sd.mk trivial | exact Sq.mk trivial | (refine Sq.mk ?_; and_intros <;> first | omega | trivial | (simp; omega)) | (refine Sd.of fun hp => ?_; simp only [pc, and_true] at hp; (try subst_vars); simp only [decide_eq_true_eq, Bool.not_eq_true', decide_eq_false_iff_not, Bool.and_eq_true, Bool.or_eq_true, Bool.or_eq_false_iff] at hp; omega)))
                  intro t37 e37
                  (try replace e37 := w64 e37 (by omega) (by omega))
                  repeat ((with_reducible first | refine side_d ?_ ?_ | refine side_q ?_ ?_); focus (first | (refine Sd.mk ?_; omega) | (refine Sq.mk ?_; omega) | exact Sd.mk trivial | exact Sq.mk trivial | (refine Sq.mk ?_; and_intros <;> first | omega | trivial | (simp; omega)) | (refine Sd.of fun hp => ?_; simp only [pc, and_true] at hp; (try subst_vars); simp only [decide_eq_true_eq, Bool.not_eq_true', decide_eq_false_iff_not, Bool.and_eq_true, Bool.or_eq_true, Bool.or_eq_false_iff] at hp; omega)))
                  subst e49
                  have hk : sessErr u (u.ss.getD i default) = 0 := by
                    rw [sessErr, if_neg (by simp only [wrap]; rw [h43, h43b, h43c]; simp), if_neg (by rw [h62]; simp), if_neg h67]
                  refine rnd_next (i + 1) ⟨by omega, all_next hI1.2 hk⟩ (by first | omega | (dsimp only; omega)) (by (first | trivial | (simp only [go_sem, wk, wks, wkB, wkH, subw, subEw, hprew, ltb, subr, subEr]; done) | (simp only [go_sem, wk, wks, wkB, wkH, subw, subEw, hprew, ltb, subr, subEr]; and_intros <;> first | trivial | rfl | omega | assumption | exact Nat.le_refl _ | exact wks_refl _ | exact wk_refl _ | (intros; exact wks_refl _) | (simp; done) | (simp; omega))))
      ·
        (try simp only [go_sem] at h35)
        have hf := firstErr_none (f := sessErr u) (l := u.ss) (d := default) fun j hj => hI1.2 j (by omega)
        refine cx_exit ?_
        simp only [go_sem]
        refine cx_seq ?_
        refine cx_sr ?_
        simp only [go_sem]
        repeat ((with_reducible first | refine side_d ?_ ?_ | refine side_q ?_ ?_); focus (first | (refine Sd.mk ?_; omega) | (refine Sq.mk ?_; omega) | exact Sd.mk trivial | exact Sq.mk trivial | (refine Sq.mk ?_; and_intros <;> first | omega | trivial | (simp; omega)) | (refine Sd.of fun hp => ?_; simp only [pc, and_true] at hp; (try subst_vars); simp only [decide_eq_true_eq, Bool.not_eq_true', decide_eq_false_iff_not, Bool.and_eq_true, Bool.or_eq_true, Bool.or_eq_false_iff] at hp; omega)))
        refine cx_block ?_
        refine cx_loop0 (σ := Nat) (fun i => 1 ≤ i ∧ (i = 1 ∨ i ≤ u.ss.length) ∧ ∀ j, 1 ≤ j → j < i → risesAt u.ss j = true) (fun i => [⟨6, 0, [], .int .i64 (i : Nat)⟩]) [1] (fun i => u.ss.length - i) 1 ⟨Nat.le_refl _, .inl rfl, fun j hj hj' => by omega⟩ (Nat.zero_le _) (by (first | trivial | (simp only [go_sem, wk, wks, wkB, wkH, subw, subEw, hprew, ltb, subr, subEr]; done) | (simp only [go_sem, wk, wks, wkB, wkH, subw, subEw, hprew, ltb, subr, subEr]; and_intros <;> first | trivial | rfl | omega | assumption | exact Nat.le_refl _ | exact wks_refl _ | exact wk_refl _ | (intros; exact wks_refl _) | (simp; done) | (simp; omega)))) (fun i hI2 => ?_)
        simp only [go_sem]
        refine cx_seq ?_
        refine cx_sr ?_
        simp only [go_sem]
        repeat ((with_reducible first | refine side_d ?_ ?_ | refine side_q ?_ ?_); focus (first | (refine Sd.mk ?_; omega) | (refine Sq.mk ?_; omega) | exact Sd.mk trivial | exact Sq.mk trivial | (refine Sq.mk ?_; and_intros <;> first | omega | trivial | (simp; omega)) | (refine Sd.of fun hp => ?_; simp only [pc, and_true] at hp; (try subst_vars); simp only [decide_eq_true_eq, Bool.not_eq_true', decide_eq_false_iff_not, Bool.and_eq_true, Bool.or_eq_true, Bool.or_eq_false_iff] at hp; omega)))
        intro t78 e78
        repeat ((with_reducible first | refine side_d ?_ ?_ | refine side_q ?_ ?_); focus (first | (refine Sd.mk ?_; omega) | (refine Sq.mk ?_; omega) | exact Sd.mk trivial | exact Sq.mk trivial | (refine Sq.mk ?_; and_intros <;> first | omega | trivial | (simp; omega)) | (refine Sd.of fun hp => ?_; simp only [pc, and_true] at hp; (try subst_vars); simp only [decide_eq_true_eq, Bool.not_eq_true', decide_eq_false_iff_not, Bool.and_eq_true, Bool.or_eq_true, Bool.or_eq_false_iff] at hp; omega)))
        subst e78
        refine cx_if _ rfl (fun h78 => ?_) (fun h78 => ?_)
        ·
          (try simp only [go_sem] at h78)
          refine cx_skip ?_
          (try simp only [go_sem])
          refine cx_seq (cx_block ?_)
          refine cx_seq (cx_draw mixed [] (.first 0 (.first 1 (.first 2 (.first 3 (.first 4 (.first 5 (.first 6 (.first 7 (.first 8 (.first 9 (.first 10 (.first 11 (.first 12 (.first 13 (.done))))))))))))))) (by kernel_rfl) ?_)
          simp only [go_sem]
          repeat ((with_reducible first | refine side_d ?_ ?_ | refine side_q ?_ ?_); focus (first | (refine Sd.mk ?_; omega) | (refine Sq.mk ?_; omega) | exact Sd.mk trivial | exact Sq.mk trivial | (refine Sq.mk ?_; and_intros <;> first | omega | trivial | (simp; omega)) | (refine Sd.of fun hp => ?_; simp only [pc, and_true] at hp; (try subst_vars); simp only [decide_eq_true_eq, Bool.not_eq_true', decide_eq_false_iff_not, Bool.and_eq_true, Bool.or_eq_true, Bool.or_eq_false_iff] at hp; omega)))
          intro t90 e90
          (try replace e90 := w64 e90 (by omega) (by omega))
          repeat ((with_reducible first | refine side_d ?_ ?_ | refine side_q ?_ ?_); focus (first | (refine Sd.mk ?_; omega) | (refine Sq.mk ?_; omega) | exact Sd.mk trivial | exact Sq.mk trivial | (refine Sq.mk ?_; and_intros <;> first | omega | trivial | (simp; omega)) | (refine Sd.of fun hp => ?_; simp only [pc, and_true] at hp; (try subst_vars); simp only [decide_eq_true_eq, Bool.not_eq_true', decide_eq_false_iff_not, Bool.and_eq_true, Bool.or_eq_true, Bool.or_eq_false_iff] at hp; omega)))
          intro t94 e94
          repeat ((with_reducible first | refine side_d ?_ ?_ | refine side_q ?_ ?_); focus (first | (refine Sd.mk ?_; omega) | (refine Sq.mk ?_; omega) | exact Sd.mk trivial | exact Sq.mk trivial | (refine Sq.mk ?_; and_intros <;> first | omega | trivial | (simp; omega)) | (refine Sd.of fun hp => ?_; simp only [pc, and_true] at hp; (try subst_vars); simp only [decide_eq_true_eq, Bool.not_eq_true', decide_eq_false_iff_not, Bool.and_eq_true, Bool.or_eq_true, Bool.or_eq_false_iff] at hp; omega)))
          subst e94
          refine cx_if _ rfl (fun h94 => ?_) (fun h94 => ?_)
          ·
            (try simp only [go_sem] at h94)
            refine cx_sr ?_
            simp only [go_sem]
            repeat ((with_reducible first | refine side_d ?_ ?_ | refine side_q ?_ ?_); focus (first | (refine Sd.mk ?_; omega) | (refine Sq.mk ?_; omega) | exact Sd.mk trivial | exact Sq.mk trivial | (refine Sq.mk ?_; and_intros <;> first | omega | trivial | (simp; omega)) | (refine Sd.of fun hp => ?_; simp only [pc, and_true] at hp; (try subst_vars); simp only [decide_eq_true_eq, Bool.not_eq_true', decide_eq_false_iff_not, Bool.and_eq_true, Bool.or_eq_true, Bool.or_eq_false_iff] at hp; omega)))
            refine cx_ret ?_
            simp only [go_sem]
            refine finw_int ?_
            have hk : ((i : Int) - 1).toNat = i - 1 := by omega
            subst e90
            rw [hk] at h94
            have hr : ((List.range u.ss.length).all fun i => i = 0 || risesAt u.ss i) = false := range_all_false (i := i) (by omega) (by
              have : ¬ i = 0 := by omega
              simp only [this, decide_false, Bool.false_or, risesAt, decide_eq_false_iff_not]; omega)
            rw [checkU, if_neg (by simp [h26]), if_neg h30, hf, if_neg (by simp), hr, if_pos rfl]
          ·
            (try simp only [go_sem] at h94)
            refine cx_skip ?_
            (try simp only [go_sem])
            refine cx_region ?_
            simp only [go_sem]
            repeat ((with_reducible first | refine side_d ?_ ?_ | refine side_q ?_ ?_); focus (first | (refine Sd.mk ?_; omega) | (refine Sq.mk ?_; omega) | exact Sd.mk trivial | exact Sq.mk trivial | (refine Sq.mk ?_; and_intros <;> first | omega | trivial | (simp; omega)) | (refine Sd.of fun hp => ?_; simp only [pc, and_true] at hp; (try subst_vars); simp only [decide_eq_true_eq, Bool.not_eq_true', decide_eq_false_iff_not, Bool.and_eq_true, Bool.or_eq_true, Bool.or_eq_false_iff] at hp; omega)))
            intro t80 e80
            (try replace e80 := w64 e80 (by omega) (by omega))
            repeat ((with_reducible first | refine side_d ?_ ?_ | refine side_q ?_ ?_); focus (first | (refine Sd.mk ?_; omega) | (refine Sq.mk ?_; omega) | exact Sd.mk trivial | exact Sq.mk trivial | (refine Sq.mk ?_; and_intros <;> first | omega | trivial | (simp; omega)) | (refine Sd.of fun hp => ?_; simp only [pc, and_true] at hp; (try subst_vars); simp only [decide_eq_true_eq, Bool.not_eq_true', decide_eq_false_iff_not, Bool.and_eq_true, Bool.or_eq_true, Bool.or_eq_false_iff] at hp; omega)))
            have hk : ((i : Int) - 1).toNat = i - 1 := by omega
            subst e90
            rw [hk] at h94
            refine rnd_next (i + 1) ⟨by omega, by omega, fun j h1 hj => ?_⟩ (by first | omega | (dsimp only; omega)) (by (first | trivial | (simp only [go_sem, wk, wks, wkB, wkH, subw, subEw, hprew, ltb, subr, subEr]; done) | (simp only [go_sem, wk, wks, wkB, wkH, subw, subEw, hprew, ltb, subr, subEr]; and_intros <;> first | trivial | rfl | omega | assumption | exact Nat.le_refl _ | exact wks_refl _ | exact wk_refl _ | (intros; exact wks_refl _) | (simp; done) | (simp; omega))))
            exact all_next (p := fun j => 1 ≤ j → risesAt u.ss j = true) (fun j hj h1 => hI2.2.2 j h1 hj) (fun _ => by simp only [risesAt, decide_eq_true_eq]; omega) j hj h1
        ·
          (try simp only [go_sem] at h78)
          have hr : ((List.range u.ss.length).all fun i => i = 0 || risesAt u.ss i) = true := range_all_true fun j hj => by
            by_cases h0 : j = 0
            · simp [h0]
            · simp [hI2.2.2 j (by omega) (by omega)]
          refine cx_exit ?_
          simp only [go_sem]
          refine cx_seq ?_
          refine cx_sr ?_
          simp only [go_sem]
          repeat ((with_reducible first | refine side_d ?_ ?_ | refine side_q ?_ ?_); focus (first | (refine Sd.mk ?_; omega) | (refine Sq.mk ?_; omega) | exact Sd.mk trivial | exact Sq.mk trivial | (refine Sq.mk ?_; and_intros <;> first | omega | trivial | (simp; omega)) | (refine Sd.of fun hp => ?_; simp only [pc, and_true] at hp; (try subst_vars); simp only [decide_eq_true_eq, Bool.not_eq_true', decide_eq_false_iff_not, Bool.and_eq_true, Bool.or_eq_true, Bool.or_eq_false_iff] at hp; omega)))
          refine cx_block ?_
          refine cx_loop0 (σ := Nat) (fun i => i ≤ u.ss.length ∧ ∀ j, j < i → openW u.ss (u.ss.getD j default).who ≤ u.room) (fun i => [⟨7, 0, [], .int .i64 (i : Nat)⟩]) [1] (fun i => u.ss.length - i) 0 ⟨Nat.zero_le _, fun j hj => absurd hj (Nat.not_lt_zero j)⟩ (Nat.zero_le _) (by (first | trivial | (simp only [go_sem, wk, wks, wkB, wkH, subw, subEw, hprew, ltb, subr, subEr]; done) | (simp only [go_sem, wk, wks, wkB, wkH, subw, subEw, hprew, ltb, subr, subEr]; and_intros <;> first | trivial | rfl | omega | assumption | exact Nat.le_refl _ | exact wks_refl _ | exact wk_refl _ | (intros; exact wks_refl _) | (simp; done) | (simp; omega)))) (fun i hI3 => ?_)
          simp only [go_sem]
          refine cx_seq ?_
          refine cx_sr ?_
          simp only [go_sem]
          repeat ((with_reducible first | refine side_d ?_ ?_ | refine side_q ?_ ?_); focus (first | (refine Sd.mk ?_; omega) | (refine Sq.mk ?_; omega) | exact Sd.mk trivial | exact Sq.mk trivial | (refine Sq.mk ?_; and_intros <;> first | omega | trivial | (simp; omega)) | (refine Sd.of fun hp => ?_; simp only [pc, and_true] at hp; (try subst_vars); simp only [decide_eq_true_eq, Bool.not_eq_true', decide_eq_false_iff_not, Bool.and_eq_true, Bool.or_eq_true, Bool.or_eq_false_iff] at hp; omega)))
          intro t99 e99
          repeat ((with_reducible first | refine side_d ?_ ?_ | refine side_q ?_ ?_); focus (first | (refine Sd.mk ?_; omega) | (refine Sq.mk ?_; omega) | exact Sd.mk trivial | exact Sq.mk trivial | (refine Sq.mk ?_; and_intros <;> first | omega | trivial | (simp; omega)) | (refine Sd.of fun hp => ?_; simp only [pc, and_true] at hp; (try subst_vars); simp only [decide_eq_true_eq, Bool.not_eq_true', decide_eq_false_iff_not, Bool.and_eq_true, Bool.or_eq_true, Bool.or_eq_false_iff] at hp; omega)))
          subst e99
          refine cx_if _ rfl (fun h99 => ?_) (fun h99 => ?_)
          ·
            (try simp only [go_sem] at h99)
            refine cx_skip ?_
            (try simp only [go_sem])
            refine cx_seq (cx_block ?_)
            refine cx_seq (cx_draw mixed [] (.first 0 (.first 1 (.first 2 (.first 3 (.first 4 (.first 5 (.first 6 (.first 7 (.first 9 (.first 10 (.one 8 (.first 11 (.done))))))))))))) (by kernel_rfl) ?_)
            simp only [go_sem]
            repeat ((with_reducible first | refine side_d ?_ ?_ | refine side_q ?_ ?_); focus (first | (refine Sd.mk ?_; omega) | (refine Sq.mk ?_; omega) | exact Sd.mk trivial | exact Sq.mk trivial | (refine Sq.mk ?_; and_intros <;> first | omega | trivial | (simp; omega)) | (refine Sd.of fun hp => ?_; simp only [pc, and_true] at hp; (try subst_vars); simp only [decide_eq_true_eq, Bool.not_eq_true', decide_eq_false_iff_not, Bool.and_eq_true, Bool.or_eq_true, Bool.or_eq_false_iff] at hp; omega)))
            refine cwE_m (OpenOf_c u.ss _ hl) (by first | exact wks_refl _ | (first | trivial | (simp only [go_sem, wk, wks, wkB, wkH, subw, subEw, hprew, ltb, subr, subEr]; done) | (simp only [go_sem, wk, wks, wkB, wkH, subw, subEw, hprew, ltb, subr, subEr]; and_intros <;> first | trivial | rfl | omega | assumption | exact Nat.le_refl _ | exact wks_refl _ | exact wk_refl _ | (intros; exact wks_refl _) | (simp; done) | (simp; omega)))) (by first | rfl | (simp only [go_sem]; assumption)) ?_
            simp only [go_sem]
            repeat ((with_reducible first | refine side_d ?_ ?_ | refine side_q ?_ ?_); focus (first | (refine Sd.mk ?_; omega) | (refine Sq.mk ?_; omega) | exact Sd.mk trivial | exact Sq.mk trivial | (refine Sq.mk ?_; and_intros <;> first | omega | trivial | (simp; omega)) | (refine Sd.of fun hp => ?_; simp only [pc, and_true] at hp; (try subst_vars); simp only [decide_eq_true_eq, Bool.not_eq_true', decide_eq_false_iff_not, Bool.and_eq_true, Bool.or_eq_true, Bool.or_eq_false_iff] at hp; omega)))
            intro t113 e113
            repeat ((with_reducible first | refine side_d ?_ ?_ | refine side_q ?_ ?_); focus (first | (refine Sd.mk ?_; omega) | (refine Sq.mk ?_; omega) | exact Sd.mk trivial | exact Sq.mk trivial | (refine Sq.mk ?_; and_intros <;> first | omega | trivial | (simp; omega)) | (refine Sd.of fun hp => ?_; simp only [pc, and_true] at hp; (try subst_vars); simp only [decide_eq_true_eq, Bool.not_eq_true', decide_eq_false_iff_not, Bool.and_eq_true, Bool.or_eq_true, Bool.or_eq_false_iff] at hp; omega)))
            subst e113
            refine cx_if _ rfl (fun h113 => ?_) (fun h113 => ?_)
            ·
              (try simp only [go_sem] at h113)
              refine cx_sr ?_
              simp only [go_sem]
              repeat ((with_reducible first | refine side_d ?_ ?_ | refine side_q ?_ ?_); focus (first | (refine Sd.mk ?_; omega) | (refine Sq.mk ?_; omega) | exact Sd.mk trivial | exact Sq.mk trivial | (refine Sq.mk ?_; and_intros <;> first | omega | trivial | (simp; omega)) | (refine Sd.of fun hp => ?_; simp only [pc, and_true] at hp; (try subst_vars); simp only [decide_eq_true_eq, Bool.not_eq_true', decide_eq_false_iff_not, Bool.and_eq_true, Bool.or_eq_true, Bool.or_eq_false_iff] at hp; omega)))
              refine cx_ret ?_
              simp only [go_sem]
              refine finw_int ?_
              have ho : (u.ss.all fun s => decide (openW u.ss s.who ≤ u.room)) = false := all_at (d := default) (i := i) (by omega) (by simp only [decide_eq_false_iff_not]; omega)
              rw [checkU, if_neg (by simp [h26]), if_neg h30, hf, if_neg (by simp), hr, if_neg (by simp), ho, if_pos rfl]
            ·
              (try simp only [go_sem] at h113)
              refine cx_skip ?_
              (try simp only [go_sem])
              refine cx_region ?_
              simp only [go_sem]
              repeat ((with_reducible first | refine side_d ?_ ?_ | refine side_q ?_ ?_); focus (first | (refine Sd.mk ?_; omega) | (refine Sq.mk ?_; omega) | exact Sd.mk trivial | exact Sq.mk trivial | (refine Sq.mk ?_; and_intros <;> first | omega | trivial | (simp; omega)) | (refine Sd.of fun hp => ?_; simp only [pc, and_true] at hp; (try subst_vars); simp only [decide_eq_true_eq, Bool.not_eq_true', decide_eq_false_iff_not, Bool.and_eq_true, Bool.or_eq_true, Bool.or_eq_false_iff] at hp; omega)))
              intro t101 e101
              (try replace e101 := w64 e101 (by omega) (by omega))
              repeat ((with_reducible first | refine side_d ?_ ?_ | refine side_q ?_ ?_); focus (first | (refine Sd.mk ?_; omega) | (refine Sq.mk ?_; omega) | exact Sd.mk trivial | exact Sq.mk trivial | (refine Sq.mk ?_; and_intros <;> first | omega | trivial | (simp; omega)) | (refine Sd.of fun hp => ?_; simp only [pc, and_true] at hp; (try subst_vars); simp only [decide_eq_true_eq, Bool.not_eq_true', decide_eq_false_iff_not, Bool.and_eq_true, Bool.or_eq_true, Bool.or_eq_false_iff] at hp; omega)))
              refine rnd_next (i + 1) ⟨by omega, all_next hI3.2 (by omega)⟩ (by first | omega | (dsimp only; omega)) (by (first | trivial | (simp only [go_sem, wk, wks, wkB, wkH, subw, subEw, hprew, ltb, subr, subEr]; done) | (simp only [go_sem, wk, wks, wkB, wkH, subw, subEw, hprew, ltb, subr, subEr]; and_intros <;> first | trivial | rfl | omega | assumption | exact Nat.le_refl _ | exact wks_refl _ | exact wk_refl _ | (intros; exact wks_refl _) | (simp; done) | (simp; omega))))
          ·
            (try simp only [go_sem] at h99)
            refine cx_exit ?_
            simp only [go_sem]
            refine cx_sr ?_
            simp only [go_sem]
            repeat ((with_reducible first | refine side_d ?_ ?_ | refine side_q ?_ ?_); focus (first | (refine Sd.mk ?_; omega) | (refine Sq.mk ?_; omega) | exact Sd.mk trivial | exact Sq.mk trivial | (refine Sq.mk ?_; and_intros <;> first | omega | trivial | (simp; omega)) | (refine Sd.of fun hp => ?_; simp only [pc, and_true] at hp; (try subst_vars); simp only [decide_eq_true_eq, Bool.not_eq_true', decide_eq_false_iff_not, Bool.and_eq_true, Bool.or_eq_true, Bool.or_eq_false_iff] at hp; omega)))
            refine cx_ret ?_
            simp only [go_sem]
            refine finw_int ?_
            have ho : (u.ss.all fun s => decide (openW u.ss s.who ≤ u.room)) = true := all_of (d := default) fun j hj => by simpa using hI3.2 j (by omega)
            rw [checkU, if_neg (by simp [h26]), if_neg h30, hf, if_neg (by simp), hr, if_neg (by simp), ho, if_neg (by simp)]
end Go.VM.Try
