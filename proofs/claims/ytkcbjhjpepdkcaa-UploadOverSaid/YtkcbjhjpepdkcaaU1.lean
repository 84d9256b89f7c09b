import Derived.Test.YtkcbjhjpepdkcaaIdx
import Derived.Test.YtkcbjhjpepdkcaaTU
set_option linter.unusedVariables false
set_option linter.unusedSimpArgs false
open Go Go.VM Go.Proofs Tether
namespace Go.VM.Try
set_option maxRecDepth 100000
theorem within_c (n a b : Int) : Meets Try.prog 47 [.int .i64 n, .int .i64 a, .int .i64 b] (.bool (within n a b)) [] := by
  refine meets_x (fn := Try.f47) Try.func47 rfl fb47 (by kernel_rfl) (Nat.le_of_ble_eq_true rfl) ?_
  refine cx_sr ?_
  simp only [go_sem]
  repeat ((with_reducible first | refine side_d ?_ ?_ | refine side_q ?_ ?_); focus (first | (refine Sd.mk ?_; omega) | (refine Sq.mk ?_; omega) | exact Sd.mk trivial | exact Sq.mk trivial | (refine Sq.mk ?_; and_intros <;> first | omega | trivial | (simp; omega)) | (refine Sd.of fun hp => ?_; simp only [pc, and_true] at hp; (try subst_vars); simp only [decide_eq_true_eq, Bool.not_eq_true', decide_eq_false_iff_not, Bool.and_eq_true, Bool.or_eq_true, Bool.or_eq_false_iff] at hp; omega)))
  refine cx_sr ?_
  simp only [go_sem]
  repeat ((with_reducible first | refine side_d ?_ ?_ | refine side_q ?_ ?_); focus (first | (refine Sd.mk ?_; omega) | (refine Sq.mk ?_; omega) | exact Sd.mk trivial | exact Sq.mk trivial | (refine Sq.mk ?_; and_intros <;> first | omega | trivial | (simp; omega)) | (refine Sd.of fun hp => ?_; simp only [pc, and_true] at hp; (try subst_vars); simp only [decide_eq_true_eq, Bool.not_eq_true', decide_eq_false_iff_not, Bool.and_eq_true, Bool.or_eq_true, Bool.or_eq_false_iff] at hp; omega)))
  intro t9 e9
  repeat ((with_reducible first | refine side_d ?_ ?_ | refine side_q ?_ ?_); focus (first | (refine Sd.mk ?_; omega) | (refine Sq.mk ?_; omega) | exact Sd.mk trivial | exact Sq.mk trivial | (refine Sq.mk ?_; and_intros <;> first | omega | trivial | (simp; omega)) | (refine Sd.of fun hp => ?_; simp only [pc, and_true] at hp; (try subst_vars); simp only [decide_eq_true_eq, Bool.not_eq_true', decide_eq_false_iff_not, Bool.and_eq_true, Bool.or_eq_true, Bool.or_eq_false_iff] at hp; omega)))
  intro t13 e13
  repeat ((with_reducible first | refine side_d ?_ ?_ | refine side_q ?_ ?_); focus (first | (refine Sd.mk ?_; omega) | (refine Sq.mk ?_; omega) | exact Sd.mk trivial | exact Sq.mk trivial | (refine Sq.mk ?_; and_intros <;> first | omega | trivial | (simp; omega)) | (refine Sd.of fun hp => ?_; simp only [pc, and_true] at hp; (try subst_vars); simp only [decide_eq_true_eq, Bool.not_eq_true', decide_eq_false_iff_not, Bool.and_eq_true, Bool.or_eq_true, Bool.or_eq_false_iff] at hp; omega)))
  intro t14 e14
  rw [bsel_and] at e14
  repeat ((with_reducible first | refine side_d ?_ ?_ | refine side_q ?_ ?_); focus (first | (refine Sd.mk ?_; omega) | (refine Sq.mk ?_; omega) | exact Sd.mk trivial | exact Sq.mk trivial | (refine Sq.mk ?_; and_intros <;> first | omega | trivial | (simp; omega)) | (refine Sd.of fun hp => ?_; simp only [pc, and_true] at hp; (try subst_vars); simp only [decide_eq_true_eq, Bool.not_eq_true', decide_eq_false_iff_not, Bool.and_eq_true, Bool.or_eq_true, Bool.or_eq_false_iff] at hp; omega)))
  subst e9 e13 e14
  refine cx_ret ?_
  simp only [go_sem]
  refine finw_bool ?_
  rfl
theorem sign_c (c : Int) : Meets Try.prog 66 [.int .u8 c] (.bool (signB c)) [] := by
  refine meets_x (fn := Try.f66) Try.func66 rfl fb66 (by kernel_rfl) (Nat.le_of_ble_eq_true rfl) ?_
  refine cx_sr ?_
  simp only [go_sem]
  repeat ((with_reducible first | refine side_d ?_ ?_ | refine side_q ?_ ?_); focus (first | (refine Sd.mk ?_; omega) | (refine Sq.mk ?_; omega) | exact Sd.mk trivial | exact Sq.mk trivial | (refine Sq.mk ?_; and_intros <;> first | omega | trivial | (simp; omega)) | (refine Sd.of fun hp => ?_; simp only [pc, and_true] at hp; (try subst_vars); simp only [decide_eq_true_eq, Bool.not_eq_true', decide_eq_false_iff_not, Bool.and_eq_true, Bool.or_eq_true, Bool.or_eq_false_iff] at hp; omega)))
  refine cx_sr ?_
  simp only [go_sem]
  repeat ((with_reducible first | refine side_d ?_ ?_ | refine side_q ?_ ?_); focus (first | (refine Sd.mk ?_; omega) | (refine Sq.mk ?_; omega) | exact Sd.mk trivial | exact Sq.mk trivial | (refine Sq.mk ?_; and_intros <;> first | omega | trivial | (simp; omega)) | (refine Sd.of fun hp => ?_; simp only [pc, and_true] at hp; (try subst_vars); simp only [decide_eq_true_eq, Bool.not_eq_true', decide_eq_false_iff_not, Bool.and_eq_true, Bool.or_eq_true, Bool.or_eq_false_iff] at hp; omega)))
  intro t4 e4
  repeat ((with_reducible first | refine side_d ?_ ?_ | refine side_q ?_ ?_); focus (first | (refine Sd.mk ?_; omega) | (refine Sq.mk ?_; omega) | exact Sd.mk trivial | exact Sq.mk trivial | (refine Sq.mk ?_; and_intros <;> first | omega | trivial | (simp; omega)) | (refine Sd.of fun hp => ?_; simp only [pc, and_true] at hp; (try subst_vars); simp only [decide_eq_true_eq, Bool.not_eq_true', decide_eq_false_iff_not, Bool.and_eq_true, Bool.or_eq_true, Bool.or_eq_false_iff] at hp; omega)))
  intro t7 e7
  repeat ((with_reducible first | refine side_d ?_ ?_ | refine side_q ?_ ?_); focus (first | (refine Sd.mk ?_; omega) | (refine Sq.mk ?_; omega) | exact Sd.mk trivial | exact Sq.mk trivial | (refine Sq.mk ?_; and_intros <;> first | omega | trivial | (simp; omega)) | (refine Sd.of fun hp => ?_; simp only [pc, and_true] at hp; (try subst_vars); simp only [decide_eq_true_eq, Bool.not_eq_true', decide_eq_false_iff_not, Bool.and_eq_true, Bool.or_eq_true, Bool.or_eq_false_iff] at hp; omega)))
  intro t8 e8
  rw [bsel_and] at e8
  repeat ((with_reducible first | refine side_d ?_ ?_ | refine side_q ?_ ?_); focus (first | (refine Sd.mk ?_; omega) | (refine Sq.mk ?_; omega) | exact Sd.mk trivial | exact Sq.mk trivial | (refine Sq.mk ?_; and_intros <;> first | omega | trivial | (simp; omega)) | (refine Sd.of fun hp => ?_; simp only [pc, and_true] at hp; (try subst_vars); simp only [decide_eq_true_eq, Bool.not_eq_true', decide_eq_false_iff_not, Bool.and_eq_true, Bool.or_eq_true, Bool.or_eq_false_iff] at hp; omega)))
  intro t11 e11
  repeat ((with_reducible first | refine side_d ?_ ?_ | refine side_q ?_ ?_); focus (first | (refine Sd.mk ?_; omega) | (refine Sq.mk ?_; omega) | exact Sd.mk trivial | exact Sq.mk trivial | (refine Sq.mk ?_; and_intros <;> first | omega | trivial | (simp; omega)) | (refine Sd.of fun hp => ?_; simp only [pc, and_true] at hp; (try subst_vars); simp only [decide_eq_true_eq, Bool.not_eq_true', decide_eq_false_iff_not, Bool.and_eq_true, Bool.or_eq_true, Bool.or_eq_false_iff] at hp; omega)))
  intro t14 e14
  repeat ((with_reducible first | refine side_d ?_ ?_ | refine side_q ?_ ?_); focus (first | (refine Sd.mk ?_; omega) | (refine Sq.mk ?_; omega) | exact Sd.mk trivial | exact Sq.mk trivial | (refine Sq.mk ?_; and_intros <;> first | omega | trivial | (simp; omega)) | (refine Sd.of fun hp => ?_; simp only [pc, and_true] at hp; (try subst_vars); simp only [decide_eq_true_eq, Bool.not_eq_true', decide_eq_false_iff_not, Bool.and_eq_true, Bool.or_eq_true, Bool.or_eq_false_iff] at hp; omega)))
  intro t15 e15
  rw [bsel_and] at e15
  repeat ((with_reducible first | refine side_d ?_ ?_ | refine side_q ?_ ?_); focus (first | (refine Sd.mk ?_; omega) | (refine Sq.mk ?_; omega) | exact Sd.mk trivial | exact Sq.mk trivial | (refine Sq.mk ?_; and_intros <;> first | omega | trivial | (simp; omega)) | (refine Sd.of fun hp => ?_; simp only [pc, and_true] at hp; (try subst_vars); simp only [decide_eq_true_eq, Bool.not_eq_true', decide_eq_false_iff_not, Bool.and_eq_true, Bool.or_eq_true, Bool.or_eq_false_iff] at hp; omega)))
  intro t16 e16
  rw [bsel_or] at e16
  repeat ((with_reducible first | refine side_d ?_ ?_ | refine side_q ?_ ?_); focus (first | (refine Sd.mk ?_; omega) | (refine Sq.mk ?_; omega) | exact Sd.mk trivial | exact Sq.mk trivial | (refine Sq.mk ?_; and_intros <;> first | omega | trivial | (simp; omega)) | (refine Sd.of fun hp => ?_; simp only [pc, and_true] at hp; (try subst_vars); simp only [decide_eq_true_eq, Bool.not_eq_true', decide_eq_false_iff_not, Bool.and_eq_true, Bool.or_eq_true, Bool.or_eq_false_iff] at hp; omega)))
  intro t19 e19
  repeat ((with_reducible first | refine side_d ?_ ?_ | refine side_q ?_ ?_); focus (first | (refine Sd.mk ?_; omega) | (refine Sq.mk ?_; omega) | exact Sd.mk trivial | exact Sq.mk trivial | (refine Sq.mk ?_; and_intros <;> first | omega | trivial | (simp; omega)) | (refine Sd.of fun hp => ?_; simp only [pc, and_true] at hp; (try subst_vars); simp only [decide_eq_true_eq, Bool.not_eq_true', decide_eq_false_iff_not, Bool.and_eq_true, Bool.or_eq_true, Bool.or_eq_false_iff] at hp; omega)))
  intro t22 e22
  repeat ((with_reducible first | refine side_d ?_ ?_ | refine side_q ?_ ?_); focus (first | (refine Sd.mk ?_; omega) | (refine Sq.mk ?_; omega) | exact Sd.mk trivial | exact Sq.mk trivial | (refine Sq.mk ?_; and_intros <;> first | omega | trivial | (simp; omega)) | (refine Sd.of fun hp => ?_; simp only [pc, and_true] at hp; (try subst_vars); simp only [decide_eq_true_eq, Bool.not_eq_true', decide_eq_false_iff_not, Bool.and_eq_true, Bool.or_eq_true, Bool.or_eq_false_iff] at hp; omega)))
  intro t23 e23
  rw [bsel_and] at e23
  repeat ((with_reducible first | refine side_d ?_ ?_ | refine side_q ?_ ?_); focus (first | (refine Sd.mk ?_; omega) | (refine Sq.mk ?_; omega) | exact Sd.mk trivial | exact Sq.mk trivial | (refine Sq.mk ?_; and_intros <;> first | omega | trivial | (simp; omega)) | (refine Sd.of fun hp => ?_; simp only [pc, and_true] at hp; (try subst_vars); simp only [decide_eq_true_eq, Bool.not_eq_true', decide_eq_false_iff_not, Bool.and_eq_true, Bool.or_eq_true, Bool.or_eq_false_iff] at hp; omega)))
  intro t24 e24
  rw [bsel_or] at e24
  repeat ((with_reducible first | refine side_d ?_ ?_ | refine side_q ?_ ?_); focus (first | (refine Sd.mk ?_; omega) | (refine Sq.mk ?_; omega) | exact Sd.mk trivial | exact Sq.mk trivial | (refine Sq.mk ?_; and_intros <;> first | omega | trivial | (simp; omega)) | (refine Sd.of fun hp => ?_; simp only [pc, and_true] at hp; (try subst_vars); simp only [decide_eq_true_eq, Bool.not_eq_true', decide_eq_false_iff_not, Bool.and_eq_true, Bool.or_eq_true, Bool.or_eq_false_iff] at hp; omega)))
  refine ⟨_, fun hp => cw_m (IndexByte _ c) (by first | exact wks_refl _ | (first | trivial | (simp only [go_sem, wk, wks, wkB, wkH, subw, subEw, hprew, ltb, subr, subEr]; done) | (simp only [go_sem, wk, wks, wkB, wkH, subw, subEw, hprew, ltb, subr, subEr]; and_intros <;> first | trivial | rfl | omega | assumption | exact Nat.le_refl _ | exact wks_refl _ | exact wk_refl _ | (intros; exact wks_refl _) | (simp; done) | (simp; omega)))) (by first | rfl | (simp only [go_sem]; assumption)) ⟨rfl, rfl⟩, ?_⟩
  simp only [go_sem]
  repeat ((with_reducible first | refine side_d ?_ ?_ | refine side_q ?_ ?_); focus (first | (refine Sd.mk ?_; omega) | (refine Sq.mk ?_; omega) | exact Sd.mk trivial | exact Sq.mk trivial | (refine Sq.mk ?_; and_intros <;> first | omega | trivial | (simp; omega)) | (refine Sd.of fun hp => ?_; simp only [pc, and_true] at hp; (try subst_vars); simp only [decide_eq_true_eq, Bool.not_eq_true', decide_eq_false_iff_not, Bool.and_eq_true, Bool.or_eq_true, Bool.or_eq_false_iff] at hp; omega)))
  intro t28 e28
  repeat ((with_reducible first | refine side_d ?_ ?_ | refine side_q ?_ ?_); focus (first | (refine Sd.mk ?_; omega) | (refine Sq.mk ?_; omega) | exact Sd.mk trivial | exact Sq.mk trivial | (refine Sq.mk ?_; and_intros <;> first | omega | trivial | (simp; omega)) | (refine Sd.of fun hp => ?_; simp only [pc, and_true] at hp; (try subst_vars); simp only [decide_eq_true_eq, Bool.not_eq_true', decide_eq_false_iff_not, Bool.and_eq_true, Bool.or_eq_true, Bool.or_eq_false_iff] at hp; omega)))
  intro t29 e29
  rw [bsel_or] at e29
  repeat ((with_reducible first | refine side_d ?_ ?_ | refine side_q ?_ ?_); focus (first | (refine Sd.mk ?_; omega) | (refine Sq.mk ?_; omega) | exact Sd.mk trivial | exact Sq.mk trivial | (refine Sq.mk ?_; and_intros <;> first | omega | trivial | (simp; omega)) | (refine Sd.of fun hp => ?_; simp only [pc, and_true] at hp; (try subst_vars); simp only [decide_eq_true_eq, Bool.not_eq_true', decide_eq_false_iff_not, Bool.and_eq_true, Bool.or_eq_true, Bool.or_eq_false_iff] at hp; omega)))
  subst e4 e7 e8 e11 e14 e15 e16 e19 e22 e23 e24 e28 e29
  refine cx_ret ?_
  simp only [go_sem]
  refine finw_bool ?_
  simp [signB]
theorem IsName_c (s : Str) (hs : s.length < 4611686018427387904) : Meets Try.prog 46 [.str s] (.bool (isName s)) [] := by
  refine meets_x (fn := Try.f46) Try.func46 rfl fb46 (by kernel_rfl) (Nat.le_of_ble_eq_true rfl) ?_
  refine cx_sr ?_
  simp only [go_sem]
  repeat ((with_reducible first | refine side_d ?_ ?_ | refine side_q ?_ ?_); focus (first | (refine Sd.mk ?_; omega) | (refine Sq.mk ?_; omega) | exact Sd.mk trivial | exact Sq.mk trivial | (refine Sq.mk ?_; and_intros <;> first | omega | trivial | (simp; omega)) | (refine Sd.of fun hp => ?_; simp only [pc, and_true] at hp; (try subst_vars); simp only [decide_eq_true_eq, Bool.not_eq_true', decide_eq_false_iff_not, Bool.and_eq_true, Bool.or_eq_true, Bool.or_eq_false_iff] at hp; omega)))
  refine cx_sr ?_
  simp only [go_sem]
  repeat ((with_reducible first | refine side_d ?_ ?_ | refine side_q ?_ ?_); focus (first | (refine Sd.mk ?_; omega) | (refine Sq.mk ?_; omega) | exact Sd.mk trivial | exact Sq.mk trivial | (refine Sq.mk ?_; and_intros <;> first | omega | trivial | (simp; omega)) | (refine Sd.of fun hp => ?_; simp only [pc, and_true] at hp; (try subst_vars); simp only [decide_eq_true_eq, Bool.not_eq_true', decide_eq_false_iff_not, Bool.and_eq_true, Bool.or_eq_true, Bool.or_eq_false_iff] at hp; omega)))
  refine cx_seq (cx_block ?_)
  refine cx_sr ?_
  simp only [go_sem]
  repeat ((with_reducible first | refine side_d ?_ ?_ | refine side_q ?_ ?_); focus (first | (refine Sd.mk ?_; omega) | (refine Sq.mk ?_; omega) | exact Sd.mk trivial | exact Sq.mk trivial | (refine Sq.mk ?_; and_intros <;> first | omega | trivial | (simp; omega)) | (refine Sd.of fun hp => ?_; simp only [pc, and_true] at hp; (try subst_vars); simp only [decide_eq_true_eq, Bool.not_eq_true', decide_eq_false_iff_not, Bool.and_eq_true, Bool.or_eq_true, Bool.or_eq_false_iff] at hp; omega)))
  intro t7 e7
  repeat ((with_reducible first | refine side_d ?_ ?_ | refine side_q ?_ ?_); focus (first | (refine Sd.mk ?_; omega) | (refine Sq.mk ?_; omega) | exact Sd.mk trivial | exact Sq.mk trivial | (refine Sq.mk ?_; and_intros <;> first | omega | trivial | (simp; omega)) | (refine Sd.of fun hp => ?_; simp only [pc, and_true] at hp; (try subst_vars); simp only [decide_eq_true_eq, Bool.not_eq_true', decide_eq_false_iff_not, Bool.and_eq_true, Bool.or_eq_true, Bool.or_eq_false_iff] at hp; omega)))
  intro t11 e11
  repeat ((with_reducible first | refine side_d ?_ ?_ | refine side_q ?_ ?_); focus (first | (refine Sd.mk ?_; omega) | (refine Sq.mk ?_; omega) | exact Sd.mk trivial | exact Sq.mk trivial | (refine Sq.mk ?_; and_intros <;> first | omega | trivial | (simp; omega)) | (refine Sd.of fun hp => ?_; simp only [pc, and_true] at hp; (try subst_vars); simp only [decide_eq_true_eq, Bool.not_eq_true', decide_eq_false_iff_not, Bool.and_eq_true, Bool.or_eq_true, Bool.or_eq_false_iff] at hp; omega)))
  intro t12 e12
  rw [bsel_or] at e12
  repeat ((with_reducible first | refine side_d ?_ ?_ | refine side_q ?_ ?_); focus (first | (refine Sd.mk ?_; omega) | (refine Sq.mk ?_; omega) | exact Sd.mk trivial | exact Sq.mk trivial | (refine Sq.mk ?_; and_intros <;> first | omega | trivial | (simp; omega)) | (refine Sd.of fun hp => ?_; simp only [pc, and_true] at hp; (try subst_vars); simp only [decide_eq_true_eq, Bool.not_eq_true', decide_eq_false_iff_not, Bool.and_eq_true, Bool.or_eq_true, Bool.or_eq_false_iff] at hp; omega)))
  intro t15 e15
  repeat ((with_reducible first | refine side_d ?_ ?_ | refine side_q ?_ ?_); focus (first | (refine Sd.mk ?_; omega) | (refine Sq.mk ?_; omega) | exact Sd.mk trivial | exact Sq.mk trivial | (refine Sq.mk ?_; and_intros <;> first | omega | trivial | (simp; omega)) | (refine Sd.of fun hp => ?_; simp only [pc, and_true] at hp; (try subst_vars); simp only [decide_eq_true_eq, Bool.not_eq_true', decide_eq_false_iff_not, Bool.and_eq_true, Bool.or_eq_true, Bool.or_eq_false_iff] at hp; omega)))
  intro t16 e16
  rw [bsel_or] at e16
  repeat ((with_reducible first | refine side_d ?_ ?_ | refine side_q ?_ ?_); focus (first | (refine Sd.mk ?_; omega) | (refine Sq.mk ?_; omega) | exact Sd.mk trivial | exact Sq.mk trivial | (refine Sq.mk ?_; and_intros <;> first | omega | trivial | (simp; omega)) | (refine Sd.of fun hp => ?_; simp only [pc, and_true] at hp; (try subst_vars); simp only [decide_eq_true_eq, Bool.not_eq_true', decide_eq_false_iff_not, Bool.and_eq_true, Bool.or_eq_true, Bool.or_eq_false_iff] at hp; omega)))
  intro t19 e19
  repeat ((with_reducible first | refine side_d ?_ ?_ | refine side_q ?_ ?_); focus (first | (refine Sd.mk ?_; omega) | (refine Sq.mk ?_; omega) | exact Sd.mk trivial | exact Sq.mk trivial | (refine Sq.mk ?_; and_intros <;> first | omega | trivial | (simp; omega)) | (refine Sd.of fun hp => ?_; simp only [pc, and_true] at hp; (try subst_vars); simp only [decide_eq_true_eq, Bool.not_eq_true', decide_eq_false_iff_not, Bool.and_eq_true, Bool.or_eq_true, Bool.or_eq_false_iff] at hp; omega)))
  intro t20 e20
  rw [bsel_or] at e20
  repeat ((with_reducible first | refine side_d ?_ ?_ | refine side_q ?_ ?_); focus (first | (refine Sd.mk ?_; omega) | (refine Sq.mk ?_; omega) | exact Sd.mk trivial | exact Sq.mk trivial | (refine Sq.mk ?_; and_intros <;> first | omega | trivial | (simp; omega)) | (refine Sd.of fun hp => ?_; simp only [pc, and_true] at hp; (try subst_vars); simp only [decide_eq_true_eq, Bool.not_eq_true', decide_eq_false_iff_not, Bool.and_eq_true, Bool.or_eq_true, Bool.or_eq_false_iff] at hp; omega)))
  subst e7 e11 e12 e15 e16 e19 e20
  refine cx_if _ rfl (fun h5 => ?_) (fun h5 => ?_)
  ·
    (try simp only [go_sem] at h5)
    refine cx_sr ?_
    simp only [go_sem]
    repeat ((with_reducible first | refine side_d ?_ ?_ | refine side_q ?_ ?_); focus (first | (refine Sd.mk ?_; omega) | (refine Sq.mk ?_; omega) | exact Sd.mk trivial | exact Sq.mk trivial | (refine Sq.mk ?_; and_intros <;> first | omega | trivial | (simp; omega)) | (refine Sd.of fun hp => ?_; simp only [pc, and_true] at hp; (try subst_vars); simp only [decide_eq_true_eq, Bool.not_eq_true', decide_eq_false_iff_not, Bool.and_eq_true, Bool.or_eq_true, Bool.or_eq_false_iff] at hp; omega)))
    refine cx_ret ?_
    simp only [go_sem]
    refine finw_bool ?_
    rcases h5 with ((h5 | h5) | h5) | h5 <;> simp [isName, h5]
  ·
    (try simp only [go_sem] at h5)
    have hpos : 0 < s.length := by
      rcases s with _ | ⟨x, s⟩
      · simp at h5
      · simp
    refine cx_sr ?_
    simp only [go_sem]
    repeat ((with_reducible first | refine side_d ?_ ?_ | refine side_q ?_ ?_); focus (first | (refine Sd.mk ?_; omega) | (refine Sq.mk ?_; omega) | exact Sd.mk trivial | exact Sq.mk trivial | (refine Sq.mk ?_; and_intros <;> first | omega | trivial | (simp; omega)) | (refine Sd.of fun hp => ?_; simp only [pc, and_true] at hp; (try subst_vars); simp only [decide_eq_true_eq, Bool.not_eq_true', decide_eq_false_iff_not, Bool.and_eq_true, Bool.or_eq_true, Bool.or_eq_false_iff] at hp; omega)))
    intro t23 e23
    repeat ((with_reducible first | refine side_d ?_ ?_ | refine side_q ?_ ?_); focus (first | (refine Sd.mk ?_; omega) | (refine Sq.mk ?_; omega) | exact Sd.mk trivial | exact Sq.mk trivial | (refine Sq.mk ?_; and_intros <;> first | omega | trivial | (simp; omega)) | (refine Sd.of fun hp => ?_; simp only [pc, and_true] at hp; (try subst_vars); simp only [decide_eq_true_eq, Bool.not_eq_true', decide_eq_false_iff_not, Bool.and_eq_true, Bool.or_eq_true, Bool.or_eq_false_iff] at hp; omega)))
    intro t24 e24
    repeat ((with_reducible first | refine side_d ?_ ?_ | refine side_q ?_ ?_); focus (first | (refine Sd.mk ?_; omega) | (refine Sq.mk ?_; omega) | exact Sd.mk trivial | exact Sq.mk trivial | (refine Sq.mk ?_; and_intros <;> first | omega | trivial | (simp; omega)) | (refine Sd.of fun hp => ?_; simp only [pc, and_true] at hp; (try subst_vars); simp only [decide_eq_true_eq, Bool.not_eq_true', decide_eq_false_iff_not, Bool.and_eq_true, Bool.or_eq_true, Bool.or_eq_false_iff] at hp; omega)))
    intro t29 e29
    (try replace e29 := w64 e29 (by omega) (by omega))
    repeat ((with_reducible first | refine side_d ?_ ?_ | refine side_q ?_ ?_); focus (first | (refine Sd.mk ?_; omega) | (refine Sq.mk ?_; omega) | exact Sd.mk trivial | exact Sq.mk trivial | (refine Sq.mk ?_; and_intros <;> first | omega | trivial | (simp; omega)) | (refine Sd.of fun hp => ?_; simp only [pc, and_true] at hp; (try subst_vars); simp only [decide_eq_true_eq, Bool.not_eq_true', decide_eq_false_iff_not, Bool.and_eq_true, Bool.or_eq_true, Bool.or_eq_false_iff] at hp; omega)))
    intro t30 e30
    repeat ((with_reducible first | refine side_d ?_ ?_ | refine side_q ?_ ?_); focus (first | (refine Sd.mk ?_; omega) | (refine Sq.mk ?_; omega) | exact Sd.mk trivial | exact Sq.mk trivial | (refine Sq.mk ?_; and_intros <;> first | omega | trivial | (simp; omega)) | (refine Sd.of fun hp => ?_; simp only [pc, and_true] at hp; (try subst_vars); simp only [decide_eq_true_eq, Bool.not_eq_true', decide_eq_false_iff_not, Bool.and_eq_true, Bool.or_eq_true, Bool.or_eq_false_iff] at hp; omega)))
    intro t31 e31
    repeat ((with_reducible first | refine side_d ?_ ?_ | refine side_q ?_ ?_); focus (first | (refine Sd.mk ?_; omega) | (refine Sq.mk ?_; omega) | exact Sd.mk trivial | exact Sq.mk trivial | (refine Sq.mk ?_; and_intros <;> first | omega | trivial | (simp; omega)) | (refine Sd.of fun hp => ?_; simp only [pc, and_true] at hp; (try subst_vars); simp only [decide_eq_true_eq, Bool.not_eq_true', decide_eq_false_iff_not, Bool.and_eq_true, Bool.or_eq_true, Bool.or_eq_false_iff] at hp; omega)))
    intro t32 e32
    rw [bsel_or] at e32
    repeat ((with_reducible first | refine side_d ?_ ?_ | refine side_q ?_ ?_); focus (first | (refine Sd.mk ?_; omega) | (refine Sq.mk ?_; omega) | exact Sd.mk trivial | exact Sq.mk trivial | (refine Sq.mk ?_; and_intros <;> first | omega | trivial | (simp; omega)) | (refine Sd.of fun hp => ?_; simp only [pc, and_true] at hp; (try subst_vars); simp only [decide_eq_true_eq, Bool.not_eq_true', decide_eq_false_iff_not, Bool.and_eq_true, Bool.or_eq_true, Bool.or_eq_false_iff] at hp; omega)))
    subst e24 e31 e32
    refine cx_if _ rfl (fun h21 => ?_) (fun h21 => ?_)
    ·
      (try simp only [go_sem] at h21)
      refine cx_sr ?_
      simp only [go_sem]
      repeat ((with_reducible first | refine side_d ?_ ?_ | refine side_q ?_ ?_); focus (first | (refine Sd.mk ?_; omega) | (refine Sq.mk ?_; omega) | exact Sd.mk trivial | exact Sq.mk trivial | (refine Sq.mk ?_; and_intros <;> first | omega | trivial | (simp; omega)) | (refine Sd.of fun hp => ?_; simp only [pc, and_true] at hp; (try subst_vars); simp only [decide_eq_true_eq, Bool.not_eq_true', decide_eq_false_iff_not, Bool.and_eq_true, Bool.or_eq_true, Bool.or_eq_false_iff] at hp; omega)))
      refine cx_ret ?_
      simp only [go_sem]
      refine finw_bool ?_
      have hl : ((s.length : Int) - 1).toNat = s.length - 1 := by omega
      subst e23 e29 e30
      simp only [hl] at h21
      rcases h21 with h21 | h21 <;> simp [isName, at8] <;> intros <;> simp_all
    ·
      (try simp only [go_sem] at h21)
      refine cx_skip ?_
      (try simp only [go_sem])
      refine cx_seq ?_
      refine cx_sr ?_
      simp only [go_sem]
      repeat ((with_reducible first | refine side_d ?_ ?_ | refine side_q ?_ ?_); focus (first | (refine Sd.mk ?_; omega) | (refine Sq.mk ?_; omega) | exact Sd.mk trivial | exact Sq.mk trivial | (refine Sq.mk ?_; and_intros <;> first | omega | trivial | (simp; omega)) | (refine Sd.of fun hp => ?_; simp only [pc, and_true] at hp; (try subst_vars); simp only [decide_eq_true_eq, Bool.not_eq_true', decide_eq_false_iff_not, Bool.and_eq_true, Bool.or_eq_true, Bool.or_eq_false_iff] at hp; omega)))
      refine cx_block ?_
      refine cx_loop0 (σ := Nat) (fun i => i ≤ s.length ∧ ∀ j, j < i → signB (at8 s j) = true) (fun i => [⟨35, 0, [], .int .i64 (i : Nat)⟩]) [0, 3, 34] (fun i => s.length - i) 0 ⟨Nat.zero_le _, fun j hj => absurd hj (Nat.not_lt_zero j)⟩ (Nat.zero_le _) (by (first | trivial | (simp only [go_sem, wk, wks, wkB, wkH, subw, subEw, hprew, ltb, subr, subEr]; done) | (simp only [go_sem, wk, wks, wkB, wkH, subw, subEw, hprew, ltb, subr, subEr]; and_intros <;> first | trivial | rfl | omega | assumption | exact Nat.le_refl _ | exact wks_refl _ | exact wk_refl _ | (intros; exact wks_refl _) | (simp; done) | (simp; omega)))) (fun i hI1 => ?_)
      simp only [go_sem]
      refine cx_sr ?_
      simp only [go_sem]
      repeat ((with_reducible first | refine side_d ?_ ?_ | refine side_q ?_ ?_); focus (first | (refine Sd.mk ?_; omega) | (refine Sq.mk ?_; omega) | exact Sd.mk trivial | exact Sq.mk trivial | (refine Sq.mk ?_; and_intros <;> first | omega | trivial | (simp; omega)) | (refine Sd.of fun hp => ?_; simp only [pc, and_true] at hp; (try subst_vars); simp only [decide_eq_true_eq, Bool.not_eq_true', decide_eq_false_iff_not, Bool.and_eq_true, Bool.or_eq_true, Bool.or_eq_false_iff] at hp; omega)))
      intro t36 e36
      repeat ((with_reducible first | refine side_d ?_ ?_ | refine side_q ?_ ?_); focus (first | (refine Sd.mk ?_; omega) | (refine Sq.mk ?_; omega) | exact Sd.mk trivial | exact Sq.mk trivial | (refine Sq.mk ?_; and_intros <;> first | omega | trivial | (simp; omega)) | (refine Sd.of fun hp => ?_; simp only [pc, and_true] at hp; (try subst_vars); simp only [decide_eq_true_eq, Bool.not_eq_true', decide_eq_false_iff_not, Bool.and_eq_true, Bool.or_eq_true, Bool.or_eq_false_iff] at hp; omega)))
      subst e36
      refine cx_seq ?_
      refine cx_if _ rfl (fun h36 => ?_) (fun h36 => ?_)
      ·
        (try simp only [go_sem] at h36)
        refine cx_skip ?_
        (try simp only [go_sem])
        refine cx_seq (cx_block ?_)
        refine cx_sr ?_
        simp only [go_sem]
        repeat ((with_reducible first | refine side_d ?_ ?_ | refine side_q ?_ ?_); focus (first | (refine Sd.mk ?_; omega) | (refine Sq.mk ?_; omega) | exact Sd.mk trivial | exact Sq.mk trivial | (refine Sq.mk ?_; and_intros <;> first | omega | trivial | (simp; omega)) | (refine Sd.of fun hp => ?_; simp only [pc, and_true] at hp; (try subst_vars); simp only [decide_eq_true_eq, Bool.not_eq_true', decide_eq_false_iff_not, Bool.and_eq_true, Bool.or_eq_true, Bool.or_eq_false_iff] at hp; omega)))
        refine cx_sr ?_
        simp only [go_sem]
        repeat ((with_reducible first | refine side_d ?_ ?_ | refine side_q ?_ ?_); focus (first | (refine Sd.mk ?_; omega) | (refine Sq.mk ?_; omega) | exact Sd.mk trivial | exact Sq.mk trivial | (refine Sq.mk ?_; and_intros <;> first | omega | trivial | (simp; omega)) | (refine Sd.of fun hp => ?_; simp only [pc, and_true] at hp; (try subst_vars); simp only [decide_eq_true_eq, Bool.not_eq_true', decide_eq_false_iff_not, Bool.and_eq_true, Bool.or_eq_true, Bool.or_eq_false_iff] at hp; omega)))
        intro t41 e41
        repeat ((with_reducible first | refine side_d ?_ ?_ | refine side_q ?_ ?_); focus (first | (refine Sd.mk ?_; omega) | (refine Sq.mk ?_; omega) | exact Sd.mk trivial | exact Sq.mk trivial | (refine Sq.mk ?_; and_intros <;> first | omega | trivial | (simp; omega)) | (refine Sd.of fun hp => ?_; simp only [pc, and_true] at hp; (try subst_vars); simp only [decide_eq_true_eq, Bool.not_eq_true', decide_eq_false_iff_not, Bool.and_eq_true, Bool.or_eq_true, Bool.or_eq_false_iff] at hp; omega)))
        refine cw_m (sign_c _) (by first | exact wks_refl _ | (first | trivial | (simp only [go_sem, wk, wks, wkB, wkH, subw, subEw, hprew, ltb, subr, subEr]; done) | (simp only [go_sem, wk, wks, wkB, wkH, subw, subEw, hprew, ltb, subr, subEr]; and_intros <;> first | trivial | rfl | omega | assumption | exact Nat.le_refl _ | exact wks_refl _ | exact wk_refl _ | (intros; exact wks_refl _) | (simp; done) | (simp; omega)))) (by first | rfl | (simp only [go_sem]; assumption)) ?_
        simp only [go_sem]
        repeat ((with_reducible first | refine side_d ?_ ?_ | refine side_q ?_ ?_); focus (first | (refine Sd.mk ?_; omega) | (refine Sq.mk ?_; omega) | exact Sd.mk trivial | exact Sq.mk trivial | (refine Sq.mk ?_; and_intros <;> first | omega | trivial | (simp; omega)) | (refine Sd.of fun hp => ?_; simp only [pc, and_true] at hp; (try subst_vars); simp only [decide_eq_true_eq, Bool.not_eq_true', decide_eq_false_iff_not, Bool.and_eq_true, Bool.or_eq_true, Bool.or_eq_false_iff] at hp; omega)))
        intro t43 e43
        repeat ((with_reducible first | refine side_d ?_ ?_ | refine side_q ?_ ?_); focus (first | (refine Sd.mk ?_; omega) | (refine Sq.mk ?_; omega) | exact Sd.mk trivial | exact Sq.mk trivial | (refine Sq.mk ?_; and_intros <;> first | omega | trivial | (simp; omega)) | (refine Sd.of fun hp => ?_; simp only [pc, and_true] at hp; (try subst_vars); simp only [decide_eq_true_eq, Bool.not_eq_true', decide_eq_false_iff_not, Bool.and_eq_true, Bool.or_eq_true, Bool.or_eq_false_iff] at hp; omega)))
        subst e43
        refine cx_if _ rfl (fun h43 => ?_) (fun h43 => ?_)
        ·
          (try simp only [go_sem] at h43)
          refine cx_sr ?_
          simp only [go_sem]
          repeat ((with_reducible first | refine side_d ?_ ?_ | refine side_q ?_ ?_); focus (first | (refine Sd.mk ?_; omega) | (refine Sq.mk ?_; omega) | exact Sd.mk trivial | exact Sq.mk trivial | (refine Sq.mk ?_; and_intros <;> first | omega | trivial | (simp; omega)) | (refine Sd.of fun hp => ?_; simp only [pc, and_true] at hp; (try subst_vars); simp only [decide_eq_true_eq, Bool.not_eq_true', decide_eq_false_iff_not, Bool.and_eq_true, Bool.or_eq_true, Bool.or_eq_false_iff] at hp; omega)))
          refine cx_ret ?_
          simp only [go_sem]
          refine finw_bool ?_
          have := range_all_false (p := fun i => signB (at8 s i)) (i := i) (n := s.length) (by omega) (by simpa [at8, e41] using h43)
          simp [isName, this]
        ·
          (try simp only [go_sem] at h43)
          refine cx_skip ?_
          (try simp only [go_sem])
          refine cx_region ?_
          simp only [go_sem]
          repeat ((with_reducible first | refine side_d ?_ ?_ | refine side_q ?_ ?_); focus (first | (refine Sd.mk ?_; omega) | (refine Sq.mk ?_; omega) | exact Sd.mk trivial | exact Sq.mk trivial | (refine Sq.mk ?_; and_intros <;> first | omega | trivial | (simp; omega)) | (refine Sd.of fun hp => ?_; simp only [pc, and_true] at hp; (try subst_vars); simp only [decide_eq_true_eq, Bool.not_eq_true', decide_eq_false_iff_not, Bool.and_eq_true, Bool.or_eq_true, Bool.or_eq_false_iff] at hp; omega)))
          intro t44 e44
          (try replace e44 := w64 e44 (by omega) (by omega))
          repeat ((with_reducible first | refine side_d ?_ ?_ | refine side_q ?_ ?_); focus (first | (refine Sd.mk ?_; omega) | (refine Sq.mk ?_; omega) | exact Sd.mk trivial | exact Sq.mk trivial | (refine Sq.mk ?_; and_intros <;> first | omega | trivial | (simp; omega)) | (refine Sd.of fun hp => ?_; simp only [pc, and_true] at hp; (try subst_vars); simp only [decide_eq_true_eq, Bool.not_eq_true', decide_eq_false_iff_not, Bool.and_eq_true, Bool.or_eq_true, Bool.or_eq_false_iff] at hp; omega)))
          refine rnd_next (i + 1) ⟨by omega, fun j hj => ?_⟩ (by show s.length - (i + 1) < s.length - i; omega) (by (first | trivial | (simp only [go_sem, wk, wks, wkB, wkH, subw, subEw, hprew, ltb, subr, subEr]; done) | (simp only [go_sem, wk, wks, wkB, wkH, subw, subEw, hprew, ltb, subr, subEr]; and_intros <;> first | trivial | rfl | omega | assumption | exact Nat.le_refl _ | exact wks_refl _ | exact wk_refl _ | (intros; exact wks_refl _) | (simp; done) | (simp; omega))))
          rcases Nat.lt_or_ge j i with h | h
          · exact hI1.2 j h
          · obtain rfl : j = i := by omega
            simpa [at8, e41] using h43
      ·
        (try simp only [go_sem] at h36)
        refine cx_exit ?_
        simp only [go_sem]
        refine cx_sr ?_
        simp only [go_sem]
        repeat ((with_reducible first | refine side_d ?_ ?_ | refine side_q ?_ ?_); focus (first | (refine Sd.mk ?_; omega) | (refine Sq.mk ?_; omega) | exact Sd.mk trivial | exact Sq.mk trivial | (refine Sq.mk ?_; and_intros <;> first | omega | trivial | (simp; omega)) | (refine Sd.of fun hp => ?_; simp only [pc, and_true] at hp; (try subst_vars); simp only [decide_eq_true_eq, Bool.not_eq_true', decide_eq_false_iff_not, Bool.and_eq_true, Bool.or_eq_true, Bool.or_eq_false_iff] at hp; omega)))
        refine cx_ret ?_
        simp only [go_sem]
        refine finw_bool ?_
        have := range_all_true (p := fun i => signB (at8 s i)) (n := s.length) fun j hj => hI1.2 j (by omega)
        have hl : ((s.length : Int) - 1).toNat = s.length - 1 := by omega
        subst e23 e29 e30
        simp only [hl] at h21
        simp [isName, at8, this, h5] at *
        simp_all
end Go.VM.Try
