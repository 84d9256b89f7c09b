import Derived.Test.YtkcbjhjpepdkcaaAF
import Derived.Lib.Strings
import Derived.Lib.Slices
import Derived.Lib.Walk
import Derived.Lib.Bytealg
set_option linter.unusedVariables false
set_option linter.unusedSimpArgs false
open Go Go.VM Go.Proofs
namespace Go.VM.Try
set_option maxHeartbeats 1000000 in
set_option maxRecDepth 100000 in
theorem stringslite_IndexByte (s : ByteArray) (c : Int) (w : World) :
    Calls Try.prog 82 #[.string s, .int .u8 c] w fun e w' => e = .returned (.int .i64 (Lib.indexByte s.data.toList c.toNat.toUInt8)) ∧ w' = w := by
  go_enter Try.func82, Try.ntmps82
  go_wp2
  rw [run_callFunc_extern Try.func88 (by kernel_rfl) (by kernel_rfl) (by kernel_rfl) (e := Extern.BytealgIndexByte.indexByte) (by kernel_rfl), Lib.run_indexByteString]
  simp only [Result.andThen]
  rw [Oper.upon_value]
  go_wp2
  go_ret
  exact ⟨rfl, rfl⟩
theorem idx0 (s : List UInt8) (c : Int) : Meets Try.prog 82 [.str s, .int .u8 c] (.int .i64 (Lib.indexByte s c.toNat.toUInt8)) [] :=
  meets_pure (us0 := #[.string ⟨s.toArray⟩, .int .u8 c]) fb82 (fun c' us hsz hus => args2 hsz hus (fun u h => by simpa only [VR] using h) (fun u h => by simpa only [VR] using h)) (u0 := .int .i64 (Lib.indexByte s c.toNat.toUInt8)) (fun c => by simp only [VR])
    fun w => by simpa using stringslite_IndexByte ⟨s.toArray⟩ c w
set_option maxRecDepth 100000
theorem IndexByte (s : List UInt8) (c : Int) : Meets Try.prog 67 [.str s, .int .u8 c] (.int .i64 (Lib.indexByte s c.toNat.toUInt8)) [] := by
  refine meets_x (fn := Try.f67) Try.func67 rfl fb67 (by kernel_rfl) (Nat.le_of_ble_eq_true rfl) ?_
  refine cx_sr ?_
  simp only [go_sem]
  repeat ((with_reducible first | refine side_d ?_ ?_ | refine side_q ?_ ?_); focus (first | (refine Sd.mk ?_; omega) | (refine Sq.mk ?_; omega) | exact Sd.mk trivial | exact Sq.mk trivial | (refine Sq.mk ?_; and_intros <;> first | omega | trivial | (simp; omega)) | (refine Sd.of fun hp => ?_; simp only [pc, and_true] at hp; (try subst_vars); simp only [decide_eq_true_eq, Bool.not_eq_true', decide_eq_false_iff_not, Bool.and_eq_true, Bool.or_eq_true, Bool.or_eq_false_iff] at hp; omega)))
  refine cx_sr ?_
  simp only [go_sem]
  repeat ((with_reducible first | refine side_d ?_ ?_ | refine side_q ?_ ?_); focus (first | (refine Sd.mk ?_; omega) | (refine Sq.mk ?_; omega) | exact Sd.mk trivial | exact Sq.mk trivial | (refine Sq.mk ?_; and_intros <;> first | omega | trivial | (simp; omega)) | (refine Sd.of fun hp => ?_; simp only [pc, and_true] at hp; (try subst_vars); simp only [decide_eq_true_eq, Bool.not_eq_true', decide_eq_false_iff_not, Bool.and_eq_true, Bool.or_eq_true, Bool.or_eq_false_iff] at hp; omega)))
  refine cw_m (idx0 s c) (by first | exact wks_refl _ | (first | trivial | (simp only [go_sem, wk, wks, wkB, wkH, subw, subEw, hprew, ltb, subr, subEr]; done) | (simp only [go_sem, wk, wks, wkB, wkH, subw, subEw, hprew, ltb, subr, subEr]; and_intros <;> first | trivial | rfl | omega | assumption | exact Nat.le_refl _ | exact wks_refl _ | exact wk_refl _ | (intros; exact wks_refl _) | (simp; done) | (simp; omega)))) (by first | rfl | (simp only [go_sem]; assumption)) ?_
  simp only [go_sem]
  repeat ((with_reducible first | refine side_d ?_ ?_ | refine side_q ?_ ?_); focus (first | (refine Sd.mk ?_; omega) | (refine Sq.mk ?_; omega) | exact Sd.mk trivial | exact Sq.mk trivial | (refine Sq.mk ?_; and_intros <;> first | omega | trivial | (simp; omega)) | (refine Sd.of fun hp => ?_; simp only [pc, and_true] at hp; (try subst_vars); simp only [decide_eq_true_eq, Bool.not_eq_true', decide_eq_false_iff_not, Bool.and_eq_true, Bool.or_eq_true, Bool.or_eq_false_iff] at hp; omega)))
  refine cx_ret ?_
  simp only [go_sem]
  exact finw_int rfl
end Go.VM.Try
