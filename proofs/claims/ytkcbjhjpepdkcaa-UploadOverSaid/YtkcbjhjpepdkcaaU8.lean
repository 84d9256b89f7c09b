import Derived.Test.YtkcbjhjpepdkcaaU7
set_option linter.unusedVariables false
set_option linter.unusedSimpArgs false
open Go Go.VM Go.Proofs Tether
namespace Go.VM.Try
set_option maxRecDepth 100000
theorem Finish_c (u : Uploads) (hu : u.ok) (who : Str) (hw : who.length < 4611686018427387904) (number now : Int) :
    Meets Try.prog 26 [u.enc, .str who, .int .i64 number, .int .i64 now] (.tup [(finishU u who number now).1.enc, .str (finishU u who number now).2.1, .int .i64 (finishU u who number now).2.2]) [] := by
  refine meets_x (fn := Try.f26) Try.func26 rfl fb26 (by kernel_rfl) (Nat.le_of_ble_eq_true rfl) ?_
  refine cx_sr ?_
  simp only [go_sem]
  repeat ((with_reducible first | refine side_d ?_ ?_ | refine side_q ?_ ?_); focus (first | (refine Sd.mk ?_; omega) | (refine Sq.mk ?_; omega) | exact Sd.mk trivial | exact Sq.mk trivial | (refine Sq.mk ?_; and_intros <;> first | omega | trivial | (simp; omega)) | (refine Sd.of fun hp => ?_; simp only [pc, and_true] at hp; (try subst_vars); simp only [decide_eq_true_eq, Bool.not_eq_true', decide_eq_false_iff_not, Bool.and_eq_true, Bool.or_eq_true, Bool.or_eq_false_iff] at hp; omega)))
  refine cx_sr ?_
  simp only [go_sem]
  repeat ((with_reducible first | refine side_d ?_ ?_ | refine side_q ?_ ?_); focus (first | (refine Sd.mk ?_; omega) | (refine Sq.mk ?_; omega) | exact Sd.mk trivial | exact Sq.mk trivial | (refine Sq.mk ?_; and_intros <;> first | omega | trivial | (simp; omega)) | (refine Sd.of fun hp => ?_; simp only [pc, and_true] at hp; (try subst_vars); simp only [decide_eq_true_eq, Bool.not_eq_true', decide_eq_false_iff_not, Bool.and_eq_true, Bool.or_eq_true, Bool.or_eq_false_iff] at hp; omega)))
  by_cases hs19 : mineErr u who number now = 0
  ·
    repeat ((with_reducible first | refine side_d ?_ ?_ | refine side_q ?_ ?_); focus (first | (refine Sd.mk ?_; omega) | (refine Sq.mk ?_; omega) | exact Sd.mk trivial | exact Sq.mk trivial | (refine Sq.mk ?_; and_intros <;> first | omega | trivial | (simp; omega)) | (refine Sd.of fun hp => ?_; simp only [pc, and_true] at hp; (try subst_vars); simp only [decide_eq_true_eq, Bool.not_eq_true', decide_eq_false_iff_not, Bool.and_eq_true, Bool.or_eq_true, Bool.or_eq_false_iff] at hp; omega)))
    obtain ⟨hi1, hi2⟩ := mineIx_of hs19
    obtain ⟨hb, hn, -⟩ := mineErr_facts hs19
    have hsl : (swept u now).ss.length * 56 ≤ 140737488355328 := by
      have := hu.1
      have h2 : (swept u now).ss.length ≤ u.ss.length := List.length_filter_le _ _
      omega
    refine cw_m (mine_ok u hu who hw number now hs19) (by first | exact wks_refl _ | (first | trivial | (simp only [go_sem, wk, wks, wkB, wkH, subw, subEw, hprew, ltb, subr, subEr]; done) | (simp only [go_sem, wk, wks, wkB, wkH, subw, subEw, hprew, ltb, subr, subEr]; and_intros <;> first | trivial | rfl | omega | assumption | exact Nat.le_refl _ | exact wks_refl _ | exact wk_refl _ | (intros; exact wks_refl _) | (simp; done) | (simp; omega)))) (by first | rfl | (simp only [go_sem]; assumption)) ?_
    simp only [go_sem]
    repeat ((with_reducible first | refine side_d ?_ ?_ | refine side_q ?_ ?_); focus (first | (refine Sd.mk ?_; omega) | (refine Sq.mk ?_; omega) | exact Sd.mk trivial | exact Sq.mk trivial | (refine Sq.mk ?_; and_intros <;> first | omega | trivial | (simp; omega)) | (refine Sd.of fun hp => ?_; simp only [pc, and_true] at hp; (try subst_vars); simp only [decide_eq_true_eq, Bool.not_eq_true', decide_eq_false_iff_not, Bool.and_eq_true, Bool.or_eq_true, Bool.or_eq_false_iff] at hp; omega)))
    refine cx_seq ?_
    refine cx_sr ?_
    simp only [go_sem]
    repeat ((with_reducible first | refine side_d ?_ ?_ | refine side_q ?_ ?_); focus (first | (refine Sd.mk ?_; omega) | (refine Sq.mk ?_; omega) | exact Sd.mk trivial | exact Sq.mk trivial | (refine Sq.mk ?_; and_intros <;> first | omega | trivial | (simp; omega)) | (refine Sd.of fun hp => ?_; simp only [pc, and_true] at hp; (try subst_vars); simp only [decide_eq_true_eq, Bool.not_eq_true', decide_eq_false_iff_not, Bool.and_eq_true, Bool.or_eq_true, Bool.or_eq_false_iff] at hp; omega)))
    intro t24 e24
    repeat ((with_reducible first | refine side_d ?_ ?_ | refine side_q ?_ ?_); focus (first | (refine Sd.mk ?_; omega) | (refine Sq.mk ?_; omega) | exact Sd.mk trivial | exact Sq.mk trivial | (refine Sq.mk ?_; and_intros <;> first | omega | trivial | (simp; omega)) | (refine Sd.of fun hp => ?_; simp only [pc, and_true] at hp; (try subst_vars); simp only [decide_eq_true_eq, Bool.not_eq_true', decide_eq_false_iff_not, Bool.and_eq_true, Bool.or_eq_true, Bool.or_eq_false_iff] at hp; omega)))
    subst e24
    refine cx_if _ rfl (fun h24 => (by first | cases h24 | (simp at h24; done) | (simp at h24; contradiction) | simp_all)) (fun h24 => ?_)
    refine cx_skip ?_
    (try simp only [go_sem])
    refine cx_sr ?_
    simp only [go_sem]
    repeat ((with_reducible first | refine side_d ?_ ?_ | refine side_q ?_ ?_); focus (first | (refine Sd.mk ?_; omega) | (refine Sq.mk ?_; omega) | exact Sd.mk trivial | exact Sq.mk trivial | (refine Sq.mk ?_; and_intros <;> first | omega | trivial | (simp; omega)) | (refine Sd.of fun hp => ?_; simp only [pc, and_true] at hp; (try subst_vars); simp only [decide_eq_true_eq, Bool.not_eq_true', decide_eq_false_iff_not, Bool.and_eq_true, Bool.or_eq_true, Bool.or_eq_false_iff] at hp; omega)))
    refine cx_seq ?_
    refine cx_sr ?_
    simp only [go_sem]
    repeat ((with_reducible first | refine side_d ?_ ?_ | refine side_q ?_ ?_); focus (first | (refine Sd.mk ?_; omega) | (refine Sq.mk ?_; omega) | exact Sd.mk trivial | exact Sq.mk trivial | (refine Sq.mk ?_; and_intros <;> first | omega | trivial | (simp; omega)) | (refine Sd.of fun hp => ?_; simp only [pc, and_true] at hp; (try subst_vars); simp only [decide_eq_true_eq, Bool.not_eq_true', decide_eq_false_iff_not, Bool.and_eq_true, Bool.or_eq_true, Bool.or_eq_false_iff] at hp; omega)))
    intro t37 e37
    repeat ((with_reducible first | refine side_d ?_ ?_ | refine side_q ?_ ?_); focus (first | (refine Sd.mk ?_; omega) | (refine Sq.mk ?_; omega) | exact Sd.mk trivial | exact Sq.mk trivial | (refine Sq.mk ?_; and_intros <;> first | omega | trivial | (simp; omega)) | (refine Sd.of fun hp => ?_; simp only [pc, and_true] at hp; (try subst_vars); simp only [decide_eq_true_eq, Bool.not_eq_true', decide_eq_false_iff_not, Bool.and_eq_true, Bool.or_eq_true, Bool.or_eq_false_iff] at hp; omega)))
    subst e37
    refine cx_if _ rfl (fun h37 => ?_) (fun h37 => ?_)
    ·
      (try simp only [go_sem] at h37)
      have ha : finishU u who number now = (zeroU, [], 4) := by rw [finishU, if_pos hs19]; exact if_pos h37
      refine cx_sr ?_
      simp only [go_sem]
      repeat ((with_reducible first | refine side_d ?_ ?_ | refine side_q ?_ ?_); focus (first | (refine Sd.mk ?_; omega) | (refine Sq.mk ?_; omega) | exact Sd.mk trivial | exact Sq.mk trivial | (refine Sq.mk ?_; and_intros <;> first | omega | trivial | (simp; omega)) | (refine Sd.of fun hp => ?_; simp only [pc, and_true] at hp; (try subst_vars); simp only [decide_eq_true_eq, Bool.not_eq_true', decide_eq_false_iff_not, Bool.and_eq_true, Bool.or_eq_true, Bool.or_eq_false_iff] at hp; omega)))
      refine cx_ret ?_
      simp only [go_sem]
      rw [ha]
      refine finx_of 1 [] rfl ?_ ?_ ?_ ?_ <;> (first | trivial | (simp only [go_sem, wk, wks, wkB, wkH, subw, subEw, hprew, ltb, subr, subEr]; done) | (simp only [go_sem, wk, wks, wkB, wkH, subw, subEw, hprew, ltb, subr, subEr]; and_intros <;> first | trivial | rfl | omega | assumption | exact Nat.le_refl _ | exact wks_refl _ | exact wk_refl _ | (intros; exact wks_refl _) | (simp; done) | (simp; omega)))
    ·
      (try simp only [go_sem] at h37)
      have hj : finishU u who number now = ({ swept u now with ss := (swept u now).ss.take (mineIx u who number now).toNat ++ (swept u now).ss.drop ((mineIx u who number now).toNat + 1) }, ((swept u now).ss.getD (mineIx u who number now).toNat default).text, 0) := by rw [finishU, if_pos hs19]; exact if_neg h37
      refine cx_skip ?_
      (try simp only [go_sem])
      refine cx_sr ?_
      simp only [go_sem]
      repeat ((with_reducible first | refine side_d ?_ ?_ | refine side_q ?_ ?_); focus (first | (refine Sd.mk ?_; omega) | (refine Sq.mk ?_; omega) | exact Sd.mk trivial | exact Sq.mk trivial | (refine Sq.mk ?_; and_intros <;> first | omega | trivial | (simp; omega)) | (refine Sd.of fun hp => ?_; simp only [pc, and_true] at hp; (try subst_vars); simp only [decide_eq_true_eq, Bool.not_eq_true', decide_eq_false_iff_not, Bool.and_eq_true, Bool.or_eq_true, Bool.or_eq_false_iff] at hp; omega)))
      intro t43 e43
      (try replace e43 := w64 e43 (by omega) (by omega))
      repeat ((with_reducible first | refine side_d ?_ ?_ | refine side_q ?_ ?_); focus (first | (refine Sd.mk ?_; omega) | (refine Sq.mk ?_; omega) | exact Sd.mk trivial | exact Sq.mk trivial | (refine Sq.mk ?_; and_intros <;> first | omega | trivial | (simp; omega)) | (refine Sd.of fun hp => ?_; simp only [pc, and_true] at hp; (try subst_vars); simp only [decide_eq_true_eq, Bool.not_eq_true', decide_eq_false_iff_not, Bool.and_eq_true, Bool.or_eq_true, Bool.or_eq_false_iff] at hp; omega)))
      refine cw_does (Delete_Session (swept u now).ss (mineIx u who number now).toNat ((mineIx u who number now).toNat + 1) (by omega) (by omega) hsl) [2] rfl (by (first | trivial | (simp only [go_sem, wk, wks, wkB, wkH, subw, subEw, hprew, ltb, subr, subEr]; done) | (simp only [go_sem, wk, wks, wkB, wkH, subw, subEw, hprew, ltb, subr, subEr]; and_intros <;> first | trivial | rfl | omega | assumption | exact Nat.le_refl _ | exact wks_refl _ | exact wk_refl _ | (intros; exact wks_refl _) | (simp; done) | (simp; omega)))) (by (first | trivial | (simp only [go_sem, wk, wks, wkB, wkH, subw, subEw, hprew, ltb, subr, subEr]; done) | (simp only [go_sem, wk, wks, wkB, wkH, subw, subEw, hprew, ltb, subr, subEr]; and_intros <;> first | trivial | rfl | omega | assumption | exact Nat.le_refl _ | exact wks_refl _ | exact wk_refl _ | (intros; exact wks_refl _) | (simp; done) | (simp; omega)))) ?_
      simp only [go_sem]
      repeat ((with_reducible first | refine side_d ?_ ?_ | refine side_q ?_ ?_); focus (first | (refine Sd.mk ?_; omega) | (refine Sq.mk ?_; omega) | exact Sd.mk trivial | exact Sq.mk trivial | (refine Sq.mk ?_; and_intros <;> first | omega | trivial | (simp; omega)) | (refine Sd.of fun hp => ?_; simp only [pc, and_true] at hp; (try subst_vars); simp only [decide_eq_true_eq, Bool.not_eq_true', decide_eq_false_iff_not, Bool.and_eq_true, Bool.or_eq_true, Bool.or_eq_false_iff] at hp; omega)))
      refine cx_joinw ([⟨8, 0, [], .ptr 1 0⟩, ⟨9, 0, [], .str (finishU u who number now).2.1⟩, ⟨10, 0, [], .int .i64 0⟩]) ([.dead, .box [.own none 2 5 0 (finishU u who number now).1.ss.length .loose, .int .i64 u.next, .int .i64 u.lasts, .int .i64 u.room], .arr 5 (finishU u who number now).1.ss.length (En Session.enc default (finishU u who number now).1.ss), .dead]) (cx_draw mixed [0, 1, 2, 3] (.alt 0 (.alt 1 (.alt 2 (.one 3 (.first 4 (.first 5 (.done)))) (.one 3 (.one 2 (.first 4 (.first 5 (.done)))))) (.one 3 (.one 1 (.one 2 (.first 4 (.first 5 (.done))))))) (.one 1 (.alt 0 (.alt 2 (.one 3 (.first 4 (.first 5 (.done)))) (.one 3 (.one 2 (.first 4 (.first 5 (.done)))))) (.one 2 (.one 0 (.one 3 (.first 4 (.first 5 (.done))))))))) (by kernel_rfl) ?_) ?_
      · ((try simp only [hj]); simp only [go_sem, wk, wks, wkB, wkH, subw, subEw, hprew, ltb, subr, subEr, wkE]; repeat' (first | apply And.intro)) <;> first | (refine Sd.mk ?_; omega) | (refine Sq.mk ?_; omega) | first | trivial | rfl | omega | assumption | exact Nat.le_refl _ | exact wks_refl _ | exact wk_refl _ | (intros; exact wks_refl _) | (simp; done) | (simp; omega) | (intro q hq; exact wks_stF (by omega) (wks_refl _) q) | (intro q hq; exact wks_stF2 (by omega) (wks_refl _) q)
      refine cx_ret ?_
      simp only [go_sem]
      rw [hj]
      refine finx_of 1 [] rfl ?_ ?_ ?_ ?_ <;> (first | trivial | (simp only [go_sem, wk, wks, wkB, wkH, subw, subEw, hprew, ltb, subr, subEr]; done) | (simp only [go_sem, wk, wks, wkB, wkH, subw, subEw, hprew, ltb, subr, subEr]; and_intros <;> first | trivial | rfl | omega | assumption | exact Nat.le_refl _ | exact wks_refl _ | exact wk_refl _ | (intros; exact wks_refl _) | (simp; done) | (simp; omega)))
  ·
    repeat ((with_reducible first | refine side_d ?_ ?_ | refine side_q ?_ ?_); focus (first | (refine Sd.mk ?_; omega) | (refine Sq.mk ?_; omega) | exact Sd.mk trivial | exact Sq.mk trivial | (refine Sq.mk ?_; and_intros <;> first | omega | trivial | (simp; omega)) | (refine Sd.of fun hp => ?_; simp only [pc, and_true] at hp; (try subst_vars); simp only [decide_eq_true_eq, Bool.not_eq_true', decide_eq_false_iff_not, Bool.and_eq_true, Bool.or_eq_true, Bool.or_eq_false_iff] at hp; omega)))
    refine cw_m (mine_err u hu who hw number now hs19) (by first | exact wks_refl _ | (first | trivial | (simp only [go_sem, wk, wks, wkB, wkH, subw, subEw, hprew, ltb, subr, subEr]; done) | (simp only [go_sem, wk, wks, wkB, wkH, subw, subEw, hprew, ltb, subr, subEr]; and_intros <;> first | trivial | rfl | omega | assumption | exact Nat.le_refl _ | exact wks_refl _ | exact wk_refl _ | (intros; exact wks_refl _) | (simp; done) | (simp; omega)))) (by first | rfl | (simp only [go_sem]; assumption)) ?_
    simp only [go_sem]
    repeat ((with_reducible first | refine side_d ?_ ?_ | refine side_q ?_ ?_); focus (first | (refine Sd.mk ?_; omega) | (refine Sq.mk ?_; omega) | exact Sd.mk trivial | exact Sq.mk trivial | (refine Sq.mk ?_; and_intros <;> first | omega | trivial | (simp; omega)) | (refine Sd.of fun hp => ?_; simp only [pc, and_true] at hp; (try subst_vars); simp only [decide_eq_true_eq, Bool.not_eq_true', decide_eq_false_iff_not, Bool.and_eq_true, Bool.or_eq_true, Bool.or_eq_false_iff] at hp; omega)))
    refine cx_seq ?_
    refine cx_sr ?_
    simp only [go_sem]
    repeat ((with_reducible first | refine side_d ?_ ?_ | refine side_q ?_ ?_); focus (first | (refine Sd.mk ?_; omega) | (refine Sq.mk ?_; omega) | exact Sd.mk trivial | exact Sq.mk trivial | (refine Sq.mk ?_; and_intros <;> first | omega | trivial | (simp; omega)) | (refine Sd.of fun hp => ?_; simp only [pc, and_true] at hp; (try subst_vars); simp only [decide_eq_true_eq, Bool.not_eq_true', decide_eq_false_iff_not, Bool.and_eq_true, Bool.or_eq_true, Bool.or_eq_false_iff] at hp; omega)))
    intro t24 e24
    repeat ((with_reducible first | refine side_d ?_ ?_ | refine side_q ?_ ?_); focus (first | (refine Sd.mk ?_; omega) | (refine Sq.mk ?_; omega) | exact Sd.mk trivial | exact Sq.mk trivial | (refine Sq.mk ?_; and_intros <;> first | omega | trivial | (simp; omega)) | (refine Sd.of fun hp => ?_; simp only [pc, and_true] at hp; (try subst_vars); simp only [decide_eq_true_eq, Bool.not_eq_true', decide_eq_false_iff_not, Bool.and_eq_true, Bool.or_eq_true, Bool.or_eq_false_iff] at hp; omega)))
    subst e24
    refine cx_if _ rfl (fun h24 => ?_) (fun h24 => (by first | cases h24 | (simp at h24; done) | (simp at h24; contradiction) | simp_all))
    refine cx_sr ?_
    simp only [go_sem]
    repeat ((with_reducible first | refine side_d ?_ ?_ | refine side_q ?_ ?_); focus (first | (refine Sd.mk ?_; omega) | (refine Sq.mk ?_; omega) | exact Sd.mk trivial | exact Sq.mk trivial | (refine Sq.mk ?_; and_intros <;> first | omega | trivial | (simp; omega)) | (refine Sd.of fun hp => ?_; simp only [pc, and_true] at hp; (try subst_vars); simp only [decide_eq_true_eq, Bool.not_eq_true', decide_eq_false_iff_not, Bool.and_eq_true, Bool.or_eq_true, Bool.or_eq_false_iff] at hp; omega)))
    refine cx_ret ?_
    simp only [go_sem]
    rw [finishU, if_neg hs19]
    refine finx_of 1 [] rfl ?_ ?_ ?_ ?_ <;> (first | trivial | (simp only [go_sem, wk, wks, wkB, wkH, subw, subEw, hprew, ltb, subr, subEr]; done) | (simp only [go_sem, wk, wks, wkB, wkH, subw, subEw, hprew, ltb, subr, subEr]; and_intros <;> first | trivial | rfl | omega | assumption | exact Nat.le_refl _ | exact wks_refl _ | exact wk_refl _ | (intros; exact wks_refl _) | (simp; done) | (simp; omega)))
end Go.VM.Try
