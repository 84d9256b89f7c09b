import Derived.Test.YtkcbjhjpepdkcaaW1
section
set_option linter.unusedVariables false
set_option linter.unusedSimpArgs false
open Go Go.VM Go.Proofs Tether
namespace Go.VM.Try
set_option maxRecDepth 100000
theorem IndexFunc_Session (f : Nat) (caps : List V) (hc : ltrs 0 caps = true) (p : Session → Bool) (hp : ∀ x, Meets Try.prog f (.agg (Session.enc x) :: caps) (.bool (p x)) []) (l : List Session) (hl : l.length < 4611686018427387904) :
    Meets Try.prog 68 [lstV 5 Session.enc default l, .fn f [] caps] (.int .i64 (idxF p l)) [] := by
  refine meets_x (fn := Try.f68) Try.func68 rfl fb68 (by kernel_rfl) (Nat.le_of_ble_eq_true rfl) ?_
  refine cx_sr ?_
  simp only [go_sem]
  repeat first | (with_reducible refine side_d ?_ ?_; exact byD) | (with_reducible refine side_q ?_ ?_; exact byQ)
  refine cx_seq ?_
  refine cx_sr ?_
  simp only [go_sem]
  repeat first | (with_reducible refine side_d ?_ ?_; exact byD) | (with_reducible refine side_q ?_ ?_; exact byQ)
  refine cx_block ?_
  refine cx_loop0 (σ := Nat) (fun i => i ≤ l.length ∧ ∀ j, j < i → p (l.getD j default) = false) (fun i => [⟨8, 0, [], .int .i64 (i : Nat)⟩]) [0, 1, 7] (fun i => l.length - i) 0 ⟨Nat.zero_le _, fun j hj => absurd hj (Nat.not_lt_zero j)⟩ (Nat.zero_le _) byC (fun i hI1 => ?_)
  simp only [go_sem]
  refine cx_sr ?_
  simp only [go_sem]
  repeat first | (with_reducible refine side_d ?_ ?_; exact byD) | (with_reducible refine side_q ?_ ?_; exact byQ)
  intro t9 e9
  repeat first | (with_reducible refine side_d ?_ ?_; exact byD) | (with_reducible refine side_q ?_ ?_; exact byQ)
  subst e9
  refine cx_seq ?_
  refine cx_if _ rfl (fun h9 => ?_) (fun h9 => ?_)
  ·
    (try simp only [go_sem] at h9)
    refine cx_skip ?_
    (try simp only [go_sem])
    refine cx_seq (cx_block ?_)
    refine cx_sr ?_
    simp only [go_sem]
    repeat first | (with_reducible refine side_d ?_ ?_; exact byD) | (with_reducible refine side_q ?_ ?_; exact byQ)
    refine cx_sr ?_
    simp only [go_sem]
    repeat first | (with_reducible refine side_d ?_ ?_; exact byD) | (with_reducible refine side_q ?_ ?_; exact byQ)
    refine cw_m (hp (l.getD i default)) byW byT ?_
    simp only [go_sem]
    repeat first | (with_reducible refine side_d ?_ ?_; exact byD) | (with_reducible refine side_q ?_ ?_; exact byQ)
    refine cx_if _ rfl (fun h16 => ?_) (fun h16 => ?_)
    ·
      (try simp only [go_sem] at h16)
      refine cx_sr ?_
      simp only [go_sem]
      repeat first | (with_reducible refine side_d ?_ ?_; exact byD) | (with_reducible refine side_q ?_ ?_; exact byQ)
      refine cx_ret ?_
      simp only [go_sem]
      refine finw_int ?_
      rw [idxF_at (by omega) hI1.2 h16]
    ·
      (try simp only [go_sem] at h16)
      refine cx_skip ?_
      (try simp only [go_sem])
      refine cx_region ?_
      simp only [go_sem]
      repeat first | (with_reducible refine side_d ?_ ?_; exact byD) | (with_reducible refine side_q ?_ ?_; exact byQ)
      intro t18 e18
      (try replace e18 := w64 e18 (by omega) (by omega))
      repeat first | (with_reducible refine side_d ?_ ?_; exact byD) | (with_reducible refine side_q ?_ ?_; exact byQ)
      refine rnd_next (i + 1) ⟨by omega, all_next hI1.2 h16⟩ (by first | omega | (dsimp only; omega)) byC
  ·
    (try simp only [go_sem] at h9)
    refine cx_exit ?_
    simp only [go_sem]
    refine cx_sr ?_
    simp only [go_sem]
    repeat first | (with_reducible refine side_d ?_ ?_; exact byD) | (with_reducible refine side_q ?_ ?_; exact byQ)
    refine cx_ret ?_
    simp only [go_sem]
    refine finw_int ?_
    rw [idxF_none fun j hj => hI1.2 j (by omega)]
theorem Clone_Session (l : List Session) (hl : l.length * 56 ≤ 140737488355328) : Meets Try.prog 80 [lstV 5 Session.enc default l] (.own none 0 5 0 l.length .loose) [.arr 5 l.length (En Session.enc default l)] := by
  refine meets_x (fn := Try.f80) Try.func80 rfl fb80 (by kernel_rfl) (Nat.le_of_ble_eq_true rfl) ?_
  refine cx_nil 0 rfl fun b hb => ?_
  refine cx_sr ?_
  simp only [go_sem]
  repeat first | (with_reducible refine side_d ?_ ?_; exact byD) | (with_reducible refine side_q ?_ ?_; exact byQ)
  refine cx_seq ?_
  refine cx_sr ?_
  simp only [go_sem]
  repeat first | (with_reducible refine side_d ?_ ?_; exact byD) | (with_reducible refine side_q ?_ ?_; exact byQ)
  intro t4 e4
  repeat first | (with_reducible refine side_d ?_ ?_; exact byD) | (with_reducible refine side_q ?_ ?_; exact byQ)
  subst e4
  refine cx_if _ rfl (fun h4 => ?_) (fun h4 => ?_)
  ·
    (try simp only [go_sem] at h4)
    have hb := hb h4
    refine cx_sr ?_
    simp only [go_sem]
    repeat first | (with_reducible refine side_d ?_ ?_; exact byD) | (with_reducible refine side_q ?_ ?_; exact byQ)
    refine cx_virt 2 5 (En Session.enc default l) rfl ?_
    simp only [go_sem]
    refine cx_ret ?_
    simp only [go_sem]
    exact finx_of 1 [0] rfl byC byC byC byC
  ·
    (try simp only [go_sem] at h4)
    refine cx_skip ?_
    (try simp only [go_sem])
    refine cx_sr ?_
    simp only [go_sem]
    repeat first | (with_reducible refine side_d ?_ ?_; exact byD) | (with_reducible refine side_q ?_ ?_; exact byQ)
    refine cx_ret ?_
    simp only [go_sem]
    exact finx_of 1 [1] rfl byC byC byC byC
theorem DeleteFunc_Session (f : Nat) (cs : List V) (hcs : ltrs 0 cs = true) (p : Session → Bool) (hp : ∀ x, Meets Try.prog f [.agg (Session.enc x), .iptr cs 0] (.bool (p x)) []) (l : List Session) (hl : l.length < 4611686018427387904) :
    Does Try.prog 79 [.own none 0 5 0 l.length .loose, .fn f [] [.ptr 1 0]] [.arr 5 l.length (En Session.enc default l), .box cs]
      (.own none 0 5 0 (l.filter fun x => !p x).length .loose) [.arr 5 (l.filter fun x => !p x).length (En Session.enc default (l.filter fun x => !p x)), .box cs] := by
  refine does_cx (fn := Try.f79) Try.func79 rfl fb79 (by kernel_rfl) (Nat.le_of_ble_eq_true rfl) ?_
  refine cx_sr ?_
  simp only [go_sem, hcs]
  repeat ((with_reducible first | refine side_d ?_ ?_ | refine side_q ?_ ?_); focus (first | (refine Sd.mk ?_; omega) | (refine Sq.mk ?_; omega) | exact Sd.mk trivial | exact Sq.mk trivial | (refine Sq.mk ?_; and_intros <;> first | omega | trivial | (simp; omega)) | (refine Sd.of fun hp => ?_; simp only [pc, and_true] at hp; (try subst_vars); simp only [decide_eq_true_eq, Bool.not_eq_true', decide_eq_false_iff_not, Bool.and_eq_true, Bool.or_eq_true, Bool.or_eq_false_iff] at hp; omega)))
  refine cx_sr ?_
  simp only [go_sem, hcs]
  repeat ((with_reducible first | refine side_d ?_ ?_ | refine side_q ?_ ?_); focus (first | (refine Sd.mk ?_; omega) | (refine Sq.mk ?_; omega) | exact Sd.mk trivial | exact Sq.mk trivial | (refine Sq.mk ?_; and_intros <;> first | omega | trivial | (simp; omega)) | (refine Sd.of fun hp => ?_; simp only [pc, and_true] at hp; (try subst_vars); simp only [decide_eq_true_eq, Bool.not_eq_true', decide_eq_false_iff_not, Bool.and_eq_true, Bool.or_eq_true, Bool.or_eq_false_iff] at hp; omega)))
  refine cw_v 2 (IndexFunc_Session f [.iptr cs 0] rfl p hp l hl) (by first | (simp only [go_sem, hcs]; exact wks_refl _) | (first | trivial | (simp only [go_sem, hcs, wk, wks, wkB, wkH, subw, subEw, hprew, ltb, subr, subEr]; done) | (simp only [go_sem, hcs, wk, wks, wkB, wkH, subw, subEw, hprew, ltb, subr, subEr]; and_intros <;> first | trivial | rfl | omega | assumption | exact Nat.le_refl _ | exact wks_refl _ | exact wk_refl _ | (intros; exact wks_refl _) | (simp; done) | (simp; omega)))) (by (first | trivial | (simp only [go_sem, hcs, wk, wks, wkB, wkH, subw, subEw, hprew, ltb, subr, subEr]; done) | (simp only [go_sem, hcs, wk, wks, wkB, wkH, subw, subEw, hprew, ltb, subr, subEr]; and_intros <;> first | trivial | rfl | omega | assumption | exact Nat.le_refl _ | exact wks_refl _ | exact wk_refl _ | (intros; exact wks_refl _) | (simp; done) | (simp; omega)))) rfl ?_
  simp only [go_sem, hcs]
  repeat ((with_reducible first | refine side_d ?_ ?_ | refine side_q ?_ ?_); focus (first | (refine Sd.mk ?_; omega) | (refine Sq.mk ?_; omega) | exact Sd.mk trivial | exact Sq.mk trivial | (refine Sq.mk ?_; and_intros <;> first | omega | trivial | (simp; omega)) | (refine Sd.of fun hp => ?_; simp only [pc, and_true] at hp; (try subst_vars); simp only [decide_eq_true_eq, Bool.not_eq_true', decide_eq_false_iff_not, Bool.and_eq_true, Bool.or_eq_true, Bool.or_eq_false_iff] at hp; omega)))
  refine cx_seq ?_
  refine cx_sr ?_
  simp only [go_sem, hcs]
  repeat ((with_reducible first | refine side_d ?_ ?_ | refine side_q ?_ ?_); focus (first | (refine Sd.mk ?_; omega) | (refine Sq.mk ?_; omega) | exact Sd.mk trivial | exact Sq.mk trivial | (refine Sq.mk ?_; and_intros <;> first | omega | trivial | (simp; omega)) | (refine Sd.of fun hp => ?_; simp only [pc, and_true] at hp; (try subst_vars); simp only [decide_eq_true_eq, Bool.not_eq_true', decide_eq_false_iff_not, Bool.and_eq_true, Bool.or_eq_true, Bool.or_eq_false_iff] at hp; omega)))
  intro t12 e12
  repeat ((with_reducible first | refine side_d ?_ ?_ | refine side_q ?_ ?_); focus (first | (refine Sd.mk ?_; omega) | (refine Sq.mk ?_; omega) | exact Sd.mk trivial | exact Sq.mk trivial | (refine Sq.mk ?_; and_intros <;> first | omega | trivial | (simp; omega)) | (refine Sd.of fun hp => ?_; simp only [pc, and_true] at hp; (try subst_vars); simp only [decide_eq_true_eq, Bool.not_eq_true', decide_eq_false_iff_not, Bool.and_eq_true, Bool.or_eq_true, Bool.or_eq_false_iff] at hp; omega)))
  subst e12
  refine cx_if _ rfl (fun h12 => ?_) (fun h12 => ?_)
  ·
    (try simp only [go_sem, hcs] at h12)
    refine cx_sr ?_
    simp only [go_sem, hcs]
    repeat ((with_reducible first | refine side_d ?_ ?_ | refine side_q ?_ ?_); focus (first | (refine Sd.mk ?_; omega) | (refine Sq.mk ?_; omega) | exact Sd.mk trivial | exact Sq.mk trivial | (refine Sq.mk ?_; and_intros <;> first | omega | trivial | (simp; omega)) | (refine Sd.of fun hp => ?_; simp only [pc, and_true] at hp; (try subst_vars); simp only [decide_eq_true_eq, Bool.not_eq_true', decide_eq_false_iff_not, Bool.and_eq_true, Bool.or_eq_true, Bool.or_eq_false_iff] at hp; omega)))
    refine cx_ret ?_
    simp only [go_sem, hcs]
    rw [idxF_all h12]
    refine ⟨[0, 1], rfl, rfl, ?_, ?_⟩ <;> (first | trivial | (simp only [go_sem, hcs, wk, wks, wkB, wkH, subw, subEw, hprew, ltb, subr, subEr]; done) | (simp only [go_sem, hcs, wk, wks, wkB, wkH, subw, subEw, hprew, ltb, subr, subEr]; and_intros <;> first | trivial | rfl | omega | assumption | exact Nat.le_refl _ | exact wks_refl _ | exact wk_refl _ | (intros; exact wks_refl _) | (simp; done) | (simp; omega)))
  ·
    (try simp only [go_sem, hcs] at h12)
    obtain ⟨iN, hiN, hiN1, hiN2, hiN3⟩ := idxF_spec default h12
    refine cx_skip ?_
    (try simp only [go_sem, hcs])
    refine cx_seq ?_
    refine cx_sr ?_
    simp only [go_sem, hcs]
    repeat ((with_reducible first | refine side_d ?_ ?_ | refine side_q ?_ ?_); focus (first | (refine Sd.mk ?_; omega) | (refine Sq.mk ?_; omega) | exact Sd.mk trivial | exact Sq.mk trivial | (refine Sq.mk ?_; and_intros <;> first | omega | trivial | (simp; omega)) | (refine Sd.of fun hp => ?_; simp only [pc, and_true] at hp; (try subst_vars); simp only [decide_eq_true_eq, Bool.not_eq_true', decide_eq_false_iff_not, Bool.and_eq_true, Bool.or_eq_true, Bool.or_eq_false_iff] at hp; omega)))
    intro t15 e15
    (try replace e15 := w64 e15 (by omega) (by omega))
    repeat ((with_reducible first | refine side_d ?_ ?_ | refine side_q ?_ ?_); focus (first | (refine Sd.mk ?_; omega) | (refine Sq.mk ?_; omega) | exact Sd.mk trivial | exact Sq.mk trivial | (refine Sq.mk ?_; and_intros <;> first | omega | trivial | (simp; omega)) | (refine Sd.of fun hp => ?_; simp only [pc, and_true] at hp; (try subst_vars); simp only [decide_eq_true_eq, Bool.not_eq_true', decide_eq_false_iff_not, Bool.and_eq_true, Bool.or_eq_true, Bool.or_eq_false_iff] at hp; omega)))
    refine cx_block ?_
    refine cx_loopk (σ := Nat × Nat × List Session) (fun s => s.2.1 < s.1 ∧ s.1 ≤ l.length ∧ s.2.2.length = l.length ∧ s.2.2.take s.2.1 = (l.take s.1).filter (fun x => !p x) ∧ s.2.2.drop s.1 = l.drop s.1) (fun s => [⟨6, 0, [], .int .i64 (s.1 : Nat)⟩, ⟨5, 0, [], .int .i64 (s.2.1 : Nat)⟩]) [0, 1, 4] (fun s => [.arr 5 l.length (En Session.enc default s.2.2), .box cs]) (fun s => l.length - s.1) (iN + 1, iN, l) ⟨by dsimp only; omega, by dsimp only; omega, rfl, hiN3.symm, rfl⟩ (fun _ => (Nat.le_of_ble_eq_true rfl)) (by (first | trivial | (simp only [go_sem, hcs, wk, wks, wkB, wkH, subw, subEw, hprew, ltb, subr, subEr]; done) | (simp only [go_sem, hcs, wk, wks, wkB, wkH, subw, subEw, hprew, ltb, subr, subEr]; and_intros <;> first | trivial | rfl | omega | assumption | exact Nat.le_refl _ | exact wks_refl _ | exact wk_refl _ | (intros; exact wks_refl _) | (simp; done) | (simp; omega)))) (fun s hI1 => ?_)
    simp only [go_sem, hcs]
    refine cx_seq ?_
    refine cx_sr ?_
    simp only [go_sem, hcs]
    repeat ((with_reducible first | refine side_d ?_ ?_ | refine side_q ?_ ?_); focus (first | (refine Sd.mk ?_; omega) | (refine Sq.mk ?_; omega) | exact Sd.mk trivial | exact Sq.mk trivial | (refine Sq.mk ?_; and_intros <;> first | omega | trivial | (simp; omega)) | (refine Sd.of fun hp => ?_; simp only [pc, and_true] at hp; (try subst_vars); simp only [decide_eq_true_eq, Bool.not_eq_true', decide_eq_false_iff_not, Bool.and_eq_true, Bool.or_eq_true, Bool.or_eq_false_iff] at hp; omega)))
    intro t19 e19
    repeat ((with_reducible first | refine side_d ?_ ?_ | refine side_q ?_ ?_); focus (first | (refine Sd.mk ?_; omega) | (refine Sq.mk ?_; omega) | exact Sd.mk trivial | exact Sq.mk trivial | (refine Sq.mk ?_; and_intros <;> first | omega | trivial | (simp; omega)) | (refine Sd.of fun hp => ?_; simp only [pc, and_true] at hp; (try subst_vars); simp only [decide_eq_true_eq, Bool.not_eq_true', decide_eq_false_iff_not, Bool.and_eq_true, Bool.or_eq_true, Bool.or_eq_false_iff] at hp; omega)))
    subst e19
    refine cx_if _ rfl (fun h19 => ?_) (fun h19 => ?_)
    ·
      (try simp only [go_sem, hcs] at h19)
      refine cx_skip ?_
      (try simp only [go_sem, hcs])
      refine cx_seq (cx_block ?_)
      refine cx_sr ?_
      simp only [go_sem, hcs]
      repeat ((with_reducible first | refine side_d ?_ ?_ | refine side_q ?_ ?_); focus (first | (refine Sd.mk ?_; omega) | (refine Sq.mk ?_; omega) | exact Sd.mk trivial | exact Sq.mk trivial | (refine Sq.mk ?_; and_intros <;> first | omega | trivial | (simp; omega)) | (refine Sd.of fun hp => ?_; simp only [pc, and_true] at hp; (try subst_vars); simp only [decide_eq_true_eq, Bool.not_eq_true', decide_eq_false_iff_not, Bool.and_eq_true, Bool.or_eq_true, Bool.or_eq_false_iff] at hp; omega)))
      refine cx_sr ?_
      simp only [go_sem, hcs]
      repeat ((with_reducible first | refine side_d ?_ ?_ | refine side_q ?_ ?_); focus (first | (refine Sd.mk ?_; omega) | (refine Sq.mk ?_; omega) | exact Sd.mk trivial | exact Sq.mk trivial | (refine Sq.mk ?_; and_intros <;> first | omega | trivial | (simp; omega)) | (refine Sd.of fun hp => ?_; simp only [pc, and_true] at hp; (try subst_vars); simp only [decide_eq_true_eq, Bool.not_eq_true', decide_eq_false_iff_not, Bool.and_eq_true, Bool.or_eq_true, Bool.or_eq_false_iff] at hp; omega)))
      refine cw_v 2 (hp (s.2.2.getD s.1 default)) (by first | (simp only [go_sem, hcs]; exact wks_refl _) | (first | trivial | (simp only [go_sem, hcs, wk, wks, wkB, wkH, subw, subEw, hprew, ltb, subr, subEr]; done) | (simp only [go_sem, hcs, wk, wks, wkB, wkH, subw, subEw, hprew, ltb, subr, subEr]; and_intros <;> first | trivial | rfl | omega | assumption | exact Nat.le_refl _ | exact wks_refl _ | exact wk_refl _ | (intros; exact wks_refl _) | (simp; done) | (simp; omega)))) (by (first | trivial | (simp only [go_sem, hcs, wk, wks, wkB, wkH, subw, subEw, hprew, ltb, subr, subEr]; done) | (simp only [go_sem, hcs, wk, wks, wkB, wkH, subw, subEw, hprew, ltb, subr, subEr]; and_intros <;> first | trivial | rfl | omega | assumption | exact Nat.le_refl _ | exact wks_refl _ | exact wk_refl _ | (intros; exact wks_refl _) | (simp; done) | (simp; omega)))) rfl ?_
      simp only [go_sem, hcs]
      repeat ((with_reducible first | refine side_d ?_ ?_ | refine side_q ?_ ?_); focus (first | (refine Sd.mk ?_; omega) | (refine Sq.mk ?_; omega) | exact Sd.mk trivial | exact Sq.mk trivial | (refine Sq.mk ?_; and_intros <;> first | omega | trivial | (simp; omega)) | (refine Sd.of fun hp => ?_; simp only [pc, and_true] at hp; (try subst_vars); simp only [decide_eq_true_eq, Bool.not_eq_true', decide_eq_false_iff_not, Bool.and_eq_true, Bool.or_eq_true, Bool.or_eq_false_iff] at hp; omega)))
      intro t29 e29
      repeat ((with_reducible first | refine side_d ?_ ?_ | refine side_q ?_ ?_); focus (first | (refine Sd.mk ?_; omega) | (refine Sq.mk ?_; omega) | exact Sd.mk trivial | exact Sq.mk trivial | (refine Sq.mk ?_; and_intros <;> first | omega | trivial | (simp; omega)) | (refine Sd.of fun hp => ?_; simp only [pc, and_true] at hp; (try subst_vars); simp only [decide_eq_true_eq, Bool.not_eq_true', decide_eq_false_iff_not, Bool.and_eq_true, Bool.or_eq_true, Bool.or_eq_false_iff] at hp; omega)))
      subst e29
      refine cx_if _ rfl (fun h29 => ?_) (fun h29 => ?_)
      ·
        (try simp only [go_sem, hcs] at h29)
        refine cx_sr ?_
        simp only [go_sem, hcs]
        repeat ((with_reducible first | refine side_d ?_ ?_ | refine side_q ?_ ?_); focus (first | (refine Sd.mk ?_; omega) | (refine Sq.mk ?_; omega) | exact Sd.mk trivial | exact Sq.mk trivial | (refine Sq.mk ?_; and_intros <;> first | omega | trivial | (simp; omega)) | (refine Sd.of fun hp => ?_; simp only [pc, and_true] at hp; (try subst_vars); simp only [decide_eq_true_eq, Bool.not_eq_true', decide_eq_false_iff_not, Bool.and_eq_true, Bool.or_eq_true, Bool.or_eq_false_iff] at hp; omega)))
        refine cx_region ?_
        simp only [go_sem, hcs]
        repeat ((with_reducible first | refine side_d ?_ ?_ | refine side_q ?_ ?_); focus (first | (refine Sd.mk ?_; omega) | (refine Sq.mk ?_; omega) | exact Sd.mk trivial | exact Sq.mk trivial | (refine Sq.mk ?_; and_intros <;> first | omega | trivial | (simp; omega)) | (refine Sd.of fun hp => ?_; simp only [pc, and_true] at hp; (try subst_vars); simp only [decide_eq_true_eq, Bool.not_eq_true', decide_eq_false_iff_not, Bool.and_eq_true, Bool.or_eq_true, Bool.or_eq_false_iff] at hp; omega)))
        intro t35 e35
        (try replace e35 := w64 e35 (by omega) (by omega))
        repeat ((with_reducible first | refine side_d ?_ ?_ | refine side_q ?_ ?_); focus (first | (refine Sd.mk ?_; omega) | (refine Sq.mk ?_; omega) | exact Sd.mk trivial | exact Sq.mk trivial | (refine Sq.mk ?_; and_intros <;> first | omega | trivial | (simp; omega)) | (refine Sd.of fun hp => ?_; simp only [pc, and_true] at hp; (try subst_vars); simp only [decide_eq_true_eq, Bool.not_eq_true', decide_eq_false_iff_not, Bool.and_eq_true, Bool.or_eq_true, Bool.or_eq_false_iff] at hp; omega)))
        refine cx_region ?_
        simp only [go_sem, hcs]
        repeat ((with_reducible first | refine side_d ?_ ?_ | refine side_q ?_ ?_); focus (first | (refine Sd.mk ?_; omega) | (refine Sq.mk ?_; omega) | exact Sd.mk trivial | exact Sq.mk trivial | (refine Sq.mk ?_; and_intros <;> first | omega | trivial | (simp; omega)) | (refine Sd.of fun hp => ?_; simp only [pc, and_true] at hp; (try subst_vars); simp only [decide_eq_true_eq, Bool.not_eq_true', decide_eq_false_iff_not, Bool.and_eq_true, Bool.or_eq_true, Bool.or_eq_false_iff] at hp; omega)))
        intro t21 e21
        (try replace e21 := w64 e21 (by omega) (by omega))
        repeat ((with_reducible first | refine side_d ?_ ?_ | refine side_q ?_ ?_); focus (first | (refine Sd.mk ?_; omega) | (refine Sq.mk ?_; omega) | exact Sd.mk trivial | exact Sq.mk trivial | (refine Sq.mk ?_; and_intros <;> first | omega | trivial | (simp; omega)) | (refine Sd.of fun hp => ?_; simp only [pc, and_true] at hp; (try subst_vars); simp only [decide_eq_true_eq, Bool.not_eq_true', decide_eq_false_iff_not, Bool.and_eq_true, Bool.or_eq_true, Bool.or_eq_false_iff] at hp; omega)))
        obtain ⟨i1, i2, i3, i4, i5⟩ := hI1
        obtain ⟨g1, g2⟩ := del_keep (d := default) i1 (by omega) i3 i4 i5 h29
        refine rnd_next (s.1 + 1, s.2.1 + 1, s.2.2.set s.2.1 (s.2.2.getD s.1 default)) ⟨by dsimp only; omega, by dsimp only; omega, by simpa using i3, g1, g2⟩ (by first | omega | (dsimp only; omega)) ?_
        simp only [go_sem, hcs, wk, wks, wkB, wkH, subw, subEw, hprew, ltb]
        exact ⟨⟨by omega, by omega⟩, fun i hi => wks_stF (by omega) (wks_refl _) i⟩
      ·
        (try simp only [go_sem, hcs] at h29)
        refine cx_skip ?_
        (try simp only [go_sem, hcs])
        refine cx_region ?_
        simp only [go_sem, hcs]
        repeat ((with_reducible first | refine side_d ?_ ?_ | refine side_q ?_ ?_); focus (first | (refine Sd.mk ?_; omega) | (refine Sq.mk ?_; omega) | exact Sd.mk trivial | exact Sq.mk trivial | (refine Sq.mk ?_; and_intros <;> first | omega | trivial | (simp; omega)) | (refine Sd.of fun hp => ?_; simp only [pc, and_true] at hp; (try subst_vars); simp only [decide_eq_true_eq, Bool.not_eq_true', decide_eq_false_iff_not, Bool.and_eq_true, Bool.or_eq_true, Bool.or_eq_false_iff] at hp; omega)))
        intro t21 e21
        (try replace e21 := w64 e21 (by omega) (by omega))
        repeat ((with_reducible first | refine side_d ?_ ?_ | refine side_q ?_ ?_); focus (first | (refine Sd.mk ?_; omega) | (refine Sq.mk ?_; omega) | exact Sd.mk trivial | exact Sq.mk trivial | (refine Sq.mk ?_; and_intros <;> first | omega | trivial | (simp; omega)) | (refine Sd.of fun hp => ?_; simp only [pc, and_true] at hp; (try subst_vars); simp only [decide_eq_true_eq, Bool.not_eq_true', decide_eq_false_iff_not, Bool.and_eq_true, Bool.or_eq_true, Bool.or_eq_false_iff] at hp; omega)))
        obtain ⟨i1, i2, i3, i4, i5⟩ := hI1
        obtain ⟨g1, g2⟩ := del_drop (d := default) (by omega) i4 i5 h29
        refine rnd_next (s.1 + 1, s.2.1, s.2.2) ⟨by dsimp only; omega, by dsimp only; omega, i3, g1, g2⟩ (by first | omega | (dsimp only; omega)) (by (first | trivial | (simp only [go_sem, hcs, wk, wks, wkB, wkH, subw, subEw, hprew, ltb, subr, subEr]; done) | (simp only [go_sem, hcs, wk, wks, wkB, wkH, subw, subEw, hprew, ltb, subr, subEr]; and_intros <;> first | trivial | rfl | omega | assumption | exact Nat.le_refl _ | exact wks_refl _ | exact wk_refl _ | (intros; exact wks_refl _) | (simp; done) | (simp; omega))))
    ·
      (try simp only [go_sem, hcs] at h19)
      refine cx_exit ?_
      simp only [go_sem, hcs]
      refine cx_sr ?_
      simp only [go_sem, hcs]
      repeat ((with_reducible first | refine side_d ?_ ?_ | refine side_q ?_ ?_); focus (first | (refine Sd.mk ?_; omega) | (refine Sq.mk ?_; omega) | exact Sd.mk trivial | exact Sq.mk trivial | (refine Sq.mk ?_; and_intros <;> first | omega | trivial | (simp; omega)) | (refine Sd.of fun hp => ?_; simp only [pc, and_true] at hp; (try subst_vars); simp only [decide_eq_true_eq, Bool.not_eq_true', decide_eq_false_iff_not, Bool.and_eq_true, Bool.or_eq_true, Bool.or_eq_false_iff] at hp; omega)))
      refine cx_sr ?_
      simp only [go_sem, hcs]
      repeat ((with_reducible first | refine side_d ?_ ?_ | refine side_q ?_ ?_); focus (first | (refine Sd.mk ?_; omega) | (refine Sq.mk ?_; omega) | exact Sd.mk trivial | exact Sq.mk trivial | (refine Sq.mk ?_; and_intros <;> first | omega | trivial | (simp; omega)) | (refine Sd.of fun hp => ?_; simp only [pc, and_true] at hp; (try subst_vars); simp only [decide_eq_true_eq, Bool.not_eq_true', decide_eq_false_iff_not, Bool.and_eq_true, Bool.or_eq_true, Bool.or_eq_false_iff] at hp; omega)))
      refine cx_ret ?_
      simp only [go_sem, hcs]
      obtain ⟨i1, i2, i3, i4, i5⟩ := hI1
      have hn : s.1 = l.length := by omega
      rw [hn, List.take_of_length_le (Nat.le_refl _)] at i4
      have hk : (l.filter fun x => !p x).length = s.2.1 := by rw [← i4]; simp; omega
      refine ⟨[0, 1], rfl, rfl, ?_, ?_⟩
      · (first | trivial | (simp only [go_sem, hcs, wk, wks, wkB, wkH, subw, subEw, hprew, ltb, subr, subEr]; done) | (simp only [go_sem, hcs, wk, wks, wkB, wkH, subw, subEw, hprew, ltb, subr, subEr]; and_intros <;> first | trivial | rfl | omega | assumption | exact Nat.le_refl _ | exact wks_refl _ | exact wk_refl _ | (intros; exact wks_refl _) | (simp; done) | (simp; omega)))
      · simp only [go_sem, hcs, wk, wks, wkB, wkH]
        exact ⟨by omega, fun i hi => wks_mp_over (fun _ => rfl) (by omega) (by rw [← i4, getD_take (by omega)])⟩
theorem Delete_Session (l : List Session) (i j : Nat) (hij : i ≤ j) (hj : j ≤ l.length) (hl : l.length * 56 ≤ 140737488355328) :
    Does Try.prog 53 [.own none 0 5 0 l.length .loose, .int .i64 i, .int .i64 j] [.arr 5 l.length (En Session.enc default l)]
      (.own none 0 5 0 (l.take i ++ l.drop j).length .loose) [.arr 5 (l.take i ++ l.drop j).length (En Session.enc default (l.take i ++ l.drop j))] := by
  have hlen : (l.take i ++ l.drop j).length = i + (l.length - j) := by simp; omega
  rw [hlen]
  refine does_cx (fn := Try.f53) Try.func53 rfl fb53 (by kernel_rfl) (Nat.le_of_ble_eq_true rfl) ?_
  refine cx_exact 0 rfl fun C hC => ?_
  refine cx_sr ?_
  simp only [go_sem]
  repeat first | (with_reducible refine side_d ?_ ?_; exact byD) | (with_reducible refine side_q ?_ ?_; exact byQ)
  refine cx_sr ?_
  simp only [go_sem]
  repeat first | (with_reducible refine side_d ?_ ?_; exact byD) | (with_reducible refine side_q ?_ ?_; exact byQ)
  refine cx_seq ?_
  refine cx_sr ?_
  simp only [go_sem]
  repeat first | (with_reducible refine side_d ?_ ?_; exact byD) | (with_reducible refine side_q ?_ ?_; exact byQ)
  intro t16 e16
  repeat first | (with_reducible refine side_d ?_ ?_; exact byD) | (with_reducible refine side_q ?_ ?_; exact byQ)
  subst e16
  refine cx_if _ rfl (fun h16 => ?_) (fun h16 => ?_)
  ·
    (try simp only [go_sem] at h16)
    refine cx_sr ?_
    simp only [go_sem]
    repeat first | (with_reducible refine side_d ?_ ?_; exact byD) | (with_reducible refine side_q ?_ ?_; exact byQ)
    refine cx_ret ?_
    simp only [go_sem]
    have hi : i = j := by omega
    subst hi
    rw [List.take_append_drop]
    have : i + (l.length - i) = l.length := by omega
    rw [this]
    exact ⟨[0], rfl, rfl, byC, byC⟩
  ·
    (try simp only [go_sem] at h16)
    refine cx_skip ?_
    (try simp only [go_sem])
    refine cx_sr ?_
    simp only [go_sem]
    repeat first | (with_reducible refine side_d ?_ ?_; exact byD) | (with_reducible refine side_q ?_ ?_; exact byQ)
    refine cx_seq (cx_draw mixed [6] (.first 0 (.first 1 (.first 2 (.first 3 (.first 4 (.first 5 (.one 6 (.first 7 (.done))))))))) (by kernel_rfl) ?_)
    simp only [go_sem]
    repeat first | (with_reducible refine side_d ?_ ?_; exact byD) | (with_reducible refine side_q ?_ ?_; exact byQ)
    refine ⟨fun hC26 => ?_, fun hC26 => absurd hC26 (by omega)⟩
    repeat first | (with_reducible refine side_d ?_ ?_; exact byD) | (with_reducible refine side_q ?_ ?_; exact byQ)
    refine cx_sr ?_
    simp only [go_sem]
    repeat first | (with_reducible refine side_d ?_ ?_; exact byD) | (with_reducible refine side_q ?_ ?_; exact byQ)
    refine cx_sr ?_
    simp only [go_sem]
    repeat first | (with_reducible refine side_d ?_ ?_; exact byD) | (with_reducible refine side_q ?_ ?_; exact byQ)
    refine cx_ret ?_
    simp only [go_sem]
    refine ⟨[0], rfl, rfl, ?_, ?_⟩
    · exact byC
    · simp only [go_sem, wk, wks, wkB, wkH]
      exact ⟨by omega, fun q hq => wks_mp_del (fun _ => rfl) hij hj hq⟩
end Go.VM.Try
end
section
set_option linter.unusedVariables false
set_option linter.unusedSimpArgs false
open Go Go.VM
namespace Tether
theorem mid_eq {t20 t21 t22 t23 : Int} {a b : Nat} (h : a + b < 9223372036854775808) (e20 : t20 = (a : Int) + (b : Int)) (e21 : t21 = IntKind.u64.wrap t20) (e22 : t22 = t21.fdiv (2 ^ 1)) (e23 : t23 = IntKind.i64.wrap t22) : t23 = (((a + b) / 2 : Nat) : Int) := by
  have h1 : IntKind.u64.wrap t20 = t20 := by
    simp only [IntKind.wrap, IntKind.signed, IntKind.bits]; simp; omega
  have h2 : t22 = (((a + b) / 2 : Nat) : Int) := by
    rw [e22, e21, h1, e20, Int.fdiv_eq_ediv_of_nonneg _ (by decide)]
    simp
  rw [e23, h2]
  exact wrap64 (by omega) (by omega)
section
variable {α : Type} {enc : α → List V} {d : α} {l : List α}
theorem En_ins {i q : Nat} {x : α} (hi : i ≤ l.length) (hq : q < l.length + 1) : En enc d (l.take i ++ x :: l.drop i) q = if q < i then En enc d l q else if q = i then enc x else En enc d l (q - 1) := by
  have hl : (l.take i).length = i := by simp; omega
  simp only [En, List.getD_eq_getElem?_getD]
  by_cases h1 : q < i
  · rw [if_pos h1, List.getElem?_append_left (by omega), List.getElem?_take, if_pos h1]
  · rw [if_neg h1, List.getElem?_append_right (by omega), hl]
    by_cases h2 : q = i
    · rw [if_pos h2, h2]; simp
    · rw [if_neg h2]
      obtain ⟨k, hk⟩ : ∃ k, q - i = k + 1 := ⟨q - i - 1, by omega⟩
      rw [hk, List.getElem?_cons_succ, List.getElem?_drop]
      have : i + k = q - 1 := by omega
      rw [this]
theorem wks_mp_of (h : ∀ x, ltrs 0 (enc x) = true) {g : Nat → Option Nat} {f : Nat → List V} {l' : List α} {q : Nat} (he : f q = En enc d l' q) : wks (mpF (rnVs g) f q) (En enc d l' q) := by
  simp only [mpF, he, En, rnVs_no _ (h _)]; exact wks_refl _
theorem ins_grow {i q k m : Nat} {x : α} {z : List V} {v : Nat → List V} (hv : ∀ j, v j = enc x) (hi : i < l.length) (hq : q < l.length + 1) (hk : k = l.length - i) (hm : m = 1) :
    over (i + 1) k (En enc d (l.drop i)) (over i m v (join i (En enc d l) fun _ => z)) q = En enc d (l.take i ++ x :: l.drop i) q := by
  subst hm
  rw [En_ins (Nat.le_of_lt hi) hq, ← shF_En]
  unfold over
  by_cases h1 : q < i
  · rw [if_neg (by omega), if_neg (by omega), if_pos h1]
    unfold join
    rw [show Nat.blt q i = true by simpa using h1]
    rfl
  · rw [if_neg h1]
    by_cases h2 : q = i
    · rw [if_neg (by omega), if_pos (by omega), if_pos h2, hv]
    · rw [if_pos (by omega), if_neg h2]
      unfold shF
      congr 1
      omega
theorem ins_in {i q k m : Nat} {x : α} {v : Nat → List V} (hv : ∀ j, v j = enc x) (hi : i < l.length) (hq : q < l.length + 1) (hk : k = l.length - i) (hm : m = 1) :
    over i m v (over (i + 1) k (En enc d (l.drop i)) (En enc d l)) q = En enc d (l.take i ++ x :: l.drop i) q := by
  subst hm
  rw [En_ins (Nat.le_of_lt hi) hq, ← shF_En]
  unfold over
  by_cases h1 : q < i
  · rw [if_neg (by omega), if_neg (by omega), if_pos h1]
  · rw [if_neg h1]
    by_cases h2 : q = i
    · rw [if_pos (by omega), if_pos h2, hv]
    · rw [if_neg (by omega), if_pos (by omega), if_neg h2]
      unfold shF
      congr 1
      omega
theorem ins_end {i q : Nat} {x : α} {v : Nat → List V} (hv : ∀ j, v j = enc x) (hi : i = l.length) (hq : q < l.length + 1) :
    over i 1 v (En enc d l) q = En enc d (l.take i ++ x :: l.drop i) q := by
  rw [En_ins (Nat.le_of_eq hi) hq]
  unfold over
  by_cases h1 : q < i
  · rw [if_neg (by omega), if_pos h1]
  · rw [if_neg h1, if_pos (by omega), if_pos (by omega), hv]
theorem ins_end' {i q : Nat} {x : α} {v : Nat → List V} (hv : ∀ j, v j = enc x) (hi : i = l.length) (hq : q < l.length + 1) :
    join i (En enc d l) v q = En enc d (l.take i ++ x :: l.drop i) q := by
  rw [En_ins (Nat.le_of_eq hi) hq]
  unfold join
  by_cases h1 : q < i
  · rw [if_pos h1, show Nat.blt q i = true by simpa using h1]
    rfl
  · rw [if_neg h1, if_pos (by omega)]
    have : Nat.blt q i = false := by
      cases hb : Nat.blt q i with
      | false => rfl
      | true => exact absurd (by simpa using hb) h1
    rw [this]
    exact hv _
end
end Tether
end
section
set_option linter.unusedVariables false
set_option linter.unusedSimpArgs false
open Go Go.VM
namespace Tether
/-! ### Texts in order -/
theorem bytesLess_iff : ∀ (x y : Str), Op.bytesLess x y = true ↔ x < y
  | _, [] => by simp [Op.bytesLess]
  | [], _ :: _ => by simp [Op.bytesLess]
  | a :: x, b :: y => by
    rw [List.cons_lt_cons_iff]
    simp only [Op.bytesLess, Bool.or_eq_true, Bool.and_eq_true, decide_eq_true_eq, beq_iff_eq, bytesLess_iff x y]
theorem blt_iff {a b : Str} : blt a b = true ↔ a < b := bytesLess_iff a b
theorem blt_eq {a b : Str} : blt a b = decide (a < b) := by
  cases h : blt a b with
  | true => simp [blt_iff.1 h]
  | false =>
    have : ¬ a < b := fun h' => by rw [blt_iff.2 h'] at h; cases h
    simp [this]
theorem str_tri (a b : Str) : a < b ∨ a = b ∨ b < a := by
  by_cases h1 : a < b
  · exact .inl h1
  · by_cases h2 : b < a
    · exact .inr (.inr h2)
    · exact .inr (.inl (List.le_antisymm h2 h1))
def strE (s : Str) : List V := [.str s]
abbrev strsV (l : List Str) : V := lstV 1 strE [] l
attribute [go_sem] strE
def numE (n : Int) : List V := [.int .i64 n]
attribute [go_sem] numE
/-- texts compared -/
def cmpS (a b : Str) : Int := if blt a b = true then -1 else if blt b a = true then 1 else 0
theorem cmpS_lt {a b : Str} : cmpS a b < 0 ↔ a < b := by
  unfold cmpS
  by_cases h : a < b
  · simp [blt_iff.2 h, h]
  · rw [if_neg (by rw [blt_iff]; exact h)]
    split <;> simp [h]
theorem cmpS_eq {a b : Str} : cmpS a b = 0 ↔ a = b := by
  unfold cmpS
  by_cases h : a < b
  · have : a ≠ b := fun e => by subst e; exact List.lt_irrefl a h
    simp [blt_iff.2 h, this]
  · rw [if_neg (by rw [blt_iff]; exact h)]
    by_cases h2 : b < a
    · have : a ≠ b := fun e => by subst e; exact List.lt_irrefl a h2
      simp [blt_iff.2 h2, this]
    · rw [if_neg (by rw [blt_iff]; exact h2)]
      rcases str_tri a b with h3 | h3 | h3
      · exact absurd h3 h
      · simp [h3]
      · exact absurd h3 h2
theorem cmpS_gt {a b : Str} : 0 < cmpS a b ↔ b < a := by
  have h1 := @cmpS_lt a b
  have h2 := @cmpS_eq a b
  constructor
  · intro h
    rcases str_tri a b with h3 | h3 | h3
    · have := h1.2 h3; omega
    · have := h2.2 h3; omega
    · exact h3
  · intro h
    have n1 : ¬ cmpS a b < 0 := fun h' => List.lt_irrefl a (List.lt_trans (h1.1 h') h)
    have n2 : ¬ cmpS a b = 0 := fun h' => by have := h2.1 h'; subst this; exact List.lt_irrefl a h
    omega
/-! ### Sets of texts -/
def keysF (ks : List Str) : List (Str × Bool) := ks.foldl (fun m k => aSet m k true) []
def akeys {α : Type} (l : List (Str × α)) : List Str := l.map (·.1)
theorem keq_eq {a b : Str} : keq a b = decide (a = b) := rfl
theorem akeys_aSet {α : Type} (l : List (Str × α)) (k : Str) (v : α) : akeys (aSet l k v) = if k ∈ akeys l then akeys l else akeys l ++ [k] := by
  induction l with
  | nil => simp [aSet, akeys]
  | cons x l ih =>
    unfold aSet
    by_cases h : x.1 = k
    · rw [show keq x.1 k = true by simp [keq_eq, h]]
      simp [akeys, h]
    · rw [show keq x.1 k = false by simp [keq_eq, h]]
      have : akeys (x :: aSet l k v) = x.1 :: akeys (aSet l k v) := rfl
      rw [cond_false, this, ih]
      have hk : ¬ k = x.1 := fun e => h e.symm
      by_cases hm : k ∈ akeys l
      · rw [if_pos hm, if_pos (by simp [akeys] at hm ⊢; exact .inr hm)]; rfl
      · rw [if_neg hm, if_neg (by simp [akeys, hk] at hm ⊢; exact hm)]; rfl
theorem keysF_spec (ks : List Str) : (akeys (keysF ks)).Nodup ∧ ∀ k, k ∈ akeys (keysF ks) ↔ k ∈ ks := by
  have gen : ∀ (ks : List Str) (m : List (Str × Bool)), (akeys m).Nodup → (akeys (ks.foldl (fun m k => aSet m k true) m)).Nodup ∧ ∀ k, k ∈ akeys (ks.foldl (fun m k => aSet m k true) m) ↔ k ∈ akeys m ∨ k ∈ ks := by
    intro ks
    induction ks with
    | nil => intro m hm; exact ⟨hm, by simp⟩
    | cons x ks ih =>
      intro m hm
      have h1 : (akeys (aSet m x true)).Nodup := by
        rw [akeys_aSet]
        split
        · exact hm
        · rename_i hx
          rw [List.nodup_append]
          refine ⟨hm, by simp, ?_⟩
          intro a ha b hb
          simp at hb
          subst hb
          rintro rfl
          exact hx ha
      obtain ⟨g1, g2⟩ := ih _ h1
      refine ⟨g1, fun k => ?_⟩
      rw [List.foldl_cons, g2, akeys_aSet]
      split
      · rename_i hx
        simp only [List.mem_cons]
        constructor
        · rintro (h | h)
          · exact .inl h
          · exact .inr (.inr h)
        · rintro (h | h | h)
          · exact .inl h
          · subst h; exact .inl hx
          · exact .inr h
      · simp only [List.mem_append, List.mem_cons, List.not_mem_nil, or_false, or_assoc]
  obtain ⟨h1, h2⟩ := gen ks [] (by simp [akeys])
  exact ⟨h1, fun k => by rw [show keysF ks = ks.foldl (fun m k => aSet m k true) [] from rfl, h2]; simp [akeys]⟩
theorem keysF_snoc (ks : List Str) (k : Str) : keysF (ks ++ [k]) = aSet (keysF ks) k true := by simp [keysF]
theorem nodup_le {α : Type} [DecidableEq α] : ∀ {A B : List α}, A.Nodup → (∀ a ∈ A, a ∈ B) → A.length ≤ B.length
  | [], _, _, _ => Nat.zero_le _
  | a :: A, B, hA, h => by
    have ha := h a (by simp)
    have hA' := List.nodup_cons.1 hA
    have := nodup_le (A := A) (B := B.erase a) hA'.2 fun x hx => by
      have hne : x ≠ a := fun e => hA'.1 (e ▸ hx)
      exact (List.mem_erase_of_ne hne).2 (h x (by simp [hx]))
    rw [List.length_erase_of_mem ha] at this
    have hpos : 0 < B.length := List.length_pos_of_mem ha
    simp; omega
theorem nodup_eq {α : Type} [DecidableEq α] {A B : List α} (hA : A.Nodup) (hB : B.Nodup) (h : ∀ a ∈ A, a ∈ B) : A.length = B.length ↔ ∀ b ∈ B, b ∈ A := by
  constructor
  · intro he b hb
    apply Classical.byContradiction
    intro hn
    have := nodup_le (A := b :: A) (B := B) (List.nodup_cons.2 ⟨hn, hA⟩) (fun x hx => by rcases List.mem_cons.1 hx with rfl | hx; exact hb; exact h x hx)
    simp at this; omega
  · intro h'
    exact Nat.le_antisymm (nodup_le hA h) (nodup_le hB h')
theorem keysF_len {A B : List Str} (h : ∀ a ∈ A, a ∈ B) : (keysF A).length = (keysF B).length ↔ ∀ b ∈ B, b ∈ A := by
  obtain ⟨a1, a2⟩ := keysF_spec A
  obtain ⟨b1, b2⟩ := keysF_spec B
  have := nodup_eq a1 b1 (fun a ha => (b2 a).2 (h a ((a2 a).1 ha)))
  simp only [akeys, List.length_map] at this
  rw [this]
  constructor
  · intro hh b hb; exact (a2 b).1 (hh b ((b2 b).2 hb))
  · intro hh b hb; exact (a2 b).2 (hh b ((b2 b).1 hb))
theorem keysF_le (A : List Str) : (keysF A).length ≤ A.length := by
  obtain ⟨a1, a2⟩ := keysF_spec A
  have := nodup_le a1 (fun a ha => (a2 a).1 ha)
  simpa [akeys] using this
theorem keysF_lt {A : List Str} : (keysF A).length = A.length ↔ A.Nodup := by
  obtain ⟨a1, a2⟩ := keysF_spec A
  constructor
  · intro h
    have gen : ∀ {A B : List Str}, B.Nodup → (∀ b ∈ B, b ∈ A) → (∀ a ∈ A, a ∈ B) → B.length = A.length → A.Nodup := by
      intro A
      induction A with
      | nil => intros; simp
      | cons a A ih =>
        intro B hB h1 h2 hl
        by_cases ha : a ∈ A
        · exfalso
          have := nodup_le (A := B) (B := A) hB (fun b hb => by rcases List.mem_cons.1 (h1 b hb) with rfl | h; exact ha; exact h)
          simp at hl; omega
        · refine List.nodup_cons.2 ⟨ha, ih (B := B.erase a) (hB.erase a) ?_ ?_ ?_⟩
          · intro b hb
            have hm := (hB.mem_erase_iff).1 hb
            rcases List.mem_cons.1 (h1 b hm.2) with e | h
            · exact absurd e hm.1
            · exact h
          · intro x hx
            have hne : x ≠ a := fun e => ha (e ▸ hx)
            exact (hB.mem_erase_iff).2 ⟨hne, h2 x (by simp [hx])⟩
          · rw [List.length_erase_of_mem (h2 a (by simp))]; simp at hl; omega
    exact gen a1 (fun b hb => (a2 b).1 hb) (fun a ha => (a2 a).2 ha) (by simpa [akeys] using h)
  · intro h
    exact Nat.le_antisymm (keysF_le A) (by
      have := nodup_le h (fun a ha => (a2 a).2 ha)
      simpa [akeys] using this)
end Tether
end
section
set_option linter.unusedVariables false
set_option linter.unusedSimpArgs false
open Go Go.VM
namespace Tether
def Uploads.ok (u : Uploads) : Prop := u.ss.length * 56 ≤ 140737488355328 ∧ ∀ s ∈ u.ss, s.who.length < 4611686018427387904 ∧ s.text.length < 4611686018427387904
theorem Uploads.ok.len {u : Uploads} (h : u.ok) : u.ss.length < 4611686018427387904 := by have := h.1; omega
/-- uploads whose sessions lie in the first block -/
abbrev Uploads.own (u : Uploads) : V := .agg [.own none 0 5 0 u.ss.length .loose, .int .i64 u.next, .int .i64 u.lasts, .int .i64 u.room]
abbrev Uploads.blk (u : Uploads) : Heap := [.arr 5 u.ss.length (En Session.enc default u.ss)]
/-- no uploads -/
abbrev noU : V := .agg [.nil, .int .i64 0, .int .i64 0, .int .i64 0]
def swept (u : Uploads) (now : Int) : Uploads := { u with ss := u.ss.filter fun s => !decide (s.till < now) }
theorem swept_next {u : Uploads} {now : Int} : (swept u now).next = u.next := rfl
theorem swept_lasts {u : Uploads} {now : Int} : (swept u now).lasts = u.lasts := rfl
theorem swept_room {u : Uploads} {now : Int} : (swept u now).room = u.room := rfl
attribute [go_sem] swept_next swept_lasts swept_room
def beginErr (u : Uploads) (now : Int) : Int := if ¬ checkU u = 0 then checkU u else if within now 0 1099511627776 = false then 3 else 0
def isMine (who : Str) (number : Int) (s : Session) : Bool := decide (s.num = number) && decide (s.who = who)
/-- the place of somebody's session -/
def mineIx (u : Uploads) (who : Str) (number now : Int) : Int := idxF (isMine who number) (swept u now).ss
def mineErr (u : Uploads) (who : Str) (number now : Int) : Int :=
  if ¬ beginErr u now = 0 then beginErr u now else if isName who = false then 1 else if mineIx u who number now < 0 then 5 else 0
def zeroU : Uploads := ⟨[], 0, 0, 0⟩
def openErr (u : Uploads) (who : Str) (size now : Int) : Int :=
  if ¬ beginErr u now = 0 then beginErr u now else if isName who = false then 1
  else if within size 0 300 = false ∨ u.next = 1099511627776 then 3
  else if ((swept u now).ss.length : Int) = 20 then 2
  else if u.room < wrap (openW (swept u now).ss who + size) then 10 else 0
def openU (u : Uploads) (who : Str) (size now : Int) : Uploads × Int × Int :=
  if openErr u who size now = 0 then ({ swept u now with ss := (swept u now).ss ++ [⟨u.next, who, [], size, now + u.lasts⟩], next := u.next + 1 }, u.next, 0)
  else (zeroU, 0, openErr u who size now)
theorem within_iff {n a b : Int} : within n a b = true ↔ a ≤ n ∧ n ≤ b := by simp [within]
theorem checkU_ok {u : Uploads} (h : checkU u = 0) : (1 ≤ u.lasts ∧ u.lasts ≤ 1000000) ∧ (0 ≤ u.room ∧ u.room ≤ 100000) ∧ (1 ≤ u.next ∧ u.next ≤ 1099511627776) ∧ u.ss.length ≤ 20 ∧ ∀ s ∈ u.ss, sessErr u s = 0 := by
  unfold checkU at h
  split at h
  · simp at h
  rename_i h1
  split at h
  · simp at h
  rename_i h2
  split at h
  · rename_i h3; exact absurd h h3
  rename_i h3
  simp only [Bool.or_eq_true, Bool.not_eq_true', not_or, Bool.not_eq_false, within_iff] at h1
  refine ⟨h1.1.1, h1.1.2, h1.2, by omega, fun s hs => ?_⟩
  have h3 : firstErr (sessErr u) u.ss = 0 := by simpa using h3
  clear h h1 h2
  generalize u.ss = l at h3 hs
  induction l with
  | nil => cases hs
  | cons x l ih =>
    unfold firstErr at h3
    split at h3
    · rename_i h4; exact absurd h3 h4
    · rename_i h4
      rcases List.mem_cons.1 hs with rfl | hs
      · simpa using h4
      · exact ih h3 hs
theorem begin_facts {u : Uploads} {now : Int} (h : beginErr u now = 0) : checkU u = 0 ∧ 0 ≤ now ∧ now ≤ 1099511627776 := by
  unfold beginErr at h
  split at h
  · rename_i h1; exact absurd h h1
  · rename_i h1
    split at h
    · simp at h
    · rename_i h2
      have h2 : within now 0 1099511627776 = true := by simpa using h2
      rw [within_iff] at h2
      exact ⟨by simpa using h1, h2⟩
def queryU (u : Uploads) (who : Str) (number now : Int) : Int × Int :=
  if mineErr u who number now = 0 then ((((swept u now).ss.getD (mineIx u who number now).toNat default).text.length : Int), 0) else (0, mineErr u who number now)
theorem openU_len {u : Uploads} (hu : u.ok) (who : Str) (size now : Int) : (openU u who size now).1.ss.length < 4611686018427387904 := by
  unfold openU
  split
  · have := hu.1
    have h2 : (swept u now).ss.length ≤ u.ss.length := List.length_filter_le _ _
    simp; omega
  · simp [zeroU]
/-- behind an append of a text to a session -/
def appendU (u : Uploads) (who : Str) (number offset : Int) (text : Str) (now : Int) : Uploads × Int × Int :=
  if mineErr u who number now = 0 then
    let i := (mineIx u who number now).toNat
    let s := (swept u now).ss.getD i default
    if (0 ≤ offset ∧ offset ≤ (s.text.length : Int)) ∧ s.text.drop offset.toNat = text then (swept u now, (s.text.length : Int), 0)
    else if ¬ offset = (s.text.length : Int) then (zeroU, 0, 4)
    else if s.size < (s.text.length : Int) + (text.length : Int) then (zeroU, 0, 2)
    else ({ swept u now with ss := (swept u now).ss.set i { s with text := s.text ++ text, till := now + u.lasts } }, ((s.text ++ text).length : Int), 0)
  else (zeroU, 0, mineErr u who number now)
/-- behind a session's end -/
def finishU (u : Uploads) (who : Str) (number now : Int) : Uploads × Str × Int :=
  if mineErr u who number now = 0 then
    let i := (mineIx u who number now).toNat
    let s := (swept u now).ss.getD i default
    if (s.text.length : Int) < s.size then (zeroU, [], 4)
    else ({ swept u now with ss := (swept u now).ss.take i ++ (swept u now).ss.drop (i + 1) }, s.text, 0)
  else (zeroU, [], mineErr u who number now)
theorem mineErr_b {u : Uploads} {who : Str} {number now : Int} (h : ¬ beginErr u now = 0) : mineErr u who number now = beginErr u now := by rw [mineErr, if_pos h]
theorem mineErr_n {u : Uploads} {who : Str} {number now : Int} (h : beginErr u now = 0) (h1 : isName who = false) : mineErr u who number now = 1 := by rw [mineErr, if_neg (by simp [h]), if_pos h1]
theorem mineErr_i {u : Uploads} {who : Str} {number now : Int} (h : beginErr u now = 0) (h1 : ¬ isName who = false) (h2 : mineIx u who number now < 0) : mineErr u who number now = 5 := by rw [mineErr, if_neg (by simp [h]), if_neg h1, if_pos h2]
theorem mineErr_0 {u : Uploads} {who : Str} {number now : Int} (h : beginErr u now = 0) (h1 : ¬ isName who = false) (h2 : ¬ mineIx u who number now < 0) : mineErr u who number now = 0 := by rw [mineErr, if_neg (by simp [h]), if_neg h1, if_neg h2]
theorem mineErr_facts {u : Uploads} {who : Str} {number now : Int} (h : mineErr u who number now = 0) : beginErr u now = 0 ∧ isName who = true ∧ 0 ≤ mineIx u who number now := by
  unfold mineErr at h
  split at h
  · rename_i h1; exact absurd h h1
  rename_i h1
  split at h
  · simp at h
  rename_i h2
  split at h
  · simp at h
  rename_i h3
  exact ⟨by simpa using h1, by simpa using h2, by omega⟩
theorem mineIx_of {u : Uploads} {who : Str} {number now : Int} (h : mineErr u who number now = 0) : 0 ≤ mineIx u who number now ∧ mineIx u who number now < ((swept u now).ss.length : Int) := by
  have h1 := (mineErr_facts h).2.2
  refine ⟨h1, ?_⟩
  unfold mineIx at h1 ⊢
  obtain ⟨i, h2, h3, _⟩ := idxF_spec (p := isMine who number) (l := (swept u now).ss) default (by omega)
  omega
theorem mine_mem {u : Uploads} {who : Str} {number now : Int} (h : mineErr u who number now = 0) : (swept u now).ss.getD (mineIx u who number now).toNat default ∈ u.ss := by
  obtain ⟨h1, h2⟩ := mineIx_of h
  exact (List.mem_filter.1 (getD_mem (l := (swept u now).ss) (d := default) (by omega))).1
def swI (u : Uploads) (now : Int) (i : Nat) : List Session := (u.ss.take i).filter fun s => !decide (s.till < now)
theorem swI_len (u : Uploads) (now : Int) (i : Nat) : (swI u now i).length ≤ i :=
  Nat.le_trans (List.length_filter_le _ _) (by simp; omega)
theorem swI_T {u : Uploads} {now : Int} {i : Nat} (hi : i < u.ss.length) (h : now ≤ (u.ss.getD i default).till) : swI u now (i + 1) = swI u now i ++ [u.ss.getD i default] := by
  have e : u.ss[i] = u.ss.getD i default := by simp [List.getD, hi]
  unfold swI
  rw [List.take_succ_eq_append_getElem hi, List.filter_append, e]
  generalize u.ss.getD i default = x at h ⊢
  have : ¬ x.till < now := by omega
  simp [this]
theorem swI_F {u : Uploads} {now : Int} {i : Nat} (hi : i < u.ss.length) (h : ¬ now ≤ (u.ss.getD i default).till) : swI u now (i + 1) = swI u now i := by
  have e : u.ss[i] = u.ss.getD i default := by simp [List.getD, hi]
  unfold swI
  rw [List.take_succ_eq_append_getElem hi, List.filter_append, e]
  generalize u.ss.getD i default = x at h ⊢
  have : x.till < now := by omega
  simp [this]
theorem swI_all {u : Uploads} {now : Int} {i : Nat} (hi : u.ss.length ≤ i) : swI u now i = (swept u now).ss := by
  unfold swI swept
  rw [List.take_of_length_le hi]
theorem swept_len {u : Uploads} (hu : u.ok) (now : Int) : (swept u now).ss.length < 4611686018427387904 := by
  have := hu.len
  have : (swept u now).ss.length ≤ u.ss.length := List.length_filter_le _ _
  omega
end Tether
end
section
set_option linter.unusedVariables false
set_option linter.unusedSimpArgs false
open Go Go.VM
namespace Tether
/-! ### Grants -/
structure Grant where
  folder : Str
  who : Str
  right : Int
  deriving Inhabited, DecidableEq
def Grant.enc (g : Grant) : List V := [.str g.folder, .str g.who, .int .i64 g.right]
abbrev gsV (l : List Grant) : V := lstV 3 Grant.enc default l
attribute [go_sem] Grant.enc
def order (a b : Grant) : Int := if ¬ cmpS a.folder b.folder = 0 then cmpS a.folder b.folder else cmpS a.who b.who
/-- one grant stands ahead of another one -/
def ahead (a b : Grant) : Prop := a.folder < b.folder ∨ a.folder = b.folder ∧ a.who < b.who
def sameG (a b : Grant) : Prop := a.folder = b.folder ∧ a.who = b.who
theorem order_lt {a b : Grant} : order a b < 0 ↔ ahead a b := by
  unfold order ahead
  by_cases h : a.folder = b.folder
  · rw [if_neg (by simp [cmpS_eq.2 h]), cmpS_lt]
    simp [h, List.lt_irrefl]
  · rw [if_pos (by rw [cmpS_eq]; exact h), cmpS_lt]
    simp [h]
theorem order_eq {a b : Grant} : order a b = 0 ↔ sameG a b := by
  unfold order sameG
  by_cases h : a.folder = b.folder
  · rw [if_neg (by simp [cmpS_eq.2 h]), cmpS_eq]
    simp [h]
  · rw [if_pos (by rw [cmpS_eq]; exact h), cmpS_eq]
    simp [h]
theorem ahead_trans {a b c : Grant} (h : ahead a b) (k : ahead b c) : ahead a c := by
  unfold ahead at *
  rcases h with h | ⟨h1, h2⟩ <;> rcases k with k | ⟨k1, k2⟩
  · exact .inl (List.lt_trans h k)
  · exact .inl (k1 ▸ h)
  · exact .inl (h1 ▸ k)
  · exact .inr ⟨h1.trans k1, List.lt_trans h2 k2⟩
theorem ahead_irrefl (a : Grant) : ¬ ahead a a := by
  rintro (h | ⟨_, h⟩) <;> exact List.lt_irrefl _ h
theorem ahead_tri (a b : Grant) : ahead a b ∨ sameG a b ∨ ahead b a := by
  unfold ahead sameG
  rcases str_tri a.folder b.folder with h | h | h
  · exact .inl (.inl h)
  · rcases str_tri a.who b.who with k | k | k
    · exact .inl (.inr ⟨h, k⟩)
    · exact .inr (.inl ⟨h, k⟩)
    · exact .inr (.inr (.inr ⟨h.symm, k⟩))
  · exact .inr (.inr (.inl h))
theorem ahead_same {a b c : Grant} (h : ahead a b) (k : sameG b c) : ahead a c := by
  unfold ahead sameG at *
  rw [← k.1, ← k.2]; exact h
/-! what is wrong with grants -/
def gErr (g : Grant) : Int := if (isName g.folder && isName g.who) = false then 1 else if g.right < 1 ∨ 3 < g.right then 3 else 0
def risesG (l : List Grant) (i : Nat) : Bool := decide (order (l.getD (i - 1) default) (l.getD i default) < 0)
def ownedG (l : List Grant) : Bool := l.all fun g => l.any fun h => decide (h.folder = g.folder) && decide (h.right = 3)
def checkG (l : List Grant) : Int :=
  if 60 < (l.length : Int) then 2
  else if ¬ firstErr gErr l = 0 then firstErr gErr l
  else if ((List.range l.length).all fun i => i = 0 || risesG l i) = false then 4
  else if ownedG l = false then 5 else 0
def okG (l : List Grant) : Prop := l.length * 40 ≤ 140737488355328 ∧ ∀ g ∈ l, g.folder.length < 4611686018427387904 ∧ g.who.length < 4611686018427387904
theorem okG.len {l : List Grant} (h : okG l) : l.length < 4611686018427387904 := by have := h.1; omega
theorem owned_keys {l : List Grant} : decide ((keysF ((l.filter fun g => decide (g.right = 3)).map (·.folder))).length = (keysF (l.map (·.folder))).length) = ownedG l := by
  have := keysF_len (A := (l.filter fun g => decide (g.right = 3)).map (·.folder)) (B := l.map (·.folder)) (fun a ha => by
    obtain ⟨g, hg, rfl⟩ := List.mem_map.1 ha
    exact List.mem_map.2 ⟨g, (List.mem_filter.1 hg).1, rfl⟩)
  have key : ownedG l = true ↔ ∀ b ∈ l.map (·.folder), b ∈ (l.filter fun g => decide (g.right = 3)).map (·.folder) := by
    unfold ownedG
    simp only [List.all_eq_true, List.any_eq_true, Bool.and_eq_true, decide_eq_true_eq, List.mem_map, List.mem_filter]
    constructor
    · rintro h b ⟨g, hg, rfl⟩
      obtain ⟨x, h1, h2, h3⟩ := h g hg
      exact ⟨x, ⟨h1, h3⟩, h2⟩
    · intro h g hg
      obtain ⟨x, ⟨h1, h3⟩, h2⟩ := h g.folder ⟨g, hg, rfl⟩
      exact ⟨x, h1, h2, h3⟩
  cases ho : ownedG l with
  | true => simpa using this.2 (key.1 ho)
  | false =>
    have : ¬ (keysF ((l.filter fun g => decide (g.right = 3)).map (·.folder))).length = (keysF (l.map (·.folder))).length := fun h => by
      have := key.2 (this.1 h); rw [this] at ho; cases ho
    simpa using this
/-! grants in order -/
def SortedG (l : List Grant) : Prop := l.Pairwise ahead
theorem sorted_of_rises {l : List Grant} (h : ((List.range l.length).all fun i => i = 0 || risesG l i) = true) : SortedG l := by
  have hr : ∀ i, i + 1 < l.length → ahead (l.getD i default) (l.getD (i + 1) default) := by
    intro i hi
    rw [List.all_eq_true] at h
    have := h (i + 1) (by simpa using hi)
    simp [risesG] at this
    exact order_lt.1 (by simpa [List.getD] using this)
  unfold SortedG
  clear h
  induction l with
  | nil => exact List.Pairwise.nil
  | cons x l ih =>
    have ih := ih fun i hi => by simpa using hr (i + 1) (by simpa using hi)
    refine List.pairwise_cons.2 ⟨fun y hy => ?_, ih⟩
    cases l with
    | nil => cases hy
    | cons z l =>
      have h0 : ahead x z := by simpa using hr 0 (by simp)
      rcases List.mem_cons.1 hy with rfl | hy
      · exact h0
      · exact ahead_trans h0 ((List.pairwise_cons.1 ih).1 y hy)
theorem rises_of_sorted {l : List Grant} (h : SortedG l) : ((List.range l.length).all fun i => i = 0 || risesG l i) = true := by
  rw [List.all_eq_true]
  intro i hi
  cases i with
  | zero => simp
  | succ i =>
    have hi : i + 1 < l.length := by simpa using hi
    simp [risesG]
    refine order_lt.2 ?_
    have := List.pairwise_iff_getElem.1 h i (i + 1) (by omega) hi (by omega)
    simpa [List.getD, hi, show i < l.length by omega] using this
theorem firstErr_zero {α : Type} {f : α → Int} {l : List α} : firstErr f l = 0 ↔ ∀ x ∈ l, f x = 0 := by
  induction l with
  | nil => simp [firstErr]
  | cons x l ih =>
    unfold firstErr
    by_cases h : f x = 0
    · simp [h, ih]
    · simp [h]
structure GoodG (l : List Grant) : Prop where
  len : l.length ≤ 60
  each : ∀ g ∈ l, gErr g = 0
  rise : SortedG l
  own : ownedG l = true
theorem checkG_iff {l : List Grant} : checkG l = 0 ↔ GoodG l := by
  unfold checkG
  constructor
  · intro h
    split at h
    · simp at h
    rename_i h1
    split at h
    · rename_i h2; exact absurd h h2
    rename_i h2
    split at h
    · simp at h
    rename_i h3
    split at h
    · simp at h
    rename_i h4
    exact ⟨by omega, firstErr_zero.1 (by simpa using h2), sorted_of_rises ((Bool.not_eq_false _).mp h3), by simpa using h4⟩
  · intro h
    rw [if_neg (by have := h.len; omega), if_neg (by simpa using firstErr_zero.2 h.each), if_neg (by simp only [rises_of_sorted h.rise]; simp), if_neg (by simp [h.own])]
/-- the first place that is not ahead -/
def gIx (l : List Grant) (f w : Str) : Nat := l.findIdx fun g => decide (0 ≤ order g ⟨f, w, 0⟩)
def isG (f w : Str) (g : Grant) : Bool := decide (g.folder = f) && decide (g.who = w)
def rightG (l : List Grant) (f w : Str) : Int := match l.find? (isG f w) with | some g => g.right | none => 0
theorem gIx_le (l : List Grant) (f w : Str) : gIx l f w ≤ l.length := List.findIdx_le_length
theorem gIx_lt {l : List Grant} {f w : Str} {j : Nat} (h : j < gIx l f w) : order (l.getD j default) ⟨f, w, 0⟩ < 0 := by
  have hj : j < l.length := Nat.lt_of_lt_of_le h (gIx_le l f w)
  have := List.not_of_lt_findIdx h
  simp only [decide_eq_true_eq, Bool.not_eq_true, decide_eq_false_iff_not] at this
  rw [List.getD_eq_getElem?_getD, List.getElem?_eq_getElem hj]
  simpa using this
theorem gIx_ge {l : List Grant} (hs : SortedG l) {f w : Str} {j : Nat} (h : gIx l f w ≤ j) (hj : j < l.length) : 0 ≤ order (l.getD j default) ⟨f, w, 0⟩ := by
  have hk : gIx l f w < l.length := Nat.lt_of_le_of_lt h hj
  have h1 : 0 ≤ order (l[gIx l f w]) ⟨f, w, 0⟩ := of_decide_eq_true (List.findIdx_getElem (p := fun g => decide (0 ≤ order g ⟨f, w, 0⟩)) (w := hk))
  rw [List.getD_eq_getElem?_getD, List.getElem?_eq_getElem hj]
  simp only [Option.getD_some]
  rcases Nat.eq_or_lt_of_le h with e | hlt
  · subst e; exact h1
  · have h2 : ahead l[gIx l f w] l[j] := List.pairwise_iff_getElem.1 hs _ _ hk hj hlt
    have h3 : ¬ ahead l[gIx l f w] ⟨f, w, 0⟩ := fun h => by have := order_lt.2 h; omega
    have h4 : ¬ order l[j] ⟨f, w, 0⟩ < 0 := fun h => h3 (ahead_trans h2 (order_lt.1 h))
    omega
theorem isG_iff {f w : Str} {g : Grant} : isG f w g = true ↔ order g ⟨f, w, 0⟩ = 0 := by
  rw [order_eq]; simp [isG, sameG]
/-- in grants in order somebody's grant stands at just one place -/
theorem rightG_eq {l : List Grant} (hs : SortedG l) (f w : Str) : rightG l f w = if gIx l f w < l.length ∧ order (l.getD (gIx l f w) default) ⟨f, w, 0⟩ = 0 then (l.getD (gIx l f w) default).right else 0 := by
  unfold rightG
  by_cases h : gIx l f w < l.length ∧ order (l.getD (gIx l f w) default) ⟨f, w, 0⟩ = 0
  · rw [if_pos h]
    obtain ⟨h1, h2⟩ := h
    have hg : l.find? (isG f w) = some (l.getD (gIx l f w) default) := by
      rw [List.find?_eq_some_iff_getElem]
      refine ⟨isG_iff.2 h2, gIx l f w, h1, by simp [List.getD, h1], fun j hj => ?_⟩
      have := gIx_lt hj
      simp only [Bool.not_eq_true', ← Bool.not_eq_true, isG_iff]
      have hjl : j < l.length := by omega
      rw [List.getD_eq_getElem?_getD, List.getElem?_eq_getElem hjl] at this
      simp at this
      omega
    rw [hg]
  · rw [if_neg h]
    have hg : l.find? (isG f w) = none := by
      rw [List.find?_eq_none]
      intro x hx
      rw [isG_iff]
      intro h0
      obtain ⟨j, hj, rfl⟩ := List.getElem_of_mem hx
      have e : l.getD j default = l[j] := by simp [List.getD, hj]
      rcases Nat.lt_or_ge j (gIx l f w) with h1 | h1
      · have := gIx_lt h1; rw [e] at this; omega
      · apply h
        have hk : gIx l f w < l.length := by omega
        refine ⟨hk, ?_⟩
        rcases Nat.eq_or_lt_of_le h1 with h2 | h2
        · rw [h2, e]; exact h0
        · have h3 : ahead l[gIx l f w] l[j] := List.pairwise_iff_getElem.1 hs _ _ hk hj h2
          have h4 := order_lt.2 (ahead_same h3 (order_eq.1 h0))
          have h5 := gIx_ge hs (Nat.le_refl _) hk (f := f) (w := w)
          have e2 : l.getD (gIx l f w) default = l[gIx l f w] := by simp [List.getD, hk]
          rw [e2] at h5
          omega
    rw [hg]
/-- is somebody's grant there? -/
def hasG (l : List Grant) (f w : Str) : Bool := decide (gIx l f w < l.length) && decide (order (l.getD (gIx l f w) default) ⟨f, w, 0⟩ = 0)
/-- grants with a right, or none -/
def putG (l : List Grant) (f w : Str) (r : Int) : List Grant :=
  l.take (gIx l f w) ++ (if r = 0 then [] else [⟨f, w, r⟩]) ++ l.drop (if hasG l f w = true then gIx l f w + 1 else gIx l f w)
def giveErr (l : List Grant) (f by_ w : Str) (r : Int) : Int :=
  if (isName f && isName by_ && isName w) = false then 1
  else if r < 0 ∨ 3 < r then 3
  else if ¬ rightG l f by_ = 3 ∧ ¬ (by_ = w ∧ r = 0) then 9
  else if r = 0 ∧ rightG l f w = 0 then 5
  else if ((putG l f w r).any fun g => decide (g.folder = f) && decide (g.right = 3)) = false then 4
  else if 60 < ((putG l f w r).length : Int) then 2 else 0
def makeErr (l : List Grant) (f w : Str) : Int :=
  if (isName f && isName w) = false then 1
  else if (l.any fun g => decide (g.folder = f)) = true then 6
  else if (l.length : Int) = 60 then 2 else 0
def whoG (l : List Grant) (f : Str) : List Str := (l.filter fun g => decide (g.folder = f)).map (·.who)
end Tether
end
section
set_option linter.unusedVariables false
set_option linter.unusedSimpArgs false
open Go Go.VM Go.Proofs Tether
namespace Go.VM.Try
set_option maxRecDepth 100000
theorem IndexFunc_Grant (f : Nat) (caps : List V) (hc : ltrs 0 caps = true) (p : Grant → Bool) (l : List Grant) (hp : ∀ x ∈ l, Meets Try.prog f (.agg (Grant.enc x) :: caps) (.bool (p x)) []) (hl : l.length < 4611686018427387904) :
    Meets Try.prog 78 [lstV 3 Grant.enc default l, .fn f [] caps] (.int .i64 (idxF p l)) [] := by
  refine meets_x (fn := Try.f78) Try.func78 rfl fb78 (by kernel_rfl) (Nat.le_of_ble_eq_true rfl) ?_
  refine cx_sr ?_
  simp only [go_sem]
  repeat first | (with_reducible refine side_d ?_ ?_; exact byD) | (with_reducible refine side_q ?_ ?_; exact byQ)
  refine cx_seq ?_
  refine cx_sr ?_
  simp only [go_sem]
  repeat first | (with_reducible refine side_d ?_ ?_; exact byD) | (with_reducible refine side_q ?_ ?_; exact byQ)
  refine cx_block ?_
  refine cx_loop0 (σ := Nat) (fun i => i ≤ l.length ∧ ∀ j, j < i → p (l.getD j default) = false) (fun i => [⟨8, 0, [], .int .i64 (i : Nat)⟩]) [0, 1, 7] (fun i => l.length - i) 0 ⟨Nat.zero_le _, fun j hj => absurd hj (Nat.not_lt_zero j)⟩ (Nat.zero_le _) byC (fun i hI1 => ?_)
  simp only [go_sem]
  refine cx_sr ?_
  simp only [go_sem]
  repeat first | (with_reducible refine side_d ?_ ?_; exact byD) | (with_reducible refine side_q ?_ ?_; exact byQ)
  intro t9 e9
  repeat first | (with_reducible refine side_d ?_ ?_; exact byD) | (with_reducible refine side_q ?_ ?_; exact byQ)
  subst e9
  refine cx_seq ?_
  refine cx_if _ rfl (fun h9 => ?_) (fun h9 => ?_)
  ·
    (try simp only [go_sem] at h9)
    refine cx_skip ?_
    (try simp only [go_sem])
    refine cx_seq (cx_block ?_)
    refine cx_sr ?_
    simp only [go_sem]
    repeat first | (with_reducible refine side_d ?_ ?_; exact byD) | (with_reducible refine side_q ?_ ?_; exact byQ)
    refine cx_sr ?_
    simp only [go_sem]
    repeat first | (with_reducible refine side_d ?_ ?_; exact byD) | (with_reducible refine side_q ?_ ?_; exact byQ)
    refine cw_m (hp (l.getD i default) (getD_mem (by omega))) byW byT ?_
    simp only [go_sem]
    repeat first | (with_reducible refine side_d ?_ ?_; exact byD) | (with_reducible refine side_q ?_ ?_; exact byQ)
    refine cx_if _ rfl (fun h16 => ?_) (fun h16 => ?_)
    ·
      (try simp only [go_sem] at h16)
      refine cx_sr ?_
      simp only [go_sem]
      repeat first | (with_reducible refine side_d ?_ ?_; exact byD) | (with_reducible refine side_q ?_ ?_; exact byQ)
      refine cx_ret ?_
      simp only [go_sem]
      refine finw_int ?_
      rw [idxF_at (by omega) hI1.2 h16]
    ·
      (try simp only [go_sem] at h16)
      refine cx_skip ?_
      (try simp only [go_sem])
      refine cx_region ?_
      simp only [go_sem]
      repeat first | (with_reducible refine side_d ?_ ?_; exact byD) | (with_reducible refine side_q ?_ ?_; exact byQ)
      intro t18 e18
      (try replace e18 := w64 e18 (by omega) (by omega))
      repeat first | (with_reducible refine side_d ?_ ?_; exact byD) | (with_reducible refine side_q ?_ ?_; exact byQ)
      refine rnd_next (i + 1) ⟨by omega, all_next hI1.2 h16⟩ (by first | omega | (dsimp only; omega)) byC
  ·
    (try simp only [go_sem] at h9)
    refine cx_exit ?_
    simp only [go_sem]
    refine cx_sr ?_
    simp only [go_sem]
    repeat first | (with_reducible refine side_d ?_ ?_; exact byD) | (with_reducible refine side_q ?_ ?_; exact byQ)
    refine cx_ret ?_
    simp only [go_sem]
    refine finw_int ?_
    rw [idxF_none fun j hj => hI1.2 j (by omega)]
theorem ContainsFunc_Grant (f : Nat) (caps : List V) (hc : ltrs 0 caps = true) (p : Grant → Bool) (l : List Grant) (hp : ∀ x ∈ l, Meets Try.prog f (.agg (Grant.enc x) :: caps) (.bool (p x)) []) (hl : l.length < 4611686018427387904) :
    Meets Try.prog 60 [lstV 3 Grant.enc default l, .fn f [] caps] (.bool (l.any p)) [] := by
  refine meets_x (fn := Try.f60) Try.func60 rfl fb60 (by kernel_rfl) (Nat.le_of_ble_eq_true rfl) ?_
  refine cx_sr ?_
  simp only [go_sem]
  repeat first | (with_reducible refine side_d ?_ ?_; exact byD) | (with_reducible refine side_q ?_ ?_; exact byQ)
  refine cx_sr ?_
  simp only [go_sem]
  repeat first | (with_reducible refine side_d ?_ ?_; exact byD) | (with_reducible refine side_q ?_ ?_; exact byQ)
  refine cw_m (IndexFunc_Grant f caps hc p l hp hl) byW byT ?_
  simp only [go_sem]
  repeat first | (with_reducible refine side_d ?_ ?_; exact byD) | (with_reducible refine side_q ?_ ?_; exact byQ)
  intro t8 e8
  repeat first | (with_reducible refine side_d ?_ ?_; exact byD) | (with_reducible refine side_q ?_ ?_; exact byQ)
  subst e8
  refine cx_ret ?_
  simp only [go_sem]
  refine finw_bool ?_
  rw [← idxF_any]
theorem Clone_Grant (l : List Grant) (hl : l.length * 40 ≤ 140737488355328) : Meets Try.prog 75 [lstV 3 Grant.enc default l] (.own none 0 3 0 l.length .loose) [.arr 3 l.length (En Grant.enc default l)] := by
  refine meets_x (fn := Try.f75) Try.func75 rfl fb75 (by kernel_rfl) (Nat.le_of_ble_eq_true rfl) ?_
  refine cx_nil 0 rfl fun b hb => ?_
  refine cx_sr ?_
  simp only [go_sem]
  repeat first | (with_reducible refine side_d ?_ ?_; exact byD) | (with_reducible refine side_q ?_ ?_; exact byQ)
  refine cx_seq ?_
  refine cx_sr ?_
  simp only [go_sem]
  repeat first | (with_reducible refine side_d ?_ ?_; exact byD) | (with_reducible refine side_q ?_ ?_; exact byQ)
  intro t4 e4
  repeat first | (with_reducible refine side_d ?_ ?_; exact byD) | (with_reducible refine side_q ?_ ?_; exact byQ)
  subst e4
  refine cx_if _ rfl (fun h4 => ?_) (fun h4 => ?_)
  ·
    (try simp only [go_sem] at h4)
    have hb := hb h4
    refine cx_sr ?_
    simp only [go_sem]
    repeat first | (with_reducible refine side_d ?_ ?_; exact byD) | (with_reducible refine side_q ?_ ?_; exact byQ)
    refine cx_virt 2 3 (En Grant.enc default l) rfl ?_
    simp only [go_sem]
    refine cx_ret ?_
    simp only [go_sem]
    exact finx_of 1 [0] rfl byC byC byC byC
  ·
    (try simp only [go_sem] at h4)
    refine cx_skip ?_
    (try simp only [go_sem])
    refine cx_sr ?_
    simp only [go_sem]
    repeat first | (with_reducible refine side_d ?_ ?_; exact byD) | (with_reducible refine side_q ?_ ?_; exact byQ)
    refine cx_ret ?_
    simp only [go_sem]
    exact finx_of 1 [1] rfl byC byC byC byC
theorem Delete_Grant (l : List Grant) (i j : Nat) (hij : i ≤ j) (hj : j ≤ l.length) (hl : l.length * 40 ≤ 140737488355328) :
    Does Try.prog 76 [.own none 0 3 0 l.length .loose, .int .i64 i, .int .i64 j] [.arr 3 l.length (En Grant.enc default l)]
      (.own none 0 3 0 (l.take i ++ l.drop j).length .loose) [.arr 3 (l.take i ++ l.drop j).length (En Grant.enc default (l.take i ++ l.drop j))] := by
  have hlen : (l.take i ++ l.drop j).length = i + (l.length - j) := by simp; omega
  rw [hlen]
  refine does_cx (fn := Try.f76) Try.func76 rfl fb76 (by kernel_rfl) (Nat.le_of_ble_eq_true rfl) ?_
  refine cx_exact 0 rfl fun C hC => ?_
  refine cx_sr ?_
  simp only [go_sem]
  repeat first | (with_reducible refine side_d ?_ ?_; exact byD) | (with_reducible refine side_q ?_ ?_; exact byQ)
  refine cx_sr ?_
  simp only [go_sem]
  repeat first | (with_reducible refine side_d ?_ ?_; exact byD) | (with_reducible refine side_q ?_ ?_; exact byQ)
  refine cx_seq ?_
  refine cx_sr ?_
  simp only [go_sem]
  repeat first | (with_reducible refine side_d ?_ ?_; exact byD) | (with_reducible refine side_q ?_ ?_; exact byQ)
  intro t16 e16
  repeat first | (with_reducible refine side_d ?_ ?_; exact byD) | (with_reducible refine side_q ?_ ?_; exact byQ)
  subst e16
  refine cx_if _ rfl (fun h16 => ?_) (fun h16 => ?_)
  ·
    (try simp only [go_sem] at h16)
    refine cx_sr ?_
    simp only [go_sem]
    repeat first | (with_reducible refine side_d ?_ ?_; exact byD) | (with_reducible refine side_q ?_ ?_; exact byQ)
    refine cx_ret ?_
    simp only [go_sem]
    have hi : i = j := by omega
    subst hi
    rw [List.take_append_drop]
    have : i + (l.length - i) = l.length := by omega
    rw [this]
    exact ⟨[0], rfl, rfl, byC, byC⟩
  ·
    (try simp only [go_sem] at h16)
    refine cx_skip ?_
    (try simp only [go_sem])
    refine cx_sr ?_
    simp only [go_sem]
    repeat first | (with_reducible refine side_d ?_ ?_; exact byD) | (with_reducible refine side_q ?_ ?_; exact byQ)
    refine cx_seq (cx_draw mixed [6] (.first 0 (.first 1 (.first 2 (.first 3 (.first 4 (.first 5 (.one 6 (.first 7 (.done))))))))) (by kernel_rfl) ?_)
    simp only [go_sem]
    repeat first | (with_reducible refine side_d ?_ ?_; exact byD) | (with_reducible refine side_q ?_ ?_; exact byQ)
    refine ⟨fun hC26 => ?_, fun hC26 => absurd hC26 (by omega)⟩
    repeat first | (with_reducible refine side_d ?_ ?_; exact byD) | (with_reducible refine side_q ?_ ?_; exact byQ)
    refine cx_sr ?_
    simp only [go_sem]
    repeat first | (with_reducible refine side_d ?_ ?_; exact byD) | (with_reducible refine side_q ?_ ?_; exact byQ)
    refine cx_sr ?_
    simp only [go_sem]
    repeat first | (with_reducible refine side_d ?_ ?_; exact byD) | (with_reducible refine side_q ?_ ?_; exact byQ)
    refine cx_ret ?_
    simp only [go_sem]
    refine ⟨[0], rfl, rfl, ?_, ?_⟩
    · exact byC
    · simp only [go_sem, wk, wks, wkB, wkH]
      exact ⟨by omega, fun q hq => wks_mp_del (fun _ => rfl) hij hj hq⟩
theorem IndexFunc_string (f : Nat) (caps : List V) (hc : ltrs 0 caps = true) (p : Str → Bool) (l : List Str) (hp : ∀ x ∈ l, Meets Try.prog f (.str x :: caps) (.bool (p x)) []) (hl : l.length < 4611686018427387904) :
    Meets Try.prog 83 [lstV 1 strE [] l, .fn f [] caps] (.int .i64 (idxF p l)) [] := by
  refine meets_x (fn := Try.f83) Try.func83 rfl fb83 (by kernel_rfl) (Nat.le_of_ble_eq_true rfl) ?_
  refine cx_sr ?_
  simp only [go_sem]
  repeat first | (with_reducible refine side_d ?_ ?_; exact byD) | (with_reducible refine side_q ?_ ?_; exact byQ)
  refine cx_seq ?_
  refine cx_sr ?_
  simp only [go_sem]
  repeat first | (with_reducible refine side_d ?_ ?_; exact byD) | (with_reducible refine side_q ?_ ?_; exact byQ)
  refine cx_block ?_
  refine cx_loop0 (σ := Nat) (fun i => i ≤ l.length ∧ ∀ j, j < i → p (l.getD j []) = false) (fun i => [⟨8, 0, [], .int .i64 (i : Nat)⟩]) [0, 1, 7] (fun i => l.length - i) 0 ⟨Nat.zero_le _, fun j hj => absurd hj (Nat.not_lt_zero j)⟩ (Nat.zero_le _) byC (fun i hI1 => ?_)
  simp only [go_sem]
  refine cx_sr ?_
  simp only [go_sem]
  repeat first | (with_reducible refine side_d ?_ ?_; exact byD) | (with_reducible refine side_q ?_ ?_; exact byQ)
  intro t9 e9
  repeat first | (with_reducible refine side_d ?_ ?_; exact byD) | (with_reducible refine side_q ?_ ?_; exact byQ)
  subst e9
  refine cx_seq ?_
  refine cx_if _ rfl (fun h9 => ?_) (fun h9 => ?_)
  ·
    (try simp only [go_sem] at h9)
    refine cx_skip ?_
    (try simp only [go_sem])
    refine cx_seq (cx_block ?_)
    refine cx_sr ?_
    simp only [go_sem]
    repeat first | (with_reducible refine side_d ?_ ?_; exact byD) | (with_reducible refine side_q ?_ ?_; exact byQ)
    refine cx_sr ?_
    simp only [go_sem]
    repeat first | (with_reducible refine side_d ?_ ?_; exact byD) | (with_reducible refine side_q ?_ ?_; exact byQ)
    refine cw_m (hp (l.getD i []) (getD_mem (by omega))) byW byT ?_
    simp only [go_sem]
    repeat first | (with_reducible refine side_d ?_ ?_; exact byD) | (with_reducible refine side_q ?_ ?_; exact byQ)
    refine cx_if _ rfl (fun h16 => ?_) (fun h16 => ?_)
    ·
      (try simp only [go_sem] at h16)
      refine cx_sr ?_
      simp only [go_sem]
      repeat first | (with_reducible refine side_d ?_ ?_; exact byD) | (with_reducible refine side_q ?_ ?_; exact byQ)
      refine cx_ret ?_
      simp only [go_sem]
      refine finw_int ?_
      rw [idxF_at (by omega) hI1.2 h16]
    ·
      (try simp only [go_sem] at h16)
      refine cx_skip ?_
      (try simp only [go_sem])
      refine cx_region ?_
      simp only [go_sem]
      repeat first | (with_reducible refine side_d ?_ ?_; exact byD) | (with_reducible refine side_q ?_ ?_; exact byQ)
      intro t18 e18
      (try replace e18 := w64 e18 (by omega) (by omega))
      repeat first | (with_reducible refine side_d ?_ ?_; exact byD) | (with_reducible refine side_q ?_ ?_; exact byQ)
      refine rnd_next (i + 1) ⟨by omega, all_next hI1.2 h16⟩ (by first | omega | (dsimp only; omega)) byC
  ·
    (try simp only [go_sem] at h9)
    refine cx_exit ?_
    simp only [go_sem]
    refine cx_sr ?_
    simp only [go_sem]
    repeat first | (with_reducible refine side_d ?_ ?_; exact byD) | (with_reducible refine side_q ?_ ?_; exact byQ)
    refine cx_ret ?_
    simp only [go_sem]
    refine finw_int ?_
    rw [idxF_none fun j hj => hI1.2 j (by omega)]
theorem ContainsFunc_string (f : Nat) (caps : List V) (hc : ltrs 0 caps = true) (p : Str → Bool) (l : List Str) (hp : ∀ x ∈ l, Meets Try.prog f (.str x :: caps) (.bool (p x)) []) (hl : l.length < 4611686018427387904) :
    Meets Try.prog 70 [lstV 1 strE [] l, .fn f [] caps] (.bool (l.any p)) [] := by
  refine meets_x (fn := Try.f70) Try.func70 rfl fb70 (by kernel_rfl) (Nat.le_of_ble_eq_true rfl) ?_
  refine cx_sr ?_
  simp only [go_sem]
  repeat first | (with_reducible refine side_d ?_ ?_; exact byD) | (with_reducible refine side_q ?_ ?_; exact byQ)
  refine cx_sr ?_
  simp only [go_sem]
  repeat first | (with_reducible refine side_d ?_ ?_; exact byD) | (with_reducible refine side_q ?_ ?_; exact byQ)
  refine cw_m (IndexFunc_string f caps hc p l hp hl) byW byT ?_
  simp only [go_sem]
  repeat first | (with_reducible refine side_d ?_ ?_; exact byD) | (with_reducible refine side_q ?_ ?_; exact byQ)
  intro t8 e8
  repeat first | (with_reducible refine side_d ?_ ?_; exact byD) | (with_reducible refine side_q ?_ ?_; exact byQ)
  subst e8
  refine cx_ret ?_
  simp only [go_sem]
  refine finw_bool ?_
  rw [← idxF_any]
theorem BSearch_Grant (f : Nat) (tg : Grant) (c : Grant → Int) (hcmp : ∀ x, Meets Try.prog f [.agg (Grant.enc x), .agg (Grant.enc tg)] (.int .i64 (c x)) []) (l : List Grant) (hl : l.length < 4611686018427387904)
    (k : Nat) (hk : k ≤ l.length) (h1 : ∀ j, j < k → c (l.getD j default) < 0) (h2 : ∀ j, k ≤ j → j < l.length → 0 ≤ c (l.getD j default)) :
    Meets Try.prog 85 [lstV 3 Grant.enc default l, .agg (Grant.enc tg), .fn f [] []] (.tup [.int .i64 (k : Nat), .bool (decide (k < l.length) && decide (c (l.getD k default) = 0))]) [] := by
  refine meets_x (fn := Try.f85) Try.func85 rfl fb85 (by kernel_rfl) (Nat.le_of_ble_eq_true rfl) ?_
  refine cx_sr ?_
  simp only [go_sem]
  repeat first | (with_reducible refine side_d ?_ ?_; exact byD) | (with_reducible refine side_q ?_ ?_; exact byQ)
  refine cx_sr ?_
  simp only [go_sem]
  repeat first | (with_reducible refine side_d ?_ ?_; exact byD) | (with_reducible refine side_q ?_ ?_; exact byQ)
  refine cx_sr ?_
  simp only [go_sem]
  repeat first | (with_reducible refine side_d ?_ ?_; exact byD) | (with_reducible refine side_q ?_ ?_; exact byQ)
  refine cx_seq (cx_block ?_)
  refine cx_loop0 (σ := Nat × Nat) (fun s => s.1 ≤ k ∧ k ≤ s.2 ∧ s.2 ≤ l.length) (fun s => [⟨9, 0, [], .int .i64 (s.1 : Nat)⟩, ⟨10, 0, [], .int .i64 (s.2 : Nat)⟩]) [0, 2, 4, 6, 7, 8] (fun s => s.2 - s.1) (0, l.length) ⟨Nat.zero_le _, hk, Nat.le_refl _⟩ (Nat.zero_le _) byC (fun s hI1 => ?_)
  simp only [go_sem]
  refine cx_seq ?_
  refine cx_sr ?_
  simp only [go_sem]
  repeat first | (with_reducible refine side_d ?_ ?_; exact byD) | (with_reducible refine side_q ?_ ?_; exact byQ)
  intro t17 e17
  repeat first | (with_reducible refine side_d ?_ ?_; exact byD) | (with_reducible refine side_q ?_ ?_; exact byQ)
  subst e17
  refine cx_if _ rfl (fun h17 => ?_) (fun h17 => ?_)
  ·
    (try simp only [go_sem] at h17)
    refine cx_skip ?_
    (try simp only [go_sem])
    refine cx_block ?_
    refine cx_sr ?_
    simp only [go_sem]
    repeat first | (with_reducible refine side_d ?_ ?_; exact byD) | (with_reducible refine side_q ?_ ?_; exact byQ)
    intro t20 e20
    (try replace e20 := w64 e20 (by omega) (by omega))
    repeat first | (with_reducible refine side_d ?_ ?_; exact byD) | (with_reducible refine side_q ?_ ?_; exact byQ)
    intro t21 e21
    repeat first | (with_reducible refine side_d ?_ ?_; exact byD) | (with_reducible refine side_q ?_ ?_; exact byQ)
    intro t22 e22
    repeat first | (with_reducible refine side_d ?_ ?_; exact byD) | (with_reducible refine side_q ?_ ?_; exact byQ)
    intro t23 e23
    have hm : t23 = (((s.1 + s.2) / 2 : Nat) : Int) := mid_eq (by omega) (by omega) e21 e22 e23
    clear e23
    subst hm
    have hlt : (s.1 + s.2) / 2 < s.2 := by omega
    have hge : s.1 ≤ (s.1 + s.2) / 2 := by omega
    repeat first | (with_reducible refine side_d ?_ ?_; exact byD) | (with_reducible refine side_q ?_ ?_; exact byQ)
    refine cx_seq (cx_draw mixed [] (.first 0 (.first 1 (.first 2 (.first 3 (.first 4 (.first 5 (.one 6 (.first 7 (.done))))))))) (by kernel_rfl) ?_)
    simp only [go_sem]
    repeat first | (with_reducible refine side_d ?_ ?_; exact byD) | (with_reducible refine side_q ?_ ?_; exact byQ)
    refine cwE_m (hcmp (l.getD ((s.1 + s.2) / 2) default)) byW byT ?_
    simp only [go_sem]
    repeat first | (with_reducible refine side_d ?_ ?_; exact byD) | (with_reducible refine side_q ?_ ?_; exact byQ)
    intro t31 e31
    repeat first | (with_reducible refine side_d ?_ ?_; exact byD) | (with_reducible refine side_q ?_ ?_; exact byQ)
    subst e31
    refine cx_if _ rfl (fun h31 => ?_) (fun h31 => ?_)
    ·
      (try simp only [go_sem] at h31)
      refine cx_region ?_
      simp only [go_sem]
      repeat first | (with_reducible refine side_d ?_ ?_; exact byD) | (with_reducible refine side_q ?_ ?_; exact byQ)
      intro t33 e33
      (try replace e33 := w64 e33 (by omega) (by omega))
      repeat first | (with_reducible refine side_d ?_ ?_; exact byD) | (with_reducible refine side_q ?_ ?_; exact byQ)
      have : (s.1 + s.2) / 2 < k := by
        rcases Nat.lt_or_ge ((s.1 + s.2) / 2) k with h | h
        · exact h
        · have := h2 _ h (by omega); omega
      refine rnd_next ((s.1 + s.2) / 2 + 1, s.2) ⟨by dsimp only; omega, hI1.2.1, hI1.2.2⟩ (by first | omega | (dsimp only; omega)) byC
    ·
      (try simp only [go_sem] at h31)
      refine cx_region ?_
      simp only [go_sem]
      repeat first | (with_reducible refine side_d ?_ ?_; exact byD) | (with_reducible refine side_q ?_ ?_; exact byQ)
      have : k ≤ (s.1 + s.2) / 2 := by
        rcases Nat.lt_or_ge ((s.1 + s.2) / 2) k with h | h
        · have := h1 _ h; omega
        · exact h
      refine rnd_next (s.1, (s.1 + s.2) / 2) ⟨hI1.1, this, by dsimp only; omega⟩ (by first | omega | (dsimp only; omega)) byC
  ·
    (try simp only [go_sem] at h17)
    have hks : s.1 = k := by omega
    refine cx_exit ?_
    simp only [go_sem]
    refine cx_seq (cx_draw mixed [] (.first 0 (.first 1 (.first 2 (.first 3 (.first 4 (.first 5 (.first 6 (.first 7 (.first 8 (.first 9 (.first 10 (.one 11 (.first 12 (.first 13 (.first 14 (.first 15 (.done))))))))))))))))) (by kernel_rfl) ?_)
    simp only [go_sem]
    repeat first | (with_reducible refine side_d ?_ ?_; exact byD) | (with_reducible refine side_q ?_ ?_; exact byQ)
    intro t38 e38
    repeat first | (with_reducible refine side_d ?_ ?_; exact byD) | (with_reducible refine side_q ?_ ?_; exact byQ)
    refine ⟨_, fun hp => cwE_m (hcmp (l.getD s.1 default)) byW byT ⟨rfl, rfl⟩, ?_⟩
    simp only [go_sem]
    repeat first | (with_reducible refine side_d ?_ ?_; exact byD) | (with_reducible refine side_q ?_ ?_; exact byQ)
    intro t47 e47
    repeat first | (with_reducible refine side_d ?_ ?_; exact byD) | (with_reducible refine side_q ?_ ?_; exact byQ)
    intro t48 e48
    rw [bsel_and] at e48
    repeat first | (with_reducible refine side_d ?_ ?_; exact byD) | (with_reducible refine side_q ?_ ?_; exact byQ)
    subst e38 e47 e48
    refine cx_ret ?_
    simp only [go_sem]
    rw [← hks]
    refine finw_flat rfl ?_
    exact byC
theorem Insert_Grant (l : List Grant) (i : Nat) (x : Grant) (hi : i ≤ l.length) (hl : (l.length + 1) * 40 ≤ 140737488355328) :
    Does Try.prog 77 [.own none 0 3 0 l.length .loose, .int .i64 (i : Nat), .own (some false) 1 3 0 1 (.cut true)] [.arr 3 l.length (En Grant.enc default l), .arr 3 1 (fun _ => Grant.enc x)]
      (.own none 2 3 0 (l.length + 1) .loose) [.dead, .dead, .arr 3 (l.length + 1) (En Grant.enc default (l.take i ++ x :: l.drop i))] := by
  refine does_cx (fn := Try.f77) Try.func77 rfl fb77 (by kernel_rfl) (Nat.le_of_ble_eq_true rfl) ?_
  refine cx_exact 0 rfl fun C hC => ?_
  refine cx_sr ?_
  simp only [go_sem]
  repeat first | (with_reducible refine side_d ?_ ?_; exact byD) | (with_reducible refine side_q ?_ ?_; exact byQ)
  refine cx_sr ?_
  simp only [go_sem]
  repeat first | (with_reducible refine side_d ?_ ?_; exact byD) | (with_reducible refine side_q ?_ ?_; exact byQ)
  refine cx_sr ?_
  simp only [go_sem]
  repeat first | (with_reducible refine side_d ?_ ?_; exact byD) | (with_reducible refine side_q ?_ ?_; exact byQ)
  refine cx_seq ?_
  refine cx_sr ?_
  simp only [go_sem]
  repeat first | (with_reducible refine side_d ?_ ?_; exact byD) | (with_reducible refine side_q ?_ ?_; exact byQ)
  intro t16 e16
  repeat first | (with_reducible refine side_d ?_ ?_; exact byD) | (with_reducible refine side_q ?_ ?_; exact byQ)
  subst e16
  refine cx_if _ rfl (fun h16 => ?_) (fun h16 => ?_)
  · simp at h16
  ·
    (try simp only [go_sem] at h16)
    refine cx_skip ?_
    (try simp only [go_sem])
    refine cx_sr ?_
    simp only [go_sem]
    repeat first | (with_reducible refine side_d ?_ ?_; exact byD) | (with_reducible refine side_q ?_ ?_; exact byQ)
    refine cx_seq ?_
    refine cx_sr ?_
    simp only [go_sem]
    repeat first | (with_reducible refine side_d ?_ ?_; exact byD) | (with_reducible refine side_q ?_ ?_; exact byQ)
    intro t22 e22
    repeat first | (with_reducible refine side_d ?_ ?_; exact byD) | (with_reducible refine side_q ?_ ?_; exact byQ)
    subst e22
    refine cx_if _ rfl (fun h22 => ?_) (fun h22 => ?_)
    ·
      (try simp only [go_sem] at h22)
      have hil : i = l.length := by omega
      subst hil
      refine cx_sr ?_
      simp only [go_sem]
      repeat first | (with_reducible refine side_d ?_ ?_; exact byD) | (with_reducible refine side_q ?_ ?_; exact byQ)
      refine ⟨fun hC25 => ?_, fun hC25 => ?_⟩
      ·
        repeat first | (with_reducible refine side_d ?_ ?_; exact byD) | (with_reducible refine side_q ?_ ?_; exact byQ)
        refine cx_move 0 rfl ?_
        simp only [go_sem]
        refine cx_ret ?_
        simp only [go_sem]
        refine ⟨[0, 1, 2], rfl, rfl, ?_, ?_⟩
        · exact byC
        · simp only [go_sem, wk, wks, wkB, wkH]
          exact ⟨by omega, fun q hq => wks_mp_of (fun _ => rfl) (ins_end (fun _ => rfl) rfl hq)⟩
      ·
        repeat first | (with_reducible refine side_d ?_ ?_; exact byD) | (with_reducible refine side_q ?_ ?_; exact byQ)
        refine cx_move 0 rfl ?_
        simp only [go_sem]
        refine cx_ret ?_
        simp only [go_sem]
        refine ⟨[0, 1, 2], rfl, rfl, ?_, ?_⟩
        · exact byC
        · simp only [go_sem, wk, wks, wkB, wkH]
          exact fun q hq => wks_mp_of (fun _ => rfl) (ins_end' (fun _ => rfl) rfl hq)
    ·
      (try simp only [go_sem] at h22)
      refine cx_skip ?_
      (try simp only [go_sem])
      refine cx_seq ?_
      refine cx_sr ?_
      simp only [go_sem]
      repeat first | (with_reducible refine side_d ?_ ?_; exact byD) | (with_reducible refine side_q ?_ ?_; exact byQ)
      intro t28 e28
      (try replace e28 := w64 e28 (by omega) (by omega))
      repeat first | (with_reducible refine side_d ?_ ?_; exact byD) | (with_reducible refine side_q ?_ ?_; exact byQ)
      intro t31 e31
      repeat first | (with_reducible refine side_d ?_ ?_; exact byD) | (with_reducible refine side_q ?_ ?_; exact byQ)
      subst e31
      refine cx_if _ rfl (fun h31 => ?_) (fun h31 => ?_)
      ·
        (try simp only [go_sem] at h31)
        refine cx_sr ?_
        simp only [go_sem]
        repeat first | (with_reducible refine side_d ?_ ?_; exact byD) | (with_reducible refine side_q ?_ ?_; exact byQ)
        intro t37 e37
        (try replace e37 := w64 e37 (by omega) (by omega))
        repeat first | (with_reducible refine side_d ?_ ?_; exact byD) | (with_reducible refine side_q ?_ ?_; exact byQ)
        intro t39 e39
        (try replace e39 := w64 e39 (by omega) (by omega))
        repeat first | (with_reducible refine side_d ?_ ?_; exact byD) | (with_reducible refine side_q ?_ ?_; exact byQ)
        refine cx_sr ?_
        simp only [go_sem]
        repeat first | (with_reducible refine side_d ?_ ?_; exact byD) | (with_reducible refine side_q ?_ ?_; exact byQ)
        refine cx_seq (cx_draw mixed [8] (.first 0 (.first 1 (.first 2 (.first 3 (.first 4 (.first 5 (.first 6 (.first 7 (.one 8 (.done)))))))))) (by kernel_rfl) ?_)
        simp only [go_sem]
        repeat first | (with_reducible refine side_d ?_ ?_; exact byD) | (with_reducible refine side_q ?_ ?_; exact byQ)
        intro t49 e49
        (try replace e49 := w64 e49 (by omega) (by omega))
        repeat first | (with_reducible refine side_d ?_ ?_; exact byD) | (with_reducible refine side_q ?_ ?_; exact byQ)
        refine cx_sr ?_
        simp only [go_sem]
        repeat first | (with_reducible refine side_d ?_ ?_; exact byD) | (with_reducible refine side_q ?_ ?_; exact byQ)
        refine cx_ret ?_
        simp only [go_sem]
        have h39 : t39.toNat = l.length + 1 - i := by omega
        have h49 : t49.toNat = i + 1 := by omega
        refine ⟨[0, 1, 2], rfl, rfl, ?_, ?_⟩
        · exact byC
        · simp only [go_sem, wk, wks, wkB, wkH, h39, h49]
          refine ⟨by omega, fun q hq => wks_mp_of (fun _ => rfl) ?_⟩
          exact ins_grow (fun _ => rfl) (by omega) hq (by omega) (by omega)
      ·
        (try simp only [go_sem] at h31)
        refine cx_skip ?_
        (try simp only [go_sem])
        refine cx_sr ?_
        simp only [go_sem]
        repeat first | (with_reducible refine side_d ?_ ?_; exact byD) | (with_reducible refine side_q ?_ ?_; exact byQ)
        intro t59 e59
        (try replace e59 := w64 e59 (by omega) (by omega))
        repeat first | (with_reducible refine side_d ?_ ?_; exact byD) | (with_reducible refine side_q ?_ ?_; exact byQ)
        refine cx_seq ?_
        refine cx_sr ?_
        simp only [go_sem]
        repeat first | (with_reducible refine side_d ?_ ?_; exact byD) | (with_reducible refine side_q ?_ ?_; exact byQ)
        intro t65 e65
        (try replace e65 := w64 e65 (by omega) (by omega))
        repeat first | (with_reducible refine side_d ?_ ?_; exact byD) | (with_reducible refine side_q ?_ ?_; exact byQ)
        refine cw_ovl (tS := 51) (tR := 4) Try.func86 (by kernel_rfl) (by kernel_rfl) (by kernel_rfl) (by kernel_rfl) te51 rfl rfl (by decide) (by omega) ?_
        simp only [go_sem]
        repeat first | (with_reducible refine side_d ?_ ?_; exact byD) | (with_reducible refine side_q ?_ ?_; exact byQ)
        intro t68 e68
        repeat first | (with_reducible refine side_d ?_ ?_; exact byD) | (with_reducible refine side_q ?_ ?_; exact byQ)
        subst e68
        refine cx_if _ rfl (fun h68 => ?_) (fun h68 => no_if h68)
        refine cx_seq (cx_draw mixed [8] (.first 0 (.first 1 (.first 2 (.first 3 (.first 4 (.first 5 (.first 6 (.first 7 (.one 8 (.done)))))))))) (by kernel_rfl) ?_)
        simp only [go_sem]
        repeat first | (with_reducible refine side_d ?_ ?_; exact byD) | (with_reducible refine side_q ?_ ?_; exact byQ)
        intro t72 e72
        (try replace e72 := w64 e72 (by omega) (by omega))
        repeat first | (with_reducible refine side_d ?_ ?_; exact byD) | (with_reducible refine side_q ?_ ?_; exact byQ)
        refine cx_sr ?_
        simp only [go_sem]
        repeat first | (with_reducible refine side_d ?_ ?_; exact byD) | (with_reducible refine side_q ?_ ?_; exact byQ)
        refine cx_sr ?_
        simp only [go_sem]
        repeat first | (with_reducible refine side_d ?_ ?_; exact byD) | (with_reducible refine side_q ?_ ?_; exact byQ)
        refine cx_move 0 rfl ?_
        simp only [go_sem]
        refine cx_ret ?_
        simp only [go_sem]
        have h59 : t59.toNat = l.length + 1 := by omega
        have h72 : t72.toNat = i + 1 := by omega
        refine ⟨[0, 1, 2], rfl, rfl, ?_, ?_⟩
        · exact byC
        · simp only [go_sem, wk, wks, wkB, wkH, h59, h72]
          refine ⟨by omega, fun q hq => wks_mp_of (fun _ => rfl) ?_⟩
          exact ins_in (fun _ => rfl) (by omega) hq (by omega) (by omega)
end Go.VM.Try
end
section
set_option linter.unusedVariables false
set_option linter.unusedSimpArgs false
open Go Go.VM Go.Proofs Tether
namespace Go.VM.Try
set_option maxRecDepth 100000
set_option maxHeartbeats 1000000
theorem isNaN_c (s : Str) : Meets Try.prog 84 [.str s] (.bool false) [] := by
  refine meets_x (fn := Try.f84) Try.func84 rfl fb84 (by kernel_rfl) (Nat.le_of_ble_eq_true rfl) ?_
  refine cx_sr ?_
  simp only [go_sem]
  repeat first | (with_reducible refine side_d ?_ ?_; exact byD) | (with_reducible refine side_q ?_ ?_; exact byQ)
  refine cx_sr ?_
  simp only [go_sem]
  repeat first | (with_reducible refine side_d ?_ ?_; exact byD) | (with_reducible refine side_q ?_ ?_; exact byQ)
  intro t5 e5
  repeat first | (with_reducible refine side_d ?_ ?_; exact byD) | (with_reducible refine side_q ?_ ?_; exact byQ)
  subst e5
  refine cx_ret ?_
  simp only [go_sem]
  refine finw_bool ?_
  simp
theorem Compare_c (a b : Str) : Meets Try.prog 73 [.str a, .str b] (.int .i64 (cmpS a b)) [] := by
  refine meets_x (fn := Try.f73) Try.func73 rfl fb73 (by kernel_rfl) (Nat.le_of_ble_eq_true rfl) ?_
  refine cx_sr ?_
  simp only [go_sem]
  repeat first | (with_reducible refine side_d ?_ ?_; exact byD) | (with_reducible refine side_q ?_ ?_; exact byQ)
  refine cx_sr ?_
  simp only [go_sem]
  repeat first | (with_reducible refine side_d ?_ ?_; exact byD) | (with_reducible refine side_q ?_ ?_; exact byQ)
  refine cw_m (isNaN_c a) byW byT ?_
  simp only [go_sem]
  repeat first | (with_reducible refine side_d ?_ ?_; exact byD) | (with_reducible refine side_q ?_ ?_; exact byQ)
  refine cx_sr ?_
  simp only [go_sem]
  repeat first | (with_reducible refine side_d ?_ ?_; exact byD) | (with_reducible refine side_q ?_ ?_; exact byQ)
  refine cw_m (isNaN_c b) byW byT ?_
  simp only [go_sem]
  repeat first | (with_reducible refine side_d ?_ ?_; exact byD) | (with_reducible refine side_q ?_ ?_; exact byQ)
  refine cx_seq ?_
  refine cx_sr ?_
  simp only [go_sem]
  repeat first | (with_reducible refine side_d ?_ ?_; exact byD) | (with_reducible refine side_q ?_ ?_; exact byQ)
  refine cx_if _ rfl (fun h11 => no_if h11) (fun h11 => ?_)
  refine cx_skip ?_
  (try simp only [go_sem])
  refine cx_seq ?_
  refine cx_sr ?_
  simp only [go_sem]
  repeat first | (with_reducible refine side_d ?_ ?_; exact byD) | (with_reducible refine side_q ?_ ?_; exact byQ)
  refine cx_if _ rfl (fun h13 => no_if h13) (fun h13 => ?_)
  refine cx_skip ?_
  (try simp only [go_sem])
  refine cx_seq ?_
  refine cx_sr ?_
  simp only [go_sem]
  repeat first | (with_reducible refine side_d ?_ ?_; exact byD) | (with_reducible refine side_q ?_ ?_; exact byQ)
  intro t16 e16
  repeat first | (with_reducible refine side_d ?_ ?_; exact byD) | (with_reducible refine side_q ?_ ?_; exact byQ)
  subst e16
  refine cx_if _ rfl (fun h16 => ?_) (fun h16 => ?_)
  ·
    (try simp only [go_sem] at h16)
    refine cx_sr ?_
    simp only [go_sem]
    repeat first | (with_reducible refine side_d ?_ ?_; exact byD) | (with_reducible refine side_q ?_ ?_; exact byQ)
    refine cx_ret ?_
    simp only [go_sem]
    refine finw_int ?_
    rw [cmpS, if_pos h16]
  ·
    (try simp only [go_sem] at h16)
    refine cx_skip ?_
    (try simp only [go_sem])
    refine cx_seq ?_
    refine cx_sr ?_
    simp only [go_sem]
    repeat first | (with_reducible refine side_d ?_ ?_; exact byD) | (with_reducible refine side_q ?_ ?_; exact byQ)
    intro t19 e19
    repeat first | (with_reducible refine side_d ?_ ?_; exact byD) | (with_reducible refine side_q ?_ ?_; exact byQ)
    subst e19
    refine cx_if _ rfl (fun h19 => ?_) (fun h19 => ?_)
    ·
      (try simp only [go_sem] at h19)
      refine cx_sr ?_
      simp only [go_sem]
      repeat first | (with_reducible refine side_d ?_ ?_; exact byD) | (with_reducible refine side_q ?_ ?_; exact byQ)
      refine cx_ret ?_
      simp only [go_sem]
      refine finw_int ?_
      have h1 : ¬ a < b := fun h => by rw [blt_iff.2 h] at h16; cases h16
      have h2 : b < a := by
        rcases str_tri a b with h | h | h
        · exact absurd h h1
        · exact absurd h h19.2
        · exact h
      rw [cmpS, if_neg (by simp [h16]), if_pos (blt_iff.2 h2)]
    ·
      (try simp only [go_sem] at h19)
      refine cx_skip ?_
      (try simp only [go_sem])
      refine cx_sr ?_
      simp only [go_sem]
      repeat first | (with_reducible refine side_d ?_ ?_; exact byD) | (with_reducible refine side_q ?_ ?_; exact byQ)
      refine cx_ret ?_
      simp only [go_sem]
      refine finw_int ?_
      rcases h19 with h | h
      · rw [h] at h16; cases h16
      · subst h
        exact (cmpS_eq.2 rfl).symm
theorem Or_c (l : List Int) (hl : l.length < 4611686018427387904) : Meets Try.prog 72 [lstV 1 numE 0 l] (.int .i64 (match l.find? (fun n => decide (¬ n = 0)) with | some n => n | none => 0)) [] := by
  refine meets_x (fn := Try.f72) Try.func72 rfl fb72 (by kernel_rfl) (Nat.le_of_ble_eq_true rfl) ?_
  refine cx_sr ?_
  simp only [go_sem]
  repeat first | (with_reducible refine side_d ?_ ?_; exact byD) | (with_reducible refine side_q ?_ ?_; exact byQ)
  refine cx_sr ?_
  simp only [go_sem]
  repeat first | (with_reducible refine side_d ?_ ?_; exact byD) | (with_reducible refine side_q ?_ ?_; exact byQ)
  refine cx_seq ?_
  refine cx_sr ?_
  simp only [go_sem]
  repeat first | (with_reducible refine side_d ?_ ?_; exact byD) | (with_reducible refine side_q ?_ ?_; exact byQ)
  refine cx_block ?_
  refine cx_loop0 (σ := Nat) (fun i => i ≤ l.length ∧ ∀ j, j < i → l.getD j 0 = 0) (fun i => [⟨8, 0, [], .int .i64 (i : Nat)⟩]) [3, 6, 7] (fun i => l.length - i) 0 ⟨Nat.zero_le _, fun j hj => absurd hj (Nat.not_lt_zero j)⟩ (Nat.zero_le _) byC (fun i hI1 => ?_)
  simp only [go_sem]
  refine cx_sr ?_
  simp only [go_sem]
  repeat first | (with_reducible refine side_d ?_ ?_; exact byD) | (with_reducible refine side_q ?_ ?_; exact byQ)
  intro t9 e9
  repeat first | (with_reducible refine side_d ?_ ?_; exact byD) | (with_reducible refine side_q ?_ ?_; exact byQ)
  subst e9
  refine cx_seq ?_
  refine cx_if _ rfl (fun h9 => ?_) (fun h9 => ?_)
  ·
    (try simp only [go_sem] at h9)
    refine cx_skip ?_
    (try simp only [go_sem])
    refine cx_seq (cx_block ?_)
    refine cx_sr ?_
    simp only [go_sem]
    repeat first | (with_reducible refine side_d ?_ ?_; exact byD) | (with_reducible refine side_q ?_ ?_; exact byQ)
    refine cx_sr ?_
    simp only [go_sem]
    repeat first | (with_reducible refine side_d ?_ ?_; exact byD) | (with_reducible refine side_q ?_ ?_; exact byQ)
    intro t14 e14
    repeat first | (with_reducible refine side_d ?_ ?_; exact byD) | (with_reducible refine side_q ?_ ?_; exact byQ)
    subst e14
    refine cx_if _ rfl (fun h14 => ?_) (fun h14 => ?_)
    ·
      (try simp only [go_sem] at h14)
      refine cx_sr ?_
      simp only [go_sem]
      repeat first | (with_reducible refine side_d ?_ ?_; exact byD) | (with_reducible refine side_q ?_ ?_; exact byQ)
      refine cx_ret ?_
      simp only [go_sem]
      refine finw_int ?_
      have : l.find? (fun n => decide (¬ n = 0)) = some (l.getD i 0) := by
        rw [List.find?_eq_some_iff_getElem]
        have hi : i < l.length := by omega
        refine ⟨by simpa using h14, i, hi, by simp [List.getD, hi], fun j hj => ?_⟩
        have := hI1.2 j hj
        simpa [List.getD, show j < l.length by omega] using this
      rw [this]
    ·
      (try simp only [go_sem] at h14)
      refine cx_skip ?_
      (try simp only [go_sem])
      refine cx_region ?_
      simp only [go_sem]
      repeat first | (with_reducible refine side_d ?_ ?_; exact byD) | (with_reducible refine side_q ?_ ?_; exact byQ)
      intro t16 e16
      (try replace e16 := w64 e16 (by omega) (by omega))
      repeat first | (with_reducible refine side_d ?_ ?_; exact byD) | (with_reducible refine side_q ?_ ?_; exact byQ)
      refine rnd_next (i + 1) ⟨by omega, all_next hI1.2 h14⟩ (by first | omega | (dsimp only; omega)) byC
  ·
    (try simp only [go_sem] at h9)
    refine cx_exit ?_
    simp only [go_sem]
    refine cx_sr ?_
    simp only [go_sem]
    repeat first | (with_reducible refine side_d ?_ ?_; exact byD) | (with_reducible refine side_q ?_ ?_; exact byQ)
    refine cx_ret ?_
    simp only [go_sem]
    refine finw_int ?_
    have : l.find? (fun n => decide (¬ n = 0)) = none := by
      rw [List.find?_eq_none]
      intro x hx
      obtain ⟨j, hj, rfl⟩ := List.getElem_of_mem hx
      have := hI1.2 j (by omega)
      simpa [List.getD, hj] using this
    rw [this]
theorem order_c (a b : Grant) : Meets Try.prog 55 [.agg a.enc, .agg b.enc] (.int .i64 (order a b)) [] := by
  refine meets_x (fn := Try.f55) Try.func55 rfl fb55 (by kernel_rfl) (Nat.le_of_ble_eq_true rfl) ?_
  refine cx_sr ?_
  simp only [go_sem]
  repeat first | (with_reducible refine side_d ?_ ?_; exact byD) | (with_reducible refine side_q ?_ ?_; exact byQ)
  refine cx_seq (cx_draw mixed [] (.first 0 (.first 1 (.first 2 (.first 3 (.first 5 (.first 6 (.first 7 (.first 8 (.one 4 (.one 9 (.one 10 (.one 11 (.first 12 (.done)))))))))))))) (by kernel_rfl) ?_)
  simp only [go_sem]
  repeat first | (with_reducible refine side_d ?_ ?_; exact byD) | (with_reducible refine side_q ?_ ?_; exact byQ)
  refine cwE_m (Compare_c a.folder b.folder) byW byT ?_
  simp only [go_sem]
  repeat first | (with_reducible refine side_d ?_ ?_; exact byD) | (with_reducible refine side_q ?_ ?_; exact byQ)
  refine cwE_m (Compare_c a.who b.who) byW byT ?_
  simp only [go_sem]
  repeat first | (with_reducible refine side_d ?_ ?_; exact byD) | (with_reducible refine side_q ?_ ?_; exact byQ)
  refine cwE_v 2 (Or_c [cmpS a.folder b.folder, cmpS a.who b.who] (by simp)) byV byC rfl ?_
  simp only [go_sem]
  repeat first | (with_reducible refine side_d ?_ ?_; exact byD) | (with_reducible refine side_q ?_ ?_; exact byQ)
  refine cx_ret ?_
  simp only [go_sem]
  refine finw_int ?_
  unfold order
  by_cases h : cmpS a.folder b.folder = 0
  · by_cases h2 : cmpS a.who b.who = 0 <;> simp [h, h2]
  · simp [h]
theorem names1_c (s : Str) (hs : s.length < 4611686018427387904) : Meets Try.prog 71 [.str s] (.bool (!isName s)) [] := by
  refine meets_x (fn := Try.f71) Try.func71 rfl fb71 (by kernel_rfl) (Nat.le_of_ble_eq_true rfl) ?_
  refine cx_sr ?_
  simp only [go_sem]
  repeat first | (with_reducible refine side_d ?_ ?_; exact byD) | (with_reducible refine side_q ?_ ?_; exact byQ)
  refine cx_sr ?_
  simp only [go_sem]
  repeat first | (with_reducible refine side_d ?_ ?_; exact byD) | (with_reducible refine side_q ?_ ?_; exact byQ)
  refine cw_m (IsName_c s hs) byW byT ?_
  simp only [go_sem]
  repeat first | (with_reducible refine side_d ?_ ?_; exact byD) | (with_reducible refine side_q ?_ ?_; exact byQ)
  intro t5 e5
  repeat first | (with_reducible refine side_d ?_ ?_; exact byD) | (with_reducible refine side_q ?_ ?_; exact byQ)
  subst e5
  refine cx_ret ?_
  simp only [go_sem]
  exact finw_bool rfl
theorem names_c (l : List Str) (hl : l.length < 4611686018427387904) (hs : ∀ s ∈ l, s.length < 4611686018427387904) : Meets Try.prog 54 [strsV l] (.bool (l.all isName)) [] := by
  refine meets_x (fn := Try.f54) Try.func54 rfl fb54 (by kernel_rfl) (Nat.le_of_ble_eq_true rfl) ?_
  refine cx_sr ?_
  simp only [go_sem]
  repeat first | (with_reducible refine side_d ?_ ?_; exact byD) | (with_reducible refine side_q ?_ ?_; exact byQ)
  refine cx_sr ?_
  simp only [go_sem]
  repeat first | (with_reducible refine side_d ?_ ?_; exact byD) | (with_reducible refine side_q ?_ ?_; exact byQ)
  refine cw_m (ContainsFunc_string 71 [] rfl (fun s => !isName s) l (fun s h => names1_c s (hs s h)) hl) byW byT ?_
  simp only [go_sem]
  repeat first | (with_reducible refine side_d ?_ ?_; exact byD) | (with_reducible refine side_q ?_ ?_; exact byQ)
  intro t5 e5
  repeat first | (with_reducible refine side_d ?_ ?_; exact byD) | (with_reducible refine side_q ?_ ?_; exact byQ)
  subst e5
  refine cx_ret ?_
  simp only [go_sem]
  refine finw_bool ?_
  simp [List.all_eq_not_any_not]
theorem find_c (l : List Grant) (hl : l.length < 4611686018427387904) (hs : SortedG l) (f w : Str) : Meets Try.prog 74 [gsV l, .str f, .str w] (.tup [.int .i64 (gIx l f w : Nat), .bool (hasG l f w)]) [] := by
  refine meets_x (fn := Try.f74) Try.func74 rfl fb74 (by kernel_rfl) (Nat.le_of_ble_eq_true rfl) ?_
  refine cx_sr ?_
  simp only [go_sem]
  repeat first | (with_reducible refine side_d ?_ ?_; exact byD) | (with_reducible refine side_q ?_ ?_; exact byQ)
  refine cx_sr ?_
  simp only [go_sem]
  repeat first | (with_reducible refine side_d ?_ ?_; exact byD) | (with_reducible refine side_q ?_ ?_; exact byQ)
  refine cw_m (BSearch_Grant 55 ⟨f, w, 0⟩ (fun g => order g ⟨f, w, 0⟩) (fun x => order_c x ⟨f, w, 0⟩) l hl (gIx l f w) (gIx_le l f w) (fun j hj => gIx_lt hj) (fun j h1 h2 => gIx_ge hs h1 h2)) byW byT ?_
  simp only [go_sem]
  repeat first | (with_reducible refine side_d ?_ ?_; exact byD) | (with_reducible refine side_q ?_ ?_; exact byQ)
  refine cx_ret ?_
  simp only [go_sem]
  exact finx_of 1 [] rfl byC byC byC byC
theorem Of_c (l : List Grant) (hl : l.length < 4611686018427387904) (hs : SortedG l) (f w : Str) : Meets Try.prog 58 [gsV l, .str f, .str w] (.int .i64 (rightG l f w)) [] := by
  refine meets_x (fn := Try.f58) Try.func58 rfl fb58 (by kernel_rfl) (Nat.le_of_ble_eq_true rfl) ?_
  refine cx_sr ?_
  simp only [go_sem]
  repeat first | (with_reducible refine side_d ?_ ?_; exact byD) | (with_reducible refine side_q ?_ ?_; exact byQ)
  refine cx_seq ?_
  refine cx_sr ?_
  simp only [go_sem]
  repeat first | (with_reducible refine side_d ?_ ?_; exact byD) | (with_reducible refine side_q ?_ ?_; exact byQ)
  refine cw_m (find_c l hl hs f w) byW byT ?_
  simp only [go_sem]
  repeat first | (with_reducible refine side_d ?_ ?_; exact byD) | (with_reducible refine side_q ?_ ?_; exact byQ)
  refine cx_sr ?_
  simp only [go_sem]
  repeat first | (with_reducible refine side_d ?_ ?_; exact byD) | (with_reducible refine side_q ?_ ?_; exact byQ)
  refine cx_if _ rfl (fun h16 => ?_) (fun h16 => ?_)
  ·
    (try simp only [go_sem] at h16)
    have hh : gIx l f w < l.length ∧ order (l.getD (gIx l f w) default) ⟨f, w, 0⟩ = 0 := by simpa [hasG] using h16
    refine cx_sr ?_
    simp only [go_sem]
    repeat first | (with_reducible refine side_d ?_ ?_; exact byD) | (with_reducible refine side_q ?_ ?_; exact byQ)
    refine cx_ret ?_
    simp only [go_sem]
    refine finw_int ?_
    rw [rightG_eq hs, if_pos hh]
  ·
    (try simp only [go_sem] at h16)
    refine cx_skip ?_
    (try simp only [go_sem])
    refine cx_sr ?_
    simp only [go_sem]
    repeat first | (with_reducible refine side_d ?_ ?_; exact byD) | (with_reducible refine side_q ?_ ?_; exact byQ)
    refine cx_ret ?_
    simp only [go_sem]
    refine finw_int ?_
    rw [rightG_eq hs, if_neg (by simpa [hasG] using h16)]
end Go.VM.Try
end
section
set_option linter.unusedVariables false
set_option linter.unusedSimpArgs false
open Go Go.VM Go.Proofs Tether
namespace Go.VM.Try
set_option maxRecDepth 100000
set_option maxHeartbeats 1000000
def allK (l : List Grant) : List Str := l.map (·.folder)
def ownK (l : List Grant) : List Str := (l.filter fun g => decide (g.right = 3)).map (·.folder)
theorem take_snoc {α : Type} {l : List α} {d : α} {i : Nat} (hi : i < l.length) : l.take (i + 1) = l.take i ++ [l.getD i d] := by
  rw [List.take_succ_eq_append_getElem hi]; simp [List.getD, hi]
theorem owned_c (l : List Grant) (hl : l.length < 4611686018427387904) : Meets Try.prog 56 [gsV l] (.bool (ownedG l)) [] := by
  refine meets_x (fn := Try.f56) Try.func56 rfl fb56 (by kernel_rfl) (Nat.le_of_ble_eq_true rfl) ?_
  refine cx_sr ?_
  simp only [go_sem]
  repeat first | (with_reducible refine side_d ?_ ?_; exact byD) | (with_reducible refine side_q ?_ ?_; exact byQ)
  refine cx_sr ?_
  simp only [go_sem]
  repeat first | (with_reducible refine side_d ?_ ?_; exact byD) | (with_reducible refine side_q ?_ ?_; exact byQ)
  refine cx_seq ?_
  refine cx_sr ?_
  simp only [go_sem]
  repeat first | (with_reducible refine side_d ?_ ?_; exact byD) | (with_reducible refine side_q ?_ ?_; exact byQ)
  refine cx_block ?_
  refine cx_loopk (σ := Nat) (fun i => i ≤ l.length) (fun i => [⟨11, 0, [], .int .i64 (i : Nat)⟩]) [2, 3, 4, 9, 10] (fun i => [.mp (mE boE (keysF (ownK (l.take i)))), .mp (mE boE (keysF (allK (l.take i))))]) (fun i => l.length - i) 0 (by first | trivial | omega | simp) (fun _ => (Nat.zero_le _)) byC (fun i hI1 => ?_)
  simp only [go_sem]
  have hK : i < l.length → keysF (allK (l.take (i + 1))) = aSet (keysF (allK (l.take i))) (l.getD i default).folder true := fun hi => by
    rw [take_snoc (d := default) hi, allK, List.map_append]; exact keysF_snoc _ _
  have hO : i < l.length → keysF (ownK (l.take (i + 1))) = if (l.getD i default).right = 3 then aSet (keysF (ownK (l.take i))) (l.getD i default).folder true else keysF (ownK (l.take i)) := fun hi => by
    rw [take_snoc (d := default) hi, ownK, List.filter_append]
    by_cases h : (l.getD i default).right = 3
    · rw [if_pos h, List.filter_cons_of_pos (by simpa using h), List.filter_nil, List.map_append]; exact keysF_snoc _ _
    · rw [if_neg h, List.filter_cons_of_neg (by simpa using h), List.filter_nil, List.append_nil]; rfl
  refine cx_sr ?_
  simp only [go_sem]
  repeat first | (with_reducible refine side_d ?_ ?_; exact byD) | (with_reducible refine side_q ?_ ?_; exact byQ)
  intro t12 e12
  repeat first | (with_reducible refine side_d ?_ ?_; exact byD) | (with_reducible refine side_q ?_ ?_; exact byQ)
  subst e12
  refine cx_seq ?_
  refine cx_if _ rfl (fun h12 => ?_) (fun h12 => ?_)
  ·
    (try simp only [go_sem] at h12)
    refine cx_skip ?_
    (try simp only [go_sem])
    refine cx_seq (cx_block ?_)
    refine cx_sr ?_
    simp only [go_sem]
    repeat first | (with_reducible refine side_d ?_ ?_; exact byD) | (with_reducible refine side_q ?_ ?_; exact byQ)
    refine cx_sr ?_
    simp only [go_sem]
    repeat first | (with_reducible refine side_d ?_ ?_; exact byD) | (with_reducible refine side_q ?_ ?_; exact byQ)
    refine cx_sr ?_
    simp only [go_sem]
    repeat first | (with_reducible refine side_d ?_ ?_; exact byD) | (with_reducible refine side_q ?_ ?_; exact byQ)
    intro t20 e20
    repeat first | (with_reducible refine side_d ?_ ?_; exact byD) | (with_reducible refine side_q ?_ ?_; exact byQ)
    subst e20
    refine cx_if _ rfl (fun h20 => ?_) (fun h20 => ?_)
    ·
      (try simp only [go_sem] at h20)
      refine cx_region ?_
      simp only [go_sem]
      repeat first | (with_reducible refine side_d ?_ ?_; exact byD) | (with_reducible refine side_q ?_ ?_; exact byQ)
      refine cx_region ?_
      simp only [go_sem]
      repeat first | (with_reducible refine side_d ?_ ?_; exact byD) | (with_reducible refine side_q ?_ ?_; exact byQ)
      intro t24 e24
      (try replace e24 := w64 e24 (by omega) (by omega))
      repeat first | (with_reducible refine side_d ?_ ?_; exact byD) | (with_reducible refine side_q ?_ ?_; exact byQ)
      refine rnd_next (i + 1) (by omega) (by first | omega | (dsimp only; omega)) ?_
      rw [hK (by omega), hO (by omega), if_pos h20]
      exact byC
    ·
      (try simp only [go_sem] at h20)
      refine cx_skip ?_
      (try simp only [go_sem])
      refine cx_region ?_
      simp only [go_sem]
      repeat first | (with_reducible refine side_d ?_ ?_; exact byD) | (with_reducible refine side_q ?_ ?_; exact byQ)
      intro t24 e24
      (try replace e24 := w64 e24 (by omega) (by omega))
      repeat first | (with_reducible refine side_d ?_ ?_; exact byD) | (with_reducible refine side_q ?_ ?_; exact byQ)
      refine rnd_next (i + 1) (by omega) (by first | omega | (dsimp only; omega)) ?_
      rw [hK (by omega), hO (by omega), if_neg h20]
      exact byC
  ·
    (try simp only [go_sem] at h12)
    refine cx_exit ?_
    simp only [go_sem]
    refine cx_sr ?_
    simp only [go_sem]
    repeat first | (with_reducible refine side_d ?_ ?_; exact byD) | (with_reducible refine side_q ?_ ?_; exact byQ)
    intro t29 e29
    repeat first | (with_reducible refine side_d ?_ ?_; exact byD) | (with_reducible refine side_q ?_ ?_; exact byQ)
    subst e29
    refine cx_ret ?_
    simp only [go_sem]
    refine finw_bool ?_
    rw [List.take_of_length_le (by omega), ← owned_keys]
    simp only [Int.natCast_inj]
    rfl
end Go.VM.Try
end
section
set_option linter.unusedVariables false
set_option linter.unusedSimpArgs false
open Go Go.VM Go.Proofs Tether
namespace Go.VM.Try
set_option maxRecDepth 100000
set_option maxHeartbeats 1000000
theorem checkG_c (l : List Grant) (hl : okG l) : Meets Try.prog 33 [gsV l] (.int .i64 (checkG l)) [] := by
  refine meets_x (fn := Try.f33) Try.func33 rfl fb33 (by kernel_rfl) (Nat.le_of_ble_eq_true rfl) ?_
  have hln := hl.len
  refine cx_sr ?_
  simp only [go_sem]
  repeat first | (with_reducible refine side_d ?_ ?_; exact byD) | (with_reducible refine side_q ?_ ?_; exact byQ)
  refine cx_seq ?_
  refine cx_sr ?_
  simp only [go_sem]
  repeat first | (with_reducible refine side_d ?_ ?_; exact byD) | (with_reducible refine side_q ?_ ?_; exact byQ)
  intro t8 e8
  repeat first | (with_reducible refine side_d ?_ ?_; exact byD) | (with_reducible refine side_q ?_ ?_; exact byQ)
  subst e8
  refine cx_if _ rfl (fun h8 => ?_) (fun h8 => ?_)
  ·
    (try simp only [go_sem] at h8)
    refine cx_sr ?_
    simp only [go_sem]
    repeat first | (with_reducible refine side_d ?_ ?_; exact byD) | (with_reducible refine side_q ?_ ?_; exact byQ)
    refine cx_ret ?_
    simp only [go_sem]
    refine finw_int ?_
    simp [checkG, h8]
  ·
    (try simp only [go_sem] at h8)
    refine cx_skip ?_
    (try simp only [go_sem])
    refine cx_seq ?_
    refine cx_sr ?_
    simp only [go_sem]
    repeat first | (with_reducible refine side_d ?_ ?_; exact byD) | (with_reducible refine side_q ?_ ?_; exact byQ)
    refine cx_block ?_
    refine cx_loop0 (σ := Nat) (fun i => i ≤ l.length ∧ ∀ j, j < i → gErr (l.getD j default) = 0) (fun i => [⟨11, 0, [], .int .i64 (i : Nat)⟩]) [0, 9, 10] (fun i => l.length - i) 0 ⟨Nat.zero_le _, fun j hj => absurd hj (Nat.not_lt_zero j)⟩ (Nat.zero_le _) byC (fun i hI1 => ?_)
    simp only [go_sem]
    refine cx_sr ?_
    simp only [go_sem]
    repeat first | (with_reducible refine side_d ?_ ?_; exact byD) | (with_reducible refine side_q ?_ ?_; exact byQ)
    intro t12 e12
    repeat first | (with_reducible refine side_d ?_ ?_; exact byD) | (with_reducible refine side_q ?_ ?_; exact byQ)
    subst e12
    refine cx_seq ?_
    refine cx_if _ rfl (fun h12 => ?_) (fun h12 => ?_)
    ·
      (try simp only [go_sem] at h12)
      have hm := hl.2 _ (getD_mem (l := l) (d := default) (show i < l.length by omega))
      refine cx_skip ?_
      (try simp only [go_sem])
      refine cx_seq (cx_block ?_)
      refine cx_sr ?_
      simp only [go_sem]
      repeat first | (with_reducible refine side_d ?_ ?_; exact byD) | (with_reducible refine side_q ?_ ?_; exact byQ)
      refine cx_block ?_
      refine cx_sr ?_
      simp only [go_sem]
      repeat first | (with_reducible refine side_d ?_ ?_; exact byD) | (with_reducible refine side_q ?_ ?_; exact byQ)
      refine cw_v 2 (names_c [(l.getD i default).folder, (l.getD i default).who] (by simp) (by intro s hs; rcases List.mem_cons.1 hs with rfl | hs; exact hm.1; rcases List.mem_singleton.1 hs with rfl; exact hm.2)) byV byC rfl ?_
      simp only [go_sem]
      repeat first | (with_reducible refine side_d ?_ ?_; exact byD) | (with_reducible refine side_q ?_ ?_; exact byQ)
      intro t22 e22
      repeat first | (with_reducible refine side_d ?_ ?_; exact byD) | (with_reducible refine side_q ?_ ?_; exact byQ)
      subst e22
      refine cx_if _ rfl (fun h15 => ?_) (fun h15 => ?_)
      ·
        (try simp only [go_sem] at h15)
        refine cx_sr ?_
        simp only [go_sem]
        repeat first | (with_reducible refine side_d ?_ ?_; exact byD) | (with_reducible refine side_q ?_ ?_; exact byQ)
        refine cx_ret ?_
        simp only [go_sem]
        refine finw_int ?_
        have hg : gErr (l.getD i default) = 1 := by rw [gErr, if_pos (by simpa using h15)]
        have hf := firstErr_at (f := gErr) (l := l) (d := default) (i := i) (by omega) hI1.2 (by rw [hg]; decide)
        rw [checkG, if_neg h8, hf, hg, if_pos (by decide)]
      ·
        (try simp only [go_sem] at h15)
        refine cx_sr ?_
        simp only [go_sem]
        repeat first | (with_reducible refine side_d ?_ ?_; exact byD) | (with_reducible refine side_q ?_ ?_; exact byQ)
        intro t26 e26
        repeat first | (with_reducible refine side_d ?_ ?_; exact byD) | (with_reducible refine side_q ?_ ?_; exact byQ)
        intro t30 e30
        repeat first | (with_reducible refine side_d ?_ ?_; exact byD) | (with_reducible refine side_q ?_ ?_; exact byQ)
        intro t31 e31
        rw [bsel_or] at e31
        repeat first | (with_reducible refine side_d ?_ ?_; exact byD) | (with_reducible refine side_q ?_ ?_; exact byQ)
        subst e26 e30 e31
        refine cx_if _ rfl (fun h23 => ?_) (fun h23 => ?_)
        ·
          (try simp only [go_sem] at h23)
          refine cx_sr ?_
          simp only [go_sem]
          repeat first | (with_reducible refine side_d ?_ ?_; exact byD) | (with_reducible refine side_q ?_ ?_; exact byQ)
          refine cx_ret ?_
          simp only [go_sem]
          refine finw_int ?_
          have hg : gErr (l.getD i default) = 3 := by rw [gErr, if_neg (by simpa using h15), if_pos (by omega)]
          have hf := firstErr_at (f := gErr) (l := l) (d := default) (i := i) (by omega) hI1.2 (by rw [hg]; decide)
          rw [checkG, if_neg h8, hf, hg, if_pos (by decide)]
        ·
          (try simp only [go_sem] at h23)
          refine cx_skip ?_
          (try simp only [go_sem])
          refine cx_region ?_
          simp only [go_sem]
          repeat first | (with_reducible refine side_d ?_ ?_; exact byD) | (with_reducible refine side_q ?_ ?_; exact byQ)
          intro t32 e32
          (try replace e32 := w64 e32 (by omega) (by omega))
          repeat first | (with_reducible refine side_d ?_ ?_; exact byD) | (with_reducible refine side_q ?_ ?_; exact byQ)
          have hg : gErr (l.getD i default) = 0 := by
            rw [gErr, if_neg (by simpa using h15), if_neg (by omega)]
          refine rnd_next (i + 1) ⟨by omega, all_next hI1.2 hg⟩ (by first | omega | (dsimp only; omega)) byC
    ·
      (try simp only [go_sem] at h12)
      have hf := firstErr_none (f := gErr) (l := l) (d := default) fun j hj => hI1.2 j (by omega)
      refine cx_exit ?_
      simp only [go_sem]
      refine cx_seq ?_
      refine cx_sr ?_
      simp only [go_sem]
      repeat first | (with_reducible refine side_d ?_ ?_; exact byD) | (with_reducible refine side_q ?_ ?_; exact byQ)
      refine cx_block ?_
      refine cx_loop0 (σ := Nat) (fun i => 1 ≤ i ∧ (i = 1 ∨ i ≤ l.length) ∧ ∀ j, 1 ≤ j → j < i → risesG l j = true) (fun i => [⟨5, 0, [], .int .i64 (i : Nat)⟩]) [0] (fun i => l.length - i) 1 ⟨Nat.le_refl _, .inl rfl, fun j hj hj' => by omega⟩ (Nat.zero_le _) byC (fun i hI2 => ?_)
      simp only [go_sem]
      refine cx_seq ?_
      refine cx_sr ?_
      simp only [go_sem]
      repeat first | (with_reducible refine side_d ?_ ?_; exact byD) | (with_reducible refine side_q ?_ ?_; exact byQ)
      intro t36 e36
      repeat first | (with_reducible refine side_d ?_ ?_; exact byD) | (with_reducible refine side_q ?_ ?_; exact byQ)
      subst e36
      refine cx_if _ rfl (fun h36 => ?_) (fun h36 => ?_)
      ·
        (try simp only [go_sem] at h36)
        refine cx_skip ?_
        (try simp only [go_sem])
        refine cx_seq (cx_block ?_)
        refine cx_seq (cx_draw mixed [] (.first 0 (.first 1 (.first 2 (.first 3 (.first 4 (.first 5 (.first 6 (.first 7 (.first 8 (.one 9 (.first 10 (.done)))))))))))) (by kernel_rfl) ?_)
        simp only [go_sem]
        repeat first | (with_reducible refine side_d ?_ ?_; exact byD) | (with_reducible refine side_q ?_ ?_; exact byQ)
        intro t41 e41
        (try replace e41 := w64 e41 (by omega) (by omega))
        repeat first | (with_reducible refine side_d ?_ ?_; exact byD) | (with_reducible refine side_q ?_ ?_; exact byQ)
        refine cwE_m (order_c (l.getD t41.toNat default) (l.getD i default)) byW byT ?_
        simp only [go_sem]
        repeat first | (with_reducible refine side_d ?_ ?_; exact byD) | (with_reducible refine side_q ?_ ?_; exact byQ)
        intro t49 e49
        repeat first | (with_reducible refine side_d ?_ ?_; exact byD) | (with_reducible refine side_q ?_ ?_; exact byQ)
        subst e49
        refine cx_if _ rfl (fun h49 => ?_) (fun h49 => ?_)
        ·
          (try simp only [go_sem] at h49)
          refine cx_sr ?_
          simp only [go_sem]
          repeat first | (with_reducible refine side_d ?_ ?_; exact byD) | (with_reducible refine side_q ?_ ?_; exact byQ)
          refine cx_ret ?_
          simp only [go_sem]
          refine finw_int ?_
          have hk : ((i : Int) - 1).toNat = i - 1 := by omega
          subst e41
          rw [hk] at h49
          have hr : ((List.range l.length).all fun i => i = 0 || risesG l i) = false := range_all_false (i := i) (by omega) (by
            have : ¬ i = 0 := by omega
            simp only [this, decide_false, Bool.false_or, risesG, decide_eq_false_iff_not]; omega)
          rw [checkG, if_neg h8, hf, if_neg (by simp), hr, if_pos rfl]
        ·
          (try simp only [go_sem] at h49)
          refine cx_skip ?_
          (try simp only [go_sem])
          refine cx_region ?_
          simp only [go_sem]
          repeat first | (with_reducible refine side_d ?_ ?_; exact byD) | (with_reducible refine side_q ?_ ?_; exact byQ)
          intro t38 e38
          (try replace e38 := w64 e38 (by omega) (by omega))
          repeat first | (with_reducible refine side_d ?_ ?_; exact byD) | (with_reducible refine side_q ?_ ?_; exact byQ)
          have hk : ((i : Int) - 1).toNat = i - 1 := by omega
          subst e41
          rw [hk] at h49
          refine rnd_next (i + 1) ⟨by omega, by omega, fun j h1 hj => ?_⟩ (by first | omega | (dsimp only; omega)) byC
          exact all_next (p := fun j => 1 ≤ j → risesG l j = true) (fun j hj h1 => hI2.2.2 j h1 hj) (fun _ => by simp only [risesG, decide_eq_true_eq]; omega) j hj h1
      ·
        (try simp only [go_sem] at h36)
        have hr : ((List.range l.length).all fun i => i = 0 || risesG l i) = true := range_all_true fun j hj => by
          by_cases h0 : j = 0
          · simp [h0]
          · simp [hI2.2.2 j (by omega) (by omega)]
        refine cx_exit ?_
        simp only [go_sem]
        refine cx_seq ?_
        refine cx_sr ?_
        simp only [go_sem]
        repeat first | (with_reducible refine side_d ?_ ?_; exact byD) | (with_reducible refine side_q ?_ ?_; exact byQ)
        refine cw_m (owned_c l hln) byW byT ?_
        simp only [go_sem]
        repeat first | (with_reducible refine side_d ?_ ?_; exact byD) | (with_reducible refine side_q ?_ ?_; exact byQ)
        intro t52 e52
        repeat first | (with_reducible refine side_d ?_ ?_; exact byD) | (with_reducible refine side_q ?_ ?_; exact byQ)
        subst e52
        refine cx_if _ rfl (fun h52 => ?_) (fun h52 => ?_)
        ·
          (try simp only [go_sem] at h52)
          refine cx_sr ?_
          simp only [go_sem]
          repeat first | (with_reducible refine side_d ?_ ?_; exact byD) | (with_reducible refine side_q ?_ ?_; exact byQ)
          refine cx_ret ?_
          simp only [go_sem]
          refine finw_int ?_
          rw [checkG, if_neg h8, hf, if_neg (by simp), hr, if_neg (by simp), if_pos h52]
        ·
          (try simp only [go_sem] at h52)
          refine cx_skip ?_
          (try simp only [go_sem])
          refine cx_sr ?_
          simp only [go_sem]
          repeat first | (with_reducible refine side_d ?_ ?_; exact byD) | (with_reducible refine side_q ?_ ?_; exact byQ)
          refine cx_ret ?_
          simp only [go_sem]
          refine finw_int ?_
          rw [checkG, if_neg h8, hf, if_neg (by simp), hr, if_neg (by simp), if_neg (by simpa using h52)]
end Go.VM.Try
end
section
set_option linter.unusedVariables false
set_option linter.unusedSimpArgs false
open Go Go.VM Go.Proofs Tether
namespace Go.VM.Try
set_option maxRecDepth 100000
set_option maxHeartbeats 1000000
theorem set_c (l : List Grant) (h60 : l.length ≤ 60) (hs : SortedG l) (f w : Str) (r : Int) (hr : r = 0 → hasG l f w = true) : Meets Try.prog 59 [gsV l, .str f, .str w, .int .i64 r] (gsV (putG l f w r)) [] := by
  refine meets_x (fn := Try.f59) Try.func59 rfl fb59 (by kernel_rfl) (Nat.le_of_ble_eq_true rfl) ?_
  have hk := gIx_le l f w
  have hh : hasG l f w = true → gIx l f w < l.length ∧ order (l.getD (gIx l f w) default) ⟨f, w, 0⟩ = 0 := fun h => by simpa [hasG] using h
  refine cx_sr ?_
  simp only [go_sem]
  repeat first | (with_reducible refine side_d ?_ ?_; exact byD) | (with_reducible refine side_q ?_ ?_; exact byQ)
  refine cx_sr ?_
  simp only [go_sem]
  repeat first | (with_reducible refine side_d ?_ ?_; exact byD) | (with_reducible refine side_q ?_ ?_; exact byQ)
  refine cw_m (Clone_Grant l (by omega)) byW byT ?_
  simp only [go_sem]
  repeat first | (with_reducible refine side_d ?_ ?_; exact byD) | (with_reducible refine side_q ?_ ?_; exact byQ)
  refine cx_sr ?_
  simp only [go_sem]
  repeat first | (with_reducible refine side_d ?_ ?_; exact byD) | (with_reducible refine side_q ?_ ?_; exact byQ)
  refine cw_v 2 (find_c l (by omega) hs f w) byV byC rfl ?_
  simp only [go_sem]
  repeat first | (with_reducible refine side_d ?_ ?_; exact byD) | (with_reducible refine side_q ?_ ?_; exact byQ)
  refine cx_seq (cx_block ?_)
  refine cx_sr ?_
  simp only [go_sem]
  repeat first | (with_reducible refine side_d ?_ ?_; exact byD) | (with_reducible refine side_q ?_ ?_; exact byQ)
  intro t22 e22
  repeat first | (with_reducible refine side_d ?_ ?_; exact byD) | (with_reducible refine side_q ?_ ?_; exact byQ)
  subst e22
  refine cx_if _ rfl (fun h20 => ?_) (fun h20 => ?_)
  ·
    (try simp only [go_sem] at h20)
    have hh0 := hh (hr h20)
    have hput : putG l f w r = l.take (gIx l f w) ++ l.drop (gIx l f w + 1) := by
      rw [putG, if_pos h20, hr h20, if_pos rfl, List.append_nil]
    refine cx_sr ?_
    simp only [go_sem]
    repeat first | (with_reducible refine side_d ?_ ?_; exact byD) | (with_reducible refine side_q ?_ ?_; exact byQ)
    intro t26 e26
    (try replace e26 := w64 e26 (by omega) (by omega))
    repeat first | (with_reducible refine side_d ?_ ?_; exact byD) | (with_reducible refine side_q ?_ ?_; exact byQ)
    refine cw_does (Delete_Grant l (gIx l f w) (gIx l f w + 1) (by omega) (by omega) (by omega)) [0] rfl byC byC ?_
    simp only [go_sem]
    repeat first | (with_reducible refine side_d ?_ ?_; exact byD) | (with_reducible refine side_q ?_ ?_; exact byQ)
    refine cx_ret ?_
    simp only [go_sem]
    rw [hput]
    exact finx_of 1 [] rfl byC byC byC byC
  ·
    (try simp only [go_sem] at h20)
    refine cx_sr ?_
    simp only [go_sem]
    repeat first | (with_reducible refine side_d ?_ ?_; exact byD) | (with_reducible refine side_q ?_ ?_; exact byQ)
    refine cx_if _ rfl (fun h28 => ?_) (fun h28 => ?_)
    ·
      (try simp only [go_sem] at h28)
      have hh0 := hh h28
      have hsm := order_eq.1 hh0.2
      have hs1 : (l.getD (gIx l f w) default).folder = f := hsm.1
      have hs2 : (l.getD (gIx l f w) default).who = w := hsm.2
      have hput : putG l f w r = l.set (gIx l f w) ⟨f, w, r⟩ := by
        rw [putG, if_neg h20, h28, if_pos rfl, List.set_eq_take_append_cons_drop, if_pos hh0.1]; simp
      refine cx_sr ?_
      simp only [go_sem]
      repeat first | (with_reducible refine side_d ?_ ?_; exact byD) | (with_reducible refine side_q ?_ ?_; exact byQ)
      refine cx_sr ?_
      simp only [go_sem]
      repeat first | (with_reducible refine side_d ?_ ?_; exact byD) | (with_reducible refine side_q ?_ ?_; exact byQ)
      refine cx_ret ?_
      simp only [go_sem]
      rw [hput]
      refine finx_w (.own none 0 3 0 (l.set (gIx l f w) ⟨f, w, r⟩).length .loose) [.arr 3 (l.set (gIx l f w) ⟨f, w, r⟩).length (En Grant.enc default (l.set (gIx l f w) ⟨f, w, r⟩))] ?_ ?_ ?_
      · simp only [go_sem, wk, List.length_set]
      · simp only [go_sem, wkB, wkH, List.length_set]
        exact fun i hi => wks_stF hh0.1 (by simp only [go_sem, hs1, hs2]) i
      · exact finx_of 1 [] rfl byC byC byC byC
    ·
      (try simp only [go_sem] at h28)
      have hput : putG l f w r = l.take (gIx l f w) ++ ⟨f, w, r⟩ :: l.drop (gIx l f w) := by
        rw [putG, if_neg h20, if_neg (by simp [h28])]; simp
      refine cx_skip ?_
      (try simp only [go_sem])
      refine cx_sr ?_
      simp only [go_sem]
      repeat first | (with_reducible refine side_d ?_ ?_; exact byD) | (with_reducible refine side_q ?_ ?_; exact byQ)
      refine cw_does (Insert_Grant l (gIx l f w) ⟨f, w, r⟩ hk (by omega)) [0, 1] rfl byC byC ?_
      simp only [go_sem]
      repeat first | (with_reducible refine side_d ?_ ?_; exact byD) | (with_reducible refine side_q ?_ ?_; exact byQ)
      refine cx_ret ?_
      simp only [go_sem]
      rw [hput]
      exact finx_of 1 [] rfl byC byC byC byC
end Go.VM.Try
end
section
set_option linter.unusedVariables false
set_option linter.unusedSimpArgs false
open Go Go.VM Go.Proofs Tether
namespace Go.VM.Try
set_option maxRecDepth 100000
set_option maxHeartbeats 1000000
theorem Give1_c (f : Str) (g : Grant) : Meets Try.prog 61 [.agg g.enc, .iptr [.str f] 0] (.bool (decide (g.folder = f) && decide (g.right = 3))) [] := by
  refine meets_x (fn := Try.f61) Try.func61 rfl fb61 (by kernel_rfl) (Nat.le_of_ble_eq_true rfl) ?_
  refine cx_sr ?_
  simp only [go_sem]
  repeat first | (with_reducible refine side_d ?_ ?_; exact byD) | (with_reducible refine side_q ?_ ?_; exact byQ)
  refine cx_sr ?_
  simp only [go_sem]
  repeat first | (with_reducible refine side_d ?_ ?_; exact byD) | (with_reducible refine side_q ?_ ?_; exact byQ)
  intro t7 e7
  repeat first | (with_reducible refine side_d ?_ ?_; exact byD) | (with_reducible refine side_q ?_ ?_; exact byQ)
  intro t11 e11
  repeat first | (with_reducible refine side_d ?_ ?_; exact byD) | (with_reducible refine side_q ?_ ?_; exact byQ)
  intro t12 e12
  rw [bsel_and] at e12
  repeat first | (with_reducible refine side_d ?_ ?_; exact byD) | (with_reducible refine side_q ?_ ?_; exact byQ)
  subst e7 e11 e12
  refine cx_ret ?_
  simp only [go_sem]
  refine finw_bool ?_
  simp
theorem Make1_c (f : Str) (g : Grant) : Meets Try.prog 64 [.agg g.enc, .iptr [.str f] 0] (.bool (decide (g.folder = f))) [] := by
  refine meets_x (fn := Try.f64) Try.func64 rfl fb64 (by kernel_rfl) (Nat.le_of_ble_eq_true rfl) ?_
  refine cx_sr ?_
  simp only [go_sem]
  repeat first | (with_reducible refine side_d ?_ ?_; exact byD) | (with_reducible refine side_q ?_ ?_; exact byQ)
  refine cx_sr ?_
  simp only [go_sem]
  repeat first | (with_reducible refine side_d ?_ ?_; exact byD) | (with_reducible refine side_q ?_ ?_; exact byQ)
  intro t7 e7
  repeat first | (with_reducible refine side_d ?_ ?_; exact byD) | (with_reducible refine side_q ?_ ?_; exact byQ)
  subst e7
  refine cx_ret ?_
  simp only [go_sem]
  exact finw_bool rfl
theorem ins_len {l : List Grant} {f w : Str} {r : Int} : (putG l f w r).length ≤ l.length + 1 := by
  unfold putG
  have := gIx_le l f w
  simp only [List.length_append, List.length_take, List.length_drop]
  split <;> split <;> simp <;> omega
def rightE (l : List Grant) (f w : Str) : Int × Int :=
  if ¬ checkG l = 0 then (0, checkG l) else if (isName f && isName w) = false then (0, 1) else (rightG l f w, 0)
theorem Right_c (l : List Grant) (hl : okG l) (f w : Str) (hf : f.length < 4611686018427387904) (hw : w.length < 4611686018427387904) :
    Meets Try.prog 40 [gsV l, .str f, .str w] (.tup [.int .i64 (rightE l f w).1, .int .i64 (rightE l f w).2]) [] := by
  refine meets_x (fn := Try.f40) Try.func40 rfl fb40 (by kernel_rfl) (Nat.le_of_ble_eq_true rfl) ?_
  refine cx_sr ?_
  simp only [go_sem]
  repeat first | (with_reducible refine side_d ?_ ?_; exact byD) | (with_reducible refine side_q ?_ ?_; exact byQ)
  refine cx_seq ?_
  refine cx_sr ?_
  simp only [go_sem]
  repeat first | (with_reducible refine side_d ?_ ?_; exact byD) | (with_reducible refine side_q ?_ ?_; exact byQ)
  refine cw_m (checkG_c l hl) byW byT ?_
  simp only [go_sem]
  repeat first | (with_reducible refine side_d ?_ ?_; exact byD) | (with_reducible refine side_q ?_ ?_; exact byQ)
  refine cx_sr ?_
  simp only [go_sem]
  repeat first | (with_reducible refine side_d ?_ ?_; exact byD) | (with_reducible refine side_q ?_ ?_; exact byQ)
  intro t12 e12
  repeat first | (with_reducible refine side_d ?_ ?_; exact byD) | (with_reducible refine side_q ?_ ?_; exact byQ)
  subst e12
  refine cx_if _ rfl (fun h12 => ?_) (fun h12 => ?_)
  ·
    (try simp only [go_sem] at h12)
    refine cx_sr ?_
    simp only [go_sem]
    repeat first | (with_reducible refine side_d ?_ ?_; exact byD) | (with_reducible refine side_q ?_ ?_; exact byQ)
    refine cx_ret ?_
    simp only [go_sem]
    rw [rightE, if_pos h12]
    exact finx_of 1 [] rfl byC byC byC byC
  ·
    (try simp only [go_sem] at h12)
    have hg := checkG_iff.1 h12
    refine cx_skip ?_
    (try simp only [go_sem])
    refine cx_seq ?_
    refine cx_sr ?_
    simp only [go_sem]
    repeat first | (with_reducible refine side_d ?_ ?_; exact byD) | (with_reducible refine side_q ?_ ?_; exact byQ)
    refine cw_v 2 (names_c [f, w] (by simp) (by intro s hs; rcases List.mem_cons.1 hs with rfl | hs; exact hf; rcases List.mem_singleton.1 hs with rfl; exact hw)) byV byC rfl ?_
    simp only [go_sem]
    repeat first | (with_reducible refine side_d ?_ ?_; exact byD) | (with_reducible refine side_q ?_ ?_; exact byQ)
    intro t18 e18
    repeat first | (with_reducible refine side_d ?_ ?_; exact byD) | (with_reducible refine side_q ?_ ?_; exact byQ)
    subst e18
    refine cx_if _ rfl (fun h18 => ?_) (fun h18 => ?_)
    ·
      (try simp only [go_sem] at h18)
      refine cx_sr ?_
      simp only [go_sem]
      repeat first | (with_reducible refine side_d ?_ ?_; exact byD) | (with_reducible refine side_q ?_ ?_; exact byQ)
      refine cx_ret ?_
      simp only [go_sem]
      rw [rightE, if_neg (by simpa using h12), if_pos (by simpa using h18)]
      exact finx_of 1 [] rfl byC byC byC byC
    ·
      (try simp only [go_sem] at h18)
      refine cx_skip ?_
      (try simp only [go_sem])
      refine cx_sr ?_
      simp only [go_sem]
      repeat first | (with_reducible refine side_d ?_ ?_; exact byD) | (with_reducible refine side_q ?_ ?_; exact byQ)
      refine cw_m (Of_c l hl.len hg.rise f w) byW byT ?_
      simp only [go_sem]
      repeat first | (with_reducible refine side_d ?_ ?_; exact byD) | (with_reducible refine side_q ?_ ?_; exact byQ)
      refine cx_ret ?_
      simp only [go_sem]
      rw [rightE, if_neg (by simpa using h12), if_neg (by simpa using h18)]
      exact finx_of 1 [] rfl byC byC byC byC
def whoE (l : List Grant) (f : Str) : List Str × Int :=
  if ¬ checkG l = 0 then ([], checkG l) else if isName f = false then ([], 1) else (whoG l f, 0)
theorem whoG_T {l : List Grant} {f : Str} {i : Nat} (hi : i < l.length) (h : (l.getD i default).folder = f) : whoG (l.take (i + 1)) f = whoG (l.take i) f ++ [(l.getD i default).who] := by
  rw [take_snoc (d := default) hi, whoG, List.filter_append, List.filter_cons_of_pos (by simpa using h), List.filter_nil, List.map_append]; rfl
theorem whoG_F {l : List Grant} {f : Str} {i : Nat} (hi : i < l.length) (h : ¬ (l.getD i default).folder = f) : whoG (l.take (i + 1)) f = whoG (l.take i) f := by
  rw [take_snoc (d := default) hi, whoG, List.filter_append, List.filter_cons_of_neg (by simpa using h), List.filter_nil, List.append_nil]; rfl
theorem whoG_len (l : List Grant) (f : Str) : (whoG l f).length ≤ l.length := by
  unfold whoG; rw [List.length_map]; exact List.length_filter_le _ _
theorem Who_c (l : List Grant) (hl : okG l) (f : Str) (hf : f.length < 4611686018427387904) :
    Meets Try.prog 41 [gsV l, .str f] (.tup [strsV (whoE l f).1, .int .i64 (whoE l f).2]) [] := by
  refine meets_x (fn := Try.f41) Try.func41 rfl fb41 (by kernel_rfl) (Nat.le_of_ble_eq_true rfl) ?_
  refine cx_sr ?_
  simp only [go_sem]
  repeat first | (with_reducible refine side_d ?_ ?_; exact byD) | (with_reducible refine side_q ?_ ?_; exact byQ)
  refine cx_seq ?_
  refine cx_sr ?_
  simp only [go_sem]
  repeat first | (with_reducible refine side_d ?_ ?_; exact byD) | (with_reducible refine side_q ?_ ?_; exact byQ)
  refine cw_m (checkG_c l hl) byW byT ?_
  simp only [go_sem]
  repeat first | (with_reducible refine side_d ?_ ?_; exact byD) | (with_reducible refine side_q ?_ ?_; exact byQ)
  refine cx_sr ?_
  simp only [go_sem]
  repeat first | (with_reducible refine side_d ?_ ?_; exact byD) | (with_reducible refine side_q ?_ ?_; exact byQ)
  intro t13 e13
  repeat first | (with_reducible refine side_d ?_ ?_; exact byD) | (with_reducible refine side_q ?_ ?_; exact byQ)
  subst e13
  refine cx_if _ rfl (fun h13 => ?_) (fun h13 => ?_)
  ·
    (try simp only [go_sem] at h13)
    refine cx_sr ?_
    simp only [go_sem]
    repeat first | (with_reducible refine side_d ?_ ?_; exact byD) | (with_reducible refine side_q ?_ ?_; exact byQ)
    refine cx_ret ?_
    simp only [go_sem]
    rw [whoE, if_pos h13]
    exact finx_of 1 [] rfl byC byC byC byC
  ·
    (try simp only [go_sem] at h13)
    have hg := checkG_iff.1 h13
    have h60 := hg.len
    refine cx_skip ?_
    (try simp only [go_sem])
    refine cx_seq ?_
    refine cx_sr ?_
    simp only [go_sem]
    repeat first | (with_reducible refine side_d ?_ ?_; exact byD) | (with_reducible refine side_q ?_ ?_; exact byQ)
    refine cw_v 2 (names_c [f] (by simp) (by intro s hs; rcases List.mem_singleton.1 hs with rfl; exact hf)) byV byC rfl ?_
    simp only [go_sem]
    repeat first | (with_reducible refine side_d ?_ ?_; exact byD) | (with_reducible refine side_q ?_ ?_; exact byQ)
    intro t18 e18
    repeat first | (with_reducible refine side_d ?_ ?_; exact byD) | (with_reducible refine side_q ?_ ?_; exact byQ)
    subst e18
    refine cx_if _ rfl (fun h18 => ?_) (fun h18 => ?_)
    ·
      (try simp only [go_sem] at h18)
      refine cx_sr ?_
      simp only [go_sem]
      repeat first | (with_reducible refine side_d ?_ ?_; exact byD) | (with_reducible refine side_q ?_ ?_; exact byQ)
      refine cx_ret ?_
      simp only [go_sem]
      rw [whoE, if_neg (by simpa using h13), if_pos (by simpa using h18)]
      exact finx_of 1 [] rfl byC byC byC byC
    ·
      (try simp only [go_sem] at h18)
      refine cx_skip ?_
      (try simp only [go_sem])
      refine cx_sr ?_
      simp only [go_sem]
      repeat first | (with_reducible refine side_d ?_ ?_; exact byD) | (with_reducible refine side_q ?_ ?_; exact byQ)
      refine cx_virt 7 1 (En strE [] []) rfl ?_
      refine cx_seq ?_
      refine cx_sr ?_
      simp only [go_sem]
      repeat first | (with_reducible refine side_d ?_ ?_; exact byD) | (with_reducible refine side_q ?_ ?_; exact byQ)
      refine cx_block ?_
      refine cx_loopk (σ := Nat) (fun i => i ≤ l.length) (fun i => [⟨21, 0, [], .int .i64 (i : Nat)⟩, ⟨7, 0, [], .own none 1 1 0 (whoG (l.take i) f).length .loose⟩]) [1, 4, 5, 19, 20] (fun i => [.dead, .arr 1 (whoG (l.take i) f).length (En strE [] (whoG (l.take i) f))]) (fun i => l.length - i) 0 (by first | trivial | omega | simp) (fun _ => (Nat.zero_le _)) byC (fun i hI1 => ?_)
      simp only [go_sem]
      have hwl := whoG_len (l.take i) f
      have hwl2 : (l.take i).length ≤ i := by simp; omega
      refine cx_sr ?_
      simp only [go_sem]
      repeat first | (with_reducible refine side_d ?_ ?_; exact byD) | (with_reducible refine side_q ?_ ?_; exact byQ)
      intro t22 e22
      repeat first | (with_reducible refine side_d ?_ ?_; exact byD) | (with_reducible refine side_q ?_ ?_; exact byQ)
      subst e22
      refine cx_seq ?_
      refine cx_if _ rfl (fun h22 => ?_) (fun h22 => ?_)
      ·
        (try simp only [go_sem] at h22)
        refine cx_skip ?_
        (try simp only [go_sem])
        refine cx_seq (cx_block ?_)
        refine cx_sr ?_
        simp only [go_sem]
        repeat first | (with_reducible refine side_d ?_ ?_; exact byD) | (with_reducible refine side_q ?_ ?_; exact byQ)
        refine cx_sr ?_
        simp only [go_sem]
        repeat first | (with_reducible refine side_d ?_ ?_; exact byD) | (with_reducible refine side_q ?_ ?_; exact byQ)
        intro t28 e28
        repeat first | (with_reducible refine side_d ?_ ?_; exact byD) | (with_reducible refine side_q ?_ ?_; exact byQ)
        subst e28
        refine cx_if _ rfl (fun h28 => ?_) (fun h28 => ?_)
        ·
          (try simp only [go_sem] at h28)
          refine cx_region ?_
          simp only [go_sem]
          repeat first | (with_reducible refine side_d ?_ ?_; exact byD) | (with_reducible refine side_q ?_ ?_; exact byQ)
          refine cx_region ?_
          simp only [go_sem]
          repeat first | (with_reducible refine side_d ?_ ?_; exact byD) | (with_reducible refine side_q ?_ ?_; exact byQ)
          intro t34 e34
          (try replace e34 := w64 e34 (by omega) (by omega))
          repeat first | (with_reducible refine side_d ?_ ?_; exact byD) | (with_reducible refine side_q ?_ ?_; exact byQ)
          refine rnd_nextr (i + 1) [0, 4] (by omega) (by first | omega | (dsimp only; omega)) ⟨rfl, rfl, ?_, ?_⟩
          · rw [whoG_T (by omega) h28]; exact byC
          · rw [whoG_T (by omega) h28]
            simp only [go_sem, wk, wks, wkB, wkH, List.length_append, List.length_cons, List.length_nil]
            first | exact fun q hq => wks_mp_snoc (fun x => rnVs_no _ rfl) rfl hq | (and_intros <;> first | trivial | rfl | (exact fun q hq => wks_mp_snoc (fun x => rnVs_no _ rfl) rfl hq) | exact wks_refl _ | exact byC)
        ·
          (try simp only [go_sem] at h28)
          refine cx_skip ?_
          (try simp only [go_sem])
          refine cx_region ?_
          simp only [go_sem]
          repeat first | (with_reducible refine side_d ?_ ?_; exact byD) | (with_reducible refine side_q ?_ ?_; exact byQ)
          intro t34 e34
          (try replace e34 := w64 e34 (by omega) (by omega))
          repeat first | (with_reducible refine side_d ?_ ?_; exact byD) | (with_reducible refine side_q ?_ ?_; exact byQ)
          refine rnd_next (i + 1) (by omega) (by first | omega | (dsimp only; omega)) ?_
          rw [whoG_F (by omega) h28]
          exact byC
      ·
        (try simp only [go_sem] at h22)
        refine cx_exit ?_
        simp only [go_sem]
        refine cx_sr ?_
        simp only [go_sem]
        repeat first | (with_reducible refine side_d ?_ ?_; exact byD) | (with_reducible refine side_q ?_ ?_; exact byQ)
        refine cx_ret ?_
        simp only [go_sem]
        rw [whoE, if_neg (by simpa using h13), if_neg (by simpa using h18)]
        have : l.take i = l := List.take_of_length_le (by omega)
        rw [this]
        exact finx_of 1 [] rfl byC byC byC byC
end Go.VM.Try
end
