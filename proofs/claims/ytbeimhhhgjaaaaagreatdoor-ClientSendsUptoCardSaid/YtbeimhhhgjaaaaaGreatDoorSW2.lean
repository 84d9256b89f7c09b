import Derived.Test.YtbeimhhhgjaaaaaGreatDoorSW1
import Derived.Test.YtbeimhhhgjaaaaaGreatDoorSV5
section
set_option maxHeartbeats 4000000
set_option linter.unusedVariables false
set_option linter.unusedSimpArgs false
open Go Go.VM Go.Proofs Tether
namespace Go.VM.Tryz
set_option maxRecDepth 100000
theorem isNaN_c (a : Str) : Meets Tryz.prog 106 [.str a] (.bool false) [] := by
  refine meets_x (fn := Tryz.f106) Tryz.func106 rfl fb106 (by kernel_rfl) (Nat.le_of_ble_eq_true rfl) ?_
  refine cx_sr ?_
  simp only [go_sem]
  repeat first | (with_reducible refine side_d ?_ ?_; exact byD) | (with_reducible refine side_q ?_ ?_; exact byQ)
  refine cx_sr ?_
  simp only [go_sem]
  intro t5 e5
  subst e5
  refine cx_ret ?_
  simp only [go_sem]
  exact finw_bool (by simp)
theorem Compare_c (a b : Str) : Meets Tryz.prog 88 [.str a, .str b] (.int .i64 (cmpS a b)) [] := by
  refine meets_x (fn := Tryz.f88) Tryz.func88 rfl fb88 (by kernel_rfl) (Nat.le_of_ble_eq_true rfl) ?_
  refine cx_sr ?_
  simp only [go_sem]
  repeat first | (with_reducible refine side_d ?_ ?_; exact byD) | (with_reducible refine side_q ?_ ?_; exact byQ)
  refine cx_sr ?_
  simp only [go_sem]
  refine cw_m (isNaN_c a) byW byT ?_
  simp only [go_sem]
  refine cx_sr ?_
  simp only [go_sem]
  refine cw_m (isNaN_c b) byW byT ?_
  simp only [go_sem]
  refine cx_seq ?_
  refine cx_sr ?_
  simp only [go_sem]
  refine cx_if _ rfl (fun h11 => no_if h11) (fun h11 => ?_)
  refine cx_skip ?_
  (try simp only [go_sem])
  refine cx_seq ?_
  refine cx_sr ?_
  simp only [go_sem]
  refine cx_if _ rfl (fun h13 => no_if h13) (fun h13 => ?_)
  refine cx_skip ?_
  (try simp only [go_sem])
  refine cx_seq ?_
  refine cx_sr ?_
  simp only [go_sem]
  intro t16 e16
  subst e16
  refine cx_if _ rfl (fun h16 => ?_) (fun h16 => ?_)
  ·
   (try simp only [go_sem] at h16)
   refine cx_sr ?_
   simp only [go_sem]
   refine cx_ret ?_
   simp only [go_sem]
   refine finw_int ?_
   rw [cmpS, if_pos h16]
  ·
   (try simp only [go_sem] at h16)
   refine cx_skip ?_
   (try simp only [go_sem])
   refine cx_seq ?_
   refine cx_sr ?_
   simp only [go_sem]
   intro t19 e19
   subst e19
   refine cx_if _ rfl (fun h19 => ?_) (fun h19 => ?_)
   ·
    (try simp only [go_sem] at h19)
    refine cx_sr ?_
    simp only [go_sem]
    refine cx_ret ?_
    simp only [go_sem]
    refine finw_int ?_
    have h1 : ¬ a < b := fun h => by rw [blt_iff.2 h] at h16; cases h16
    have h2 : b < a := by
      rcases str_tri a b with h | h | h
      · exact absurd h h1
      · exact absurd h h19.2
      · exact h
    rw [cmpS, if_neg (by simp [h16]), if_pos (blt_iff.2 h2)]
   ·
    (try simp only [go_sem] at h19)
    refine cx_skip ?_
    (try simp only [go_sem])
    refine cx_sr ?_
    simp only [go_sem]
    refine cx_ret ?_
    simp only [go_sem]
    refine finw_int ?_
    rcases h19 with h | h
    · rw [h] at h16; cases h16
    · subst h
      exact (cmpS_eq.2 rfl).symm
theorem IndexFunc_Entry (f : Nat) (caps : List V) (hc : ltrs 0 caps = true) (p : Entry → Bool) (l : List Entry) (hp : ∀ x ∈ l, Meets Tryz.prog f (.agg (Entry.enc x) :: caps) (.bool (p x)) []) (hl : l.length < 4611686018427387904) :
    Meets Tryz.prog 131 [lstV 4 Entry.enc default l, .fn f [] caps] (.int .i64 (idxF p l)) [] := by
  refine meets_x (fn := Tryz.f131) Tryz.func131 rfl fb131 (by kernel_rfl) (Nat.le_of_ble_eq_true rfl) ?_
  refine cx_sr ?_
  simp only [go_sem]
  repeat first | (with_reducible refine side_d ?_ ?_; exact byD) | (with_reducible refine side_q ?_ ?_; exact byQ)
  refine cx_seq ?_
  refine cx_sr ?_
  simp only [go_sem]
  refine cx_block ?_
  refine cx_loop0 (σ := Nat) (fun i => i ≤ l.length ∧ ∀ j, j < i → p (l.getD j default) = false) (fun i => [⟨8, 0, [], .int .i64 (i : Nat)⟩]) [0, 1, 7] (fun i => l.length - i) 0 ⟨Nat.zero_le _, fun j hj => absurd hj (Nat.not_lt_zero j)⟩ (Nat.zero_le _) byC (fun i hI1 => ?_)
  simp only [go_sem]
  refine cx_sr ?_
  simp only [go_sem]
  repeat first | (with_reducible refine side_d ?_ ?_; exact byD) | (with_reducible refine side_q ?_ ?_; exact byQ)
  intro t9 e9
  subst e9
  refine cx_seq ?_
  refine cx_if _ rfl (fun h9 => ?_) (fun h9 => ?_)
  ·
   (try simp only [go_sem] at h9)
   refine cx_skip ?_
   (try simp only [go_sem])
   refine cx_seq (cx_block ?_)
   refine cx_sr ?_
   simp only [go_sem]
   refine cx_sr ?_
   simp only [go_sem]
   repeat first | (with_reducible refine side_d ?_ ?_; exact byD) | (with_reducible refine side_q ?_ ?_; exact byQ)
   refine cw_m (hp (l.getD i default) (getD_mem (by omega))) byW byT ?_
   simp only [go_sem]
   refine cx_if _ rfl (fun h16 => ?_) (fun h16 => ?_)
   ·
    (try simp only [go_sem] at h16)
    refine cx_sr ?_
    simp only [go_sem]
    refine cx_ret ?_
    simp only [go_sem]
    refine finw_int ?_
    rw [idxF_at (by omega) hI1.2 h16]
   ·
    (try simp only [go_sem] at h16)
    refine cx_skip ?_
    (try simp only [go_sem])
    refine cx_region ?_
    simp only [go_sem]
    intro t18 e18
    (try replace e18 := w64 e18 (by omega) (by omega))
    refine rnd_next (i + 1) ⟨by omega, all_next hI1.2 h16⟩ (by first | omega | (dsimp only; omega)) byC
  ·
   (try simp only [go_sem] at h9)
   refine cx_exit ?_
   simp only [go_sem]
   refine cx_sr ?_
   simp only [go_sem]
   refine cx_ret ?_
   simp only [go_sem]
   refine finw_int ?_
   rw [idxF_none fun j hj => hI1.2 j (by omega)]
theorem ContainsFunc_Entry (f : Nat) (caps : List V) (hc : ltrs 0 caps = true) (p : Entry → Bool) (l : List Entry) (hp : ∀ x ∈ l, Meets Tryz.prog f (.agg (Entry.enc x) :: caps) (.bool (p x)) []) (hl : l.length < 4611686018427387904) :
    Meets Tryz.prog 113 [lstV 4 Entry.enc default l, .fn f [] caps] (.bool (l.any p)) [] := by
  refine meets_x (fn := Tryz.f113) Tryz.func113 rfl fb113 (by kernel_rfl) (Nat.le_of_ble_eq_true rfl) ?_
  refine cx_sr ?_
  simp only [go_sem]
  repeat first | (with_reducible refine side_d ?_ ?_; exact byD) | (with_reducible refine side_q ?_ ?_; exact byQ)
  refine cx_sr ?_
  simp only [go_sem]
  refine cw_m (IndexFunc_Entry f caps hc p l hp hl) byW byT ?_
  simp only [go_sem]
  intro t8 e8
  subst e8
  refine cx_ret ?_
  simp only [go_sem]
  refine finw_bool ?_
  rw [← idxF_any]
theorem Clone_Entry (l : List Entry) (hl : l.length * 48 ≤ 140737488355328) : Meets Tryz.prog 57 [lstV 4 Entry.enc default l] (.own none 0 4 0 l.length .loose) [.arr 4 l.length (En Entry.enc default l)] := by
  refine meets_x (fn := Tryz.f57) Tryz.func57 rfl fb57 (by kernel_rfl) (Nat.le_of_ble_eq_true rfl) ?_
  refine cx_nil 0 rfl fun b hb => ?_
  refine cx_sr ?_
  simp only [go_sem]
  repeat first | (with_reducible refine side_d ?_ ?_; exact byD) | (with_reducible refine side_q ?_ ?_; exact byQ)
  refine cx_seq ?_
  refine cx_sr ?_
  simp only [go_sem]
  intro t4 e4
  subst e4
  refine cx_if _ rfl (fun h4 => ?_) (fun h4 => ?_)
  ·
   (try simp only [go_sem] at h4)
   have hb := hb h4
   refine cx_sr ?_
   simp only [go_sem]
   refine cx_virt 2 4 (En Entry.enc default l) rfl ?_
   simp only [go_sem]
   refine cx_ret ?_
   simp only [go_sem]
   exact finx_of 1 [0] rfl byC byC byC byC
  ·
   (try simp only [go_sem] at h4)
   refine cx_skip ?_
   (try simp only [go_sem])
   refine cx_sr ?_
   simp only [go_sem]
   repeat first | (with_reducible refine side_d ?_ ?_; exact byD) | (with_reducible refine side_q ?_ ?_; exact byQ)
   refine cx_ret ?_
   simp only [go_sem]
   exact finx_of 1 [1] rfl byC byC byC byC
theorem DeleteFunc_Entry (f : Nat) (cs : List V) (hcs : ltrs 0 cs = true) (p : Entry → Bool) (l : List Entry) (hp : ∀ x ∈ l, Meets Tryz.prog f [.agg (Entry.enc x), .iptr cs 0] (.bool (p x)) []) (hl : l.length < 4611686018427387904) :
    Does Tryz.prog 133 [.own none 0 4 0 l.length .loose, .fn f [] [.ptr 1 0]] [.arr 4 l.length (En Entry.enc default l), .box cs]
      (.own none 0 4 0 (l.filter fun x => !p x).length .loose) [.arr 4 (l.filter fun x => !p x).length (En Entry.enc default (l.filter fun x => !p x)), .box cs] := by
  refine does_cx (fn := Tryz.f133) Tryz.func133 rfl fb133 (by kernel_rfl) (Nat.le_of_ble_eq_true rfl) ?_
  refine cx_sr ?_
  simp only [go_sem, hcs]
  repeat ((with_reducible first | refine side_d ?_ ?_ | refine side_q ?_ ?_); focus (first | (refine Sd.mk ?_; omega) | (refine Sq.mk ?_; omega) | exact Sd.mk trivial | exact Sq.mk trivial | (refine Sq.mk ?_; and_intros <;> first | omega | trivial | (simp; omega)) | (refine Sd.of fun hp => ?_; simp only [pc, and_true] at hp; (try subst_vars); simp only [decide_eq_true_eq, Bool.not_eq_true', decide_eq_false_iff_not, Bool.and_eq_true, Bool.or_eq_true, Bool.or_eq_false_iff] at hp; omega)))
  refine cx_sr ?_
  simp only [go_sem, hcs]
  refine cw_v 2 (IndexFunc_Entry f [.iptr cs 0] rfl p l hp hl) (by first | (simp only [go_sem, hcs]; exact wks_refl _) | (first | trivial | (simp only [go_sem, hcs, wk, wks, wkB, wkH, subw, subEw, hprew, ltb, subr, subEr]; done) | (simp only [go_sem, hcs, wk, wks, wkB, wkH, subw, subEw, hprew, ltb, subr, subEr]; and_intros <;> first | trivial | rfl | omega | assumption | exact Nat.le_refl _ | exact wks_refl _ | exact wk_refl _ | (intros; exact wks_refl _) | (simp; done) | (simp; omega)))) (by (first | trivial | (simp only [go_sem, hcs, wk, wks, wkB, wkH, subw, subEw, hprew, ltb, subr, subEr]; done) | (simp only [go_sem, hcs, wk, wks, wkB, wkH, subw, subEw, hprew, ltb, subr, subEr]; and_intros <;> first | trivial | rfl | omega | assumption | exact Nat.le_refl _ | exact wks_refl _ | exact wk_refl _ | (intros; exact wks_refl _) | (simp; done) | (simp; omega)))) rfl ?_
  simp only [go_sem, hcs]
  refine cx_seq ?_
  refine cx_sr ?_
  simp only [go_sem, hcs]
  intro t12 e12
  subst e12
  refine cx_if _ rfl (fun h12 => ?_) (fun h12 => ?_)
  ·
   (try simp only [go_sem, hcs] at h12)
   refine cx_sr ?_
   simp only [go_sem, hcs]
   refine cx_ret ?_
   simp only [go_sem, hcs]
   rw [idxF_all h12]
   refine ⟨[0, 1], rfl, rfl, ?_, ?_⟩ <;> (first | trivial | (simp only [go_sem, hcs, wk, wks, wkB, wkH, subw, subEw, hprew, ltb, subr, subEr]; done) | (simp only [go_sem, hcs, wk, wks, wkB, wkH, subw, subEw, hprew, ltb, subr, subEr]; and_intros <;> first | trivial | rfl | omega | assumption | exact Nat.le_refl _ | exact wks_refl _ | exact wk_refl _ | (intros; exact wks_refl _) | (simp; done) | (simp; omega)))
  ·
   (try simp only [go_sem, hcs] at h12)
   obtain ⟨iN, hiN, hiN1, hiN2, hiN3⟩ := idxF_spec default h12
   refine cx_skip ?_
   (try simp only [go_sem, hcs])
   refine cx_seq ?_
   refine cx_sr ?_
   simp only [go_sem, hcs]
   intro t15 e15
   (try replace e15 := w64 e15 (by omega) (by omega))
   refine cx_block ?_
   refine cx_loopk (σ := Nat × Nat × List Entry) (fun s => s.2.1 < s.1 ∧ s.1 ≤ l.length ∧ s.2.2.length = l.length ∧ s.2.2.take s.2.1 = (l.take s.1).filter (fun x => !p x) ∧ s.2.2.drop s.1 = l.drop s.1) (fun s => [⟨6, 0, [], .int .i64 (s.1 : Nat)⟩, ⟨5, 0, [], .int .i64 (s.2.1 : Nat)⟩]) [0, 1, 4] (fun s => [.arr 4 l.length (En Entry.enc default s.2.2), .box cs]) (fun s => l.length - s.1) (iN + 1, iN, l) ⟨by dsimp only; omega, by dsimp only; omega, rfl, hiN3.symm, rfl⟩ (fun _ => (Nat.le_of_ble_eq_true rfl)) (by (first | trivial | (simp only [go_sem, hcs, wk, wks, wkB, wkH, subw, subEw, hprew, ltb, subr, subEr]; done) | (simp only [go_sem, hcs, wk, wks, wkB, wkH, subw, subEw, hprew, ltb, subr, subEr]; and_intros <;> first | trivial | rfl | omega | assumption | exact Nat.le_refl _ | exact wks_refl _ | exact wk_refl _ | (intros; exact wks_refl _) | (simp; done) | (simp; omega)))) (fun s hI1 => ?_)
   simp only [go_sem, hcs]
   refine cx_seq ?_
   refine cx_sr ?_
   simp only [go_sem, hcs]
   repeat ((with_reducible first | refine side_d ?_ ?_ | refine side_q ?_ ?_); focus (first | (refine Sd.mk ?_; omega) | (refine Sq.mk ?_; omega) | exact Sd.mk trivial | exact Sq.mk trivial | (refine Sq.mk ?_; and_intros <;> first | omega | trivial | (simp; omega)) | (refine Sd.of fun hp => ?_; simp only [pc, and_true] at hp; (try subst_vars); simp only [decide_eq_true_eq, Bool.not_eq_true', decide_eq_false_iff_not, Bool.and_eq_true, Bool.or_eq_true, Bool.or_eq_false_iff] at hp; omega)))
   intro t19 e19
   subst e19
   refine cx_if _ rfl (fun h19 => ?_) (fun h19 => ?_)
   ·
    (try simp only [go_sem, hcs] at h19)
    have hmem : s.2.2.getD s.1 default ∈ l := by
      have h5 := congrArg (fun z => z.getD 0 default) hI1.2.2.2.2
      simp only [List.getD_eq_getElem?_getD, List.getElem?_drop, Nat.add_zero] at h5
      rw [List.getD_eq_getElem?_getD, h5, ← List.getD_eq_getElem?_getD]
      exact getD_mem (by omega)
    refine cx_skip ?_
    (try simp only [go_sem, hcs])
    refine cx_seq (cx_block ?_)
    refine cx_sr ?_
    simp only [go_sem, hcs]
    repeat ((with_reducible first | refine side_d ?_ ?_ | refine side_q ?_ ?_); focus (first | (refine Sd.mk ?_; omega) | (refine Sq.mk ?_; omega) | exact Sd.mk trivial | exact Sq.mk trivial | (refine Sq.mk ?_; and_intros <;> first | omega | trivial | (simp; omega)) | (refine Sd.of fun hp => ?_; simp only [pc, and_true] at hp; (try subst_vars); simp only [decide_eq_true_eq, Bool.not_eq_true', decide_eq_false_iff_not, Bool.and_eq_true, Bool.or_eq_true, Bool.or_eq_false_iff] at hp; omega)))
    refine cx_sr ?_
    simp only [go_sem, hcs]
    refine cw_v 2 (hp (s.2.2.getD s.1 default) hmem) (by first | (simp only [go_sem, hcs]; exact wks_refl _) | (first | trivial | (simp only [go_sem, hcs, wk, wks, wkB, wkH, subw, subEw, hprew, ltb, subr, subEr]; done) | (simp only [go_sem, hcs, wk, wks, wkB, wkH, subw, subEw, hprew, ltb, subr, subEr]; and_intros <;> first | trivial | rfl | omega | assumption | exact Nat.le_refl _ | exact wks_refl _ | exact wk_refl _ | (intros; exact wks_refl _) | (simp; done) | (simp; omega)))) (by (first | trivial | (simp only [go_sem, hcs, wk, wks, wkB, wkH, subw, subEw, hprew, ltb, subr, subEr]; done) | (simp only [go_sem, hcs, wk, wks, wkB, wkH, subw, subEw, hprew, ltb, subr, subEr]; and_intros <;> first | trivial | rfl | omega | assumption | exact Nat.le_refl _ | exact wks_refl _ | exact wk_refl _ | (intros; exact wks_refl _) | (simp; done) | (simp; omega)))) rfl ?_
    simp only [go_sem, hcs]
    intro t29 e29
    subst e29
    refine cx_if _ rfl (fun h29 => ?_) (fun h29 => ?_)
    ·
     (try simp only [go_sem, hcs] at h29)
     refine cx_sr ?_
     simp only [go_sem, hcs]
     repeat ((with_reducible first | refine side_d ?_ ?_ | refine side_q ?_ ?_); focus (first | (refine Sd.mk ?_; omega) | (refine Sq.mk ?_; omega) | exact Sd.mk trivial | exact Sq.mk trivial | (refine Sq.mk ?_; and_intros <;> first | omega | trivial | (simp; omega)) | (refine Sd.of fun hp => ?_; simp only [pc, and_true] at hp; (try subst_vars); simp only [decide_eq_true_eq, Bool.not_eq_true', decide_eq_false_iff_not, Bool.and_eq_true, Bool.or_eq_true, Bool.or_eq_false_iff] at hp; omega)))
     refine cx_region ?_
     simp only [go_sem, hcs]
     intro t35 e35
     (try replace e35 := w64 e35 (by omega) (by omega))
     refine cx_region ?_
     simp only [go_sem, hcs]
     intro t21 e21
     (try replace e21 := w64 e21 (by omega) (by omega))
     obtain ⟨i1, i2, i3, i4, i5⟩ := hI1
     obtain ⟨g1, g2⟩ := del_keep (d := default) i1 (by omega) i3 i4 i5 h29
     refine rnd_next (s.1 + 1, s.2.1 + 1, s.2.2.set s.2.1 (s.2.2.getD s.1 default)) ⟨by dsimp only; omega, by dsimp only; omega, by simpa using i3, g1, g2⟩ (by first | omega | (dsimp only; omega)) ?_
     simp only [go_sem, hcs, wk, wks, wkB, wkH, subw, subEw, hprew, ltb]
     exact ⟨⟨by omega, by omega⟩, fun i hi => wks_stF (by omega) (wks_refl _) i⟩
    ·
     (try simp only [go_sem, hcs] at h29)
     refine cx_skip ?_
     (try simp only [go_sem, hcs])
     refine cx_region ?_
     simp only [go_sem, hcs]
     intro t21 e21
     (try replace e21 := w64 e21 (by omega) (by omega))
     obtain ⟨i1, i2, i3, i4, i5⟩ := hI1
     obtain ⟨g1, g2⟩ := del_drop (d := default) (by omega) i4 i5 h29
     refine rnd_next (s.1 + 1, s.2.1, s.2.2) ⟨by dsimp only; omega, by dsimp only; omega, i3, g1, g2⟩ (by first | omega | (dsimp only; omega)) (by (first | trivial | (simp only [go_sem, hcs, wk, wks, wkB, wkH, subw, subEw, hprew, ltb, subr, subEr]; done) | (simp only [go_sem, hcs, wk, wks, wkB, wkH, subw, subEw, hprew, ltb, subr, subEr]; and_intros <;> first | trivial | rfl | omega | assumption | exact Nat.le_refl _ | exact wks_refl _ | exact wk_refl _ | (intros; exact wks_refl _) | (simp; done) | (simp; omega))))
   ·
    (try simp only [go_sem, hcs] at h19)
    refine cx_exit ?_
    simp only [go_sem, hcs]
    refine cx_sr ?_
    simp only [go_sem, hcs]
    repeat ((with_reducible first | refine side_d ?_ ?_ | refine side_q ?_ ?_); focus (first | (refine Sd.mk ?_; omega) | (refine Sq.mk ?_; omega) | exact Sd.mk trivial | exact Sq.mk trivial | (refine Sq.mk ?_; and_intros <;> first | omega | trivial | (simp; omega)) | (refine Sd.of fun hp => ?_; simp only [pc, and_true] at hp; (try subst_vars); simp only [decide_eq_true_eq, Bool.not_eq_true', decide_eq_false_iff_not, Bool.and_eq_true, Bool.or_eq_true, Bool.or_eq_false_iff] at hp; omega)))
    refine cx_sr ?_
    simp only [go_sem, hcs]
    repeat ((with_reducible first | refine side_d ?_ ?_ | refine side_q ?_ ?_); focus (first | (refine Sd.mk ?_; omega) | (refine Sq.mk ?_; omega) | exact Sd.mk trivial | exact Sq.mk trivial | (refine Sq.mk ?_; and_intros <;> first | omega | trivial | (simp; omega)) | (refine Sd.of fun hp => ?_; simp only [pc, and_true] at hp; (try subst_vars); simp only [decide_eq_true_eq, Bool.not_eq_true', decide_eq_false_iff_not, Bool.and_eq_true, Bool.or_eq_true, Bool.or_eq_false_iff] at hp; omega)))
    refine cx_ret ?_
    simp only [go_sem, hcs]
    obtain ⟨i1, i2, i3, i4, i5⟩ := hI1
    have hn : s.1 = l.length := by omega
    rw [hn, List.take_of_length_le (Nat.le_refl _)] at i4
    have hk : (l.filter fun x => !p x).length = s.2.1 := by rw [← i4]; simp; omega
    refine ⟨[0, 1], rfl, rfl, ?_, ?_⟩
    · (first | trivial | (simp only [go_sem, hcs, wk, wks, wkB, wkH, subw, subEw, hprew, ltb, subr, subEr]; done) | (simp only [go_sem, hcs, wk, wks, wkB, wkH, subw, subEw, hprew, ltb, subr, subEr]; and_intros <;> first | trivial | rfl | omega | assumption | exact Nat.le_refl _ | exact wks_refl _ | exact wk_refl _ | (intros; exact wks_refl _) | (simp; done) | (simp; omega)))
    · simp only [go_sem, hcs, wk, wks, wkB, wkH]
      exact ⟨by omega, fun i hi => wks_mp_over (fun _ => rfl) (by omega) (by rw [← i4, getD_take (by omega)])⟩
theorem BSearch_Entry (f : Nat) (tg : Str) (c : Entry → Int) (hcmp : ∀ x, Meets Tryz.prog f [.agg (Entry.enc x), .str tg] (.int .i64 (c x)) []) (l : List Entry) (hl : l.length < 4611686018427387904)
    (k : Nat) (hk : k ≤ l.length) (h1 : ∀ j, j < k → c (l.getD j default) < 0) (h2 : ∀ j, k ≤ j → j < l.length → 0 ≤ c (l.getD j default)) :
    Meets Tryz.prog 86 [lstV 4 Entry.enc default l, .str tg, .fn f [] []] (.tup [.int .i64 (k : Nat), .bool (decide (k < l.length) && decide (c (l.getD k default) = 0))]) [] := by
  refine meets_x (fn := Tryz.f86) Tryz.func86 rfl fb86 (by kernel_rfl) (Nat.le_of_ble_eq_true rfl) ?_
  refine cx_sr ?_
  simp only [go_sem]
  repeat first | (with_reducible refine side_d ?_ ?_; exact byD) | (with_reducible refine side_q ?_ ?_; exact byQ)
  refine cx_sr ?_
  simp only [go_sem]
  refine cx_sr ?_
  simp only [go_sem]
  refine cx_seq (cx_block ?_)
  refine cx_loop0 (σ := Nat × Nat) (fun s => s.1 ≤ k ∧ k ≤ s.2 ∧ s.2 ≤ l.length) (fun s => [⟨9, 0, [], .int .i64 (s.1 : Nat)⟩, ⟨10, 0, [], .int .i64 (s.2 : Nat)⟩]) [0, 1, 2, 6, 7, 8] (fun s => s.2 - s.1) (0, l.length) ⟨Nat.zero_le _, hk, Nat.le_refl _⟩ (Nat.zero_le _) byC (fun s hI1 => ?_)
  simp only [go_sem]
  refine cx_seq ?_
  refine cx_sr ?_
  simp only [go_sem]
  repeat first | (with_reducible refine side_d ?_ ?_; exact byD) | (with_reducible refine side_q ?_ ?_; exact byQ)
  intro t17 e17
  subst e17
  refine cx_if _ rfl (fun h17 => ?_) (fun h17 => ?_)
  ·
   (try simp only [go_sem] at h17)
   refine cx_skip ?_
   (try simp only [go_sem])
   refine cx_block ?_
   refine cx_sr ?_
   simp only [go_sem]
   intro t20 e20
   (try replace e20 := w64 e20 (by omega) (by omega))
   repeat first | (with_reducible refine side_d ?_ ?_; exact byD) | (with_reducible refine side_q ?_ ?_; exact byQ)
   intro t21 e21
   repeat first | (with_reducible refine side_d ?_ ?_; exact byD) | (with_reducible refine side_q ?_ ?_; exact byQ)
   intro t22 e22
   repeat first | (with_reducible refine side_d ?_ ?_; exact byD) | (with_reducible refine side_q ?_ ?_; exact byQ)
   intro t23 e23
   have hm : t23 = (((s.1 + s.2) / 2 : Nat) : Int) := mid_eq (by omega) (by omega) e21 e22 e23
   clear e23
   subst hm
   have hlt : (s.1 + s.2) / 2 < s.2 := by omega
   have hge : s.1 ≤ (s.1 + s.2) / 2 := by omega
   refine cx_sr ?_
   simp only [go_sem]
   repeat first | (with_reducible refine side_d ?_ ?_; exact byD) | (with_reducible refine side_q ?_ ?_; exact byQ)
   refine cw_m (hcmp (l.getD ((s.1 + s.2) / 2) default)) byW byT ?_
   simp only [go_sem]
   intro t31 e31
   subst e31
   refine cx_if _ rfl (fun h31 => ?_) (fun h31 => ?_)
   ·
    (try simp only [go_sem] at h31)
    refine cx_region ?_
    simp only [go_sem]
    intro t33 e33
    (try replace e33 := w64 e33 (by omega) (by omega))
    have : (s.1 + s.2) / 2 < k := by
      rcases Nat.lt_or_ge ((s.1 + s.2) / 2) k with h | h
      · exact h
      · have := h2 _ h (by omega); omega
    refine rnd_next ((s.1 + s.2) / 2 + 1, s.2) ⟨by dsimp only; omega, hI1.2.1, hI1.2.2⟩ (by first | omega | (dsimp only; omega)) byC
   ·
    (try simp only [go_sem] at h31)
    refine cx_region ?_
    simp only [go_sem]
    have : k ≤ (s.1 + s.2) / 2 := by
      rcases Nat.lt_or_ge ((s.1 + s.2) / 2) k with h | h
      · have := h1 _ h; omega
      · exact h
    refine rnd_next (s.1, (s.1 + s.2) / 2) ⟨hI1.1, this, by dsimp only; omega⟩ (by first | omega | (dsimp only; omega)) byC
  ·
   (try simp only [go_sem] at h17)
   have hks : s.1 = k := by omega
   refine cx_exit ?_
   simp only [go_sem]
   refine cx_sr ?_
   simp only [go_sem]
   intro t38 e38
   repeat first | (with_reducible refine side_d ?_ ?_; exact byD) | (with_reducible refine side_q ?_ ?_; exact byQ)
   refine ⟨_, fun hp => cw_m (hcmp (l.getD s.1 default)) byW byT ⟨rfl, rfl⟩, ?_⟩
   simp only [go_sem]
   intro t47 e47
   intro t48 e48
   rw [bsel_and] at e48
   subst e38 e47 e48
   refine cx_ret ?_
   simp only [go_sem]
   rw [← hks]
   refine finw_flat rfl ?_
   exact byC
theorem Insert_Entry (l : List Entry) (i : Nat) (x : Entry) (hi : i ≤ l.length) (hl : (l.length + 1) * 48 ≤ 140737488355328) :
    Does Tryz.prog 132 [.own none 0 4 0 l.length .loose, .int .i64 (i : Nat), .own (some false) 1 4 0 1 (.exact 1)] [.arr 4 l.length (En Entry.enc default l), .arr 4 1 (fun _ => Entry.enc x)]
      (.own none 2 4 0 (l.length + 1) .loose) [.dead, .dead, .arr 4 (l.length + 1) (En Entry.enc default (l.take i ++ x :: l.drop i))] := by
  refine does_cx (fn := Tryz.f132) Tryz.func132 rfl fb132 (by kernel_rfl) (Nat.le_of_ble_eq_true rfl) ?_
  refine cx_exact 0 rfl fun C hC => ?_
  refine cx_sr ?_
  simp only [go_sem]
  repeat first | (with_reducible refine side_d ?_ ?_; exact byD) | (with_reducible refine side_q ?_ ?_; exact byQ)
  refine cx_sr ?_
  simp only [go_sem]
  repeat first | (with_reducible refine side_d ?_ ?_; exact byD) | (with_reducible refine side_q ?_ ?_; exact byQ)
  refine cx_sr ?_
  simp only [go_sem]
  refine cx_seq ?_
  refine cx_sr ?_
  simp only [go_sem]
  intro t16 e16
  subst e16
  refine cx_if _ rfl (fun h16 => ?_) (fun h16 => ?_)
  · simp at h16
  ·
   (try simp only [go_sem] at h16)
   refine cx_skip ?_
   (try simp only [go_sem])
   refine cx_sr ?_
   simp only [go_sem]
   refine cx_seq ?_
   refine cx_sr ?_
   simp only [go_sem]
   intro t22 e22
   subst e22
   refine cx_if _ rfl (fun h22 => ?_) (fun h22 => ?_)
   ·
    (try simp only [go_sem] at h22)
    have hil : i = l.length := by omega
    subst hil
    refine cx_sr ?_
    simp only [go_sem]
    repeat first | (with_reducible refine side_d ?_ ?_; exact byD) | (with_reducible refine side_q ?_ ?_; exact byQ)
    refine ⟨fun hC25 => ?_, fun hC25 => ?_⟩
    ·
     repeat first | (with_reducible refine side_d ?_ ?_; exact byD) | (with_reducible refine side_q ?_ ?_; exact byQ)
     refine cx_move 0 rfl ?_
     simp only [go_sem]
     refine cx_ret ?_
     simp only [go_sem]
     refine ⟨[0, 1, 2], rfl, rfl, ?_, ?_⟩
     · exact byC
     · simp only [go_sem, wk, wks, wkB, wkH]
       exact ⟨by omega, fun q hq => wks_mp_of (fun _ => rfl) (ins_end (fun _ => rfl) rfl hq)⟩
    ·
     repeat first | (with_reducible refine side_d ?_ ?_; exact byD) | (with_reducible refine side_q ?_ ?_; exact byQ)
     refine cx_move 0 rfl ?_
     simp only [go_sem]
     refine cx_ret ?_
     simp only [go_sem]
     refine ⟨[0, 1, 2], rfl, rfl, ?_, ?_⟩
     · exact byC
     · simp only [go_sem, wk, wks, wkB, wkH]
       exact fun q hq => wks_mp_of (fun _ => rfl) (ins_end' (fun _ => rfl) rfl hq)
   ·
    (try simp only [go_sem] at h22)
    refine cx_skip ?_
    (try simp only [go_sem])
    refine cx_seq ?_
    refine cx_sr ?_
    simp only [go_sem]
    intro t28 e28
    (try replace e28 := w64 e28 (by omega) (by omega))
    repeat first | (with_reducible refine side_d ?_ ?_; exact byD) | (with_reducible refine side_q ?_ ?_; exact byQ)
    intro t31 e31
    subst e31
    refine cx_if _ rfl (fun h31 => ?_) (fun h31 => ?_)
    ·
     (try simp only [go_sem] at h31)
     refine cx_sr ?_
     simp only [go_sem]
     repeat first | (with_reducible refine side_d ?_ ?_; exact byD) | (with_reducible refine side_q ?_ ?_; exact byQ)
     intro t37 e37
     (try replace e37 := w64 e37 (by omega) (by omega))
     intro t39 e39
     (try replace e39 := w64 e39 (by omega) (by omega))
     repeat first | (with_reducible refine side_d ?_ ?_; exact byD) | (with_reducible refine side_q ?_ ?_; exact byQ)
     refine cx_sr ?_
     simp only [go_sem]
     repeat first | (with_reducible refine side_d ?_ ?_; exact byD) | (with_reducible refine side_q ?_ ?_; exact byQ)
     refine cx_seq (cx_draw mixed [8] (.first 0 (.first 1 (.first 2 (.first 3 (.first 4 (.first 5 (.first 6 (.first 7 (.one 8 (.done)))))))))) (by kernel_rfl) ?_)
     simp only [go_sem]
     intro t49 e49
     (try replace e49 := w64 e49 (by omega) (by omega))
     repeat first | (with_reducible refine side_d ?_ ?_; exact byD) | (with_reducible refine side_q ?_ ?_; exact byQ)
     refine cx_sr ?_
     simp only [go_sem]
     refine cx_ret ?_
     simp only [go_sem]
     have h39 : t39.toNat = l.length + 1 - i := by omega
     have h49 : t49.toNat = i + 1 := by omega
     refine ⟨[0, 1, 2], rfl, rfl, ?_, ?_⟩
     · exact byC
     · simp only [go_sem, wk, wks, wkB, wkH, h39, h49]
       refine ⟨by omega, fun q hq => wks_mp_of (fun _ => rfl) ?_⟩
       exact ins_grow (fun _ => rfl) (by omega) hq (by omega) (by omega)
    ·
     (try simp only [go_sem] at h31)
     refine cx_skip ?_
     (try simp only [go_sem])
     refine cx_sr ?_
     simp only [go_sem]
     intro t59 e59
     (try replace e59 := w64 e59 (by omega) (by omega))
     repeat first | (with_reducible refine side_d ?_ ?_; exact byD) | (with_reducible refine side_q ?_ ?_; exact byQ)
     refine cx_seq ?_
     refine cx_sr ?_
     simp only [go_sem]
     intro t65 e65
     (try replace e65 := w64 e65 (by omega) (by omega))
     repeat first | (with_reducible refine side_d ?_ ?_; exact byD) | (with_reducible refine side_q ?_ ?_; exact byQ)
     refine cw_ovl (tS := 22) (tR := 4) Tryz.func144 (by kernel_rfl) (by kernel_rfl) (by kernel_rfl) (by kernel_rfl) te22 rfl rfl (by decide) (by omega) ?_
     simp only [go_sem]
     intro t68 e68
     subst e68
     refine cx_if _ rfl (fun h68 => ?_) (fun h68 => no_if h68)
     refine cx_seq (cx_draw mixed [8] (.first 0 (.first 1 (.first 2 (.first 3 (.first 4 (.first 5 (.first 6 (.first 7 (.one 8 (.done)))))))))) (by kernel_rfl) ?_)
     simp only [go_sem]
     intro t72 e72
     (try replace e72 := w64 e72 (by omega) (by omega))
     repeat first | (with_reducible refine side_d ?_ ?_; exact byD) | (with_reducible refine side_q ?_ ?_; exact byQ)
     refine cx_sr ?_
     simp only [go_sem]
     repeat first | (with_reducible refine side_d ?_ ?_; exact byD) | (with_reducible refine side_q ?_ ?_; exact byQ)
     refine cx_sr ?_
     simp only [go_sem]
     refine cx_move 0 rfl ?_
     simp only [go_sem]
     refine cx_ret ?_
     simp only [go_sem]
     have h59 : t59.toNat = l.length + 1 := by omega
     have h72 : t72.toNat = i + 1 := by omega
     refine ⟨[0, 1, 2], rfl, rfl, ?_, ?_⟩
     · exact byC
     · simp only [go_sem, wk, wks, wkB, wkH, h59, h72]
       refine ⟨by omega, fun q hq => wks_mp_of (fun _ => rfl) ?_⟩
       exact ins_in (fun _ => rfl) (by omega) hq (by omega) (by omega)
theorem isVersion_c (n : Int) : Meets Tryz.prog 64 [.int .i64 n] (.bool (decide (1 ≤ n) && decide (n ≤ 1000000))) [] := by
  refine meets_x (fn := Tryz.f64) Tryz.func64 rfl fb64 (by kernel_rfl) (Nat.le_of_ble_eq_true rfl) ?_
  refine cx_sr ?_
  simp only [go_sem]
  repeat first | (with_reducible refine side_d ?_ ?_; exact byD) | (with_reducible refine side_q ?_ ?_; exact byQ)
  refine cx_sr ?_
  simp only [go_sem]
  intro t4 e4
  intro t7 e7
  intro t8 e8
  rw [bsel_and] at e8
  subst e4 e7 e8
  refine cx_ret ?_
  simp only [go_sem]
  exact finw_bool rfl
theorem RIsVersion_c (n : Int) : Meets Tryz.prog 48 [.int .i64 n] (.bool (decide (1 ≤ n) && decide (n ≤ 1000000))) [] := by
  refine meets_x (fn := Tryz.f48) Tryz.func48 rfl fb48 (by kernel_rfl) (Nat.le_of_ble_eq_true rfl) ?_
  refine cx_sr ?_
  simp only [go_sem]
  repeat first | (with_reducible refine side_d ?_ ?_; exact byD) | (with_reducible refine side_q ?_ ?_; exact byQ)
  refine cx_sr ?_
  simp only [go_sem]
  intro t4 e4
  intro t7 e7
  intro t8 e8
  rw [bsel_and] at e8
  subst e4 e7 e8
  refine cx_ret ?_
  simp only [go_sem]
  exact finw_bool rfl
theorem AtCmp_c (x : Entry) (p : Str) : Meets Tryz.prog 87 [.agg x.enc, .str p] (.int .i64 (cmpS x.path p)) [] := by
  refine meets_x (fn := Tryz.f87) Tryz.func87 rfl fb87 (by kernel_rfl) (Nat.le_of_ble_eq_true rfl) ?_
  refine cx_sr ?_
  simp only [go_sem]
  repeat first | (with_reducible refine side_d ?_ ?_; exact byD) | (with_reducible refine side_q ?_ ?_; exact byQ)
  refine cx_sr ?_
  simp only [go_sem]
  refine cw_m (Compare_c x.path p) byW byT ?_
  simp only [go_sem]
  refine cx_ret ?_
  simp only [go_sem]
  exact finw_int rfl
/-- entries, as they are handed over -/
abbrev esV (l : List Entry) : V := lstV 4 Entry.enc default l
theorem At_c (l : List Entry) (p : Str) (hs : SortedE l) (hl : l.length < 4611686018427387904) : Meets Tryz.prog 61 [esV l, .str p] (.tup [.int .i64 (eIx l p : Nat), .bool (hasE l p)]) [] := by
  have hB := BSearch_Entry 87 p (fun x => cmpS x.path p) (fun x => AtCmp_c x p) l hl (eIx l p) (eIx_le l p) (fun j hj => cmp_lt hj) (fun j h1 h2 => cmp_ge hs h1 h2)
  have hh : hasE l p = (decide (eIx l p < l.length) && decide (cmpS (l.getD (eIx l p) default).path p = 0)) := by
    rw [hasE]
    congr 1
    exact decide_eq_decide.2 cmpS_eq.symm
  rw [hh]
  refine meets_x (fn := Tryz.f61) Tryz.func61 rfl fb61 (by kernel_rfl) (Nat.le_of_ble_eq_true rfl) ?_
  refine cx_sr ?_
  simp only [go_sem]
  repeat first | (with_reducible refine side_d ?_ ?_; exact byD) | (with_reducible refine side_q ?_ ?_; exact byQ)
  refine cx_sr ?_
  simp only [go_sem]
  refine cw_m (hB) byW byT ?_
  simp only [go_sem]
  refine cx_ret ?_
  simp only [go_sem]
  exact finw_flat rfl (wk_refl _)
/-- what is wrong with an entry by itself -/
def entErr (x : Entry) : Int :=
  if checkP [x.path] ≠ 0 then checkP [x.path] else if x.folder = true ∧ x.text ≠ [] then 1 else if 300 < (x.text.length : Int) then 2 else if x.version < 1 ∨ 1000000 < x.version then 3 else 0
theorem checkEntry_c (x : Entry) (hx : x.path.length < 4611686018427387904) : Meets Tryz.prog 103 [.agg x.enc] (.int .i64 (entErr x)) [] := by
  refine meets_x (fn := Tryz.f103) Tryz.func103 rfl fb103 (by kernel_rfl) (Nat.le_of_ble_eq_true rfl) ?_
  refine cx_sr ?_
  simp only [go_sem]
  repeat first | (with_reducible refine side_d ?_ ?_; exact byD) | (with_reducible refine side_q ?_ ?_; exact byQ)
  refine cx_seq ?_
  refine cx_sr ?_
  simp only [go_sem]
  refine cw_m (Check_c x.path hx) byW byT ?_
  simp only [go_sem]
  refine cx_sr ?_
  simp only [go_sem]
  intro t8 e8
  subst e8
  refine cx_if _ rfl (fun h8 => ?_) (fun h8 => ?_)
  ·
   (try simp only [go_sem] at h8)
   refine cx_sr ?_
   simp only [go_sem]
   refine cx_ret ?_
   simp only [go_sem]
   refine finw_int ?_
   unfold entErr
   grind
  ·
   (try simp only [go_sem] at h8)
   refine cx_skip ?_
   (try simp only [go_sem])
   refine cx_seq (cx_block ?_)
   refine cx_sr ?_
   simp only [go_sem]
   intro t16 e16
   intro t17 e17
   rw [bsel_and] at e17
   subst e16 e17
   refine cx_if _ rfl (fun h10 => ?_) (fun h10 => ?_)
   ·
    (try simp only [go_sem] at h10)
    refine cx_sr ?_
    simp only [go_sem]
    refine cx_ret ?_
    simp only [go_sem]
    refine finw_int ?_
    unfold entErr
    grind
   ·
    (try simp only [go_sem] at h10)
    refine cx_sr ?_
    simp only [go_sem]
    intro t22 e22
    subst e22
    refine cx_if _ rfl (fun h18 => ?_) (fun h18 => ?_)
    ·
     (try simp only [go_sem] at h18)
     refine cx_sr ?_
     simp only [go_sem]
     refine cx_ret ?_
     simp only [go_sem]
     refine finw_int ?_
     unfold entErr
     grind
    ·
     (try simp only [go_sem] at h18)
     refine cx_sr ?_
     simp only [go_sem]
     refine cw_m (isVersion_c x.version) byW byT ?_
     simp only [go_sem]
     intro t27 e27
     subst e27
     refine cx_if _ rfl (fun h23 => ?_) (fun h23 => ?_)
     ·
      (try simp only [go_sem] at h23)
      refine cx_sr ?_
      simp only [go_sem]
      refine cx_ret ?_
      simp only [go_sem]
      refine finw_int ?_
      unfold entErr
      grind
     ·
      (try simp only [go_sem] at h23)
      refine cx_skip ?_
      (try simp only [go_sem])
      refine cx_sr ?_
      simp only [go_sem]
      refine cx_ret ?_
      simp only [go_sem]
      refine finw_int ?_
      unfold entErr
      grind
end Go.VM.Tryz
end
section
set_option maxHeartbeats 4000000
set_option linter.unusedVariables false
set_option linter.unusedSimpArgs false
open Go Go.VM Go.Proofs Tether
namespace Go.VM.Tryz
set_option maxRecDepth 100000
end Go.VM.Tryz
end
section
set_option maxHeartbeats 4000000
set_option linter.unusedVariables false
set_option linter.unusedSimpArgs false
open Go Go.VM Go.Proofs Tether
namespace Go.VM.Tryz
set_option maxRecDepth 100000
end Go.VM.Tryz
end
section
set_option maxHeartbeats 4000000
set_option linter.unusedVariables false
set_option linter.unusedSimpArgs false
open Go Go.VM Go.Proofs Tether
namespace Go.VM.Tryz
theorem pathN_cons (x : Str) (l : List Str) : ∀ k, pathN (x :: l) (k + 1) = if k = 0 then x else x ++ 47 :: pathN l k
  | 0 => by simp [pathN]
  | k + 1 => by
    have ih := pathN_cons x l k
    rw [pathN, ih]
    by_cases hk : k = 0
    · subst hk; simp [pathN]
    · simp [hk, pathN]
theorem pathN_push (b : UInt8) (x : Str) (l : List Str) (k : Nat) : pathN ((b :: x) :: l) (k + 1) = b :: pathN (x :: l) (k + 1) := by
  rw [pathN_cons, pathN_cons]
  split <;> simp
theorem pathN_pcs : ∀ s : Str, pathN (pcs s) (pcs s).length = s
  | [] => by simp [pcs, pathN]
  | b :: r => by
    have ih := pathN_pcs r
    have hne := pcs_ne r
    by_cases hb : b = 47
    · simp only [pcs, hb, if_true, List.length_cons]
      rw [pathN_cons, if_neg (by simpa using hne), ih]
      simp
    · simp only [pcs, hb, if_false]
      rcases hp : pcs r with _ | ⟨x, xs⟩
      · exact absurd hp hne
      · rw [hp] at ih
        simp only [List.length_cons] at ih ⊢
        rw [pathN_push, ih]
theorem pathN_le : ∀ (s : Str) (k : Nat), k ≤ (pcs s).length → (pathN (pcs s) k).length ≤ s.length
  | _, 0, _ => by simp [pathN]
  | [], k + 1, h => by
    simp [pcs] at h
    subst h
    simp [pcs, pathN]
  | b :: r, k + 1, h => by
    have hne := pcs_ne r
    by_cases hb : b = 47
    · simp only [pcs, hb, if_true, List.length_cons] at h ⊢
      rw [pathN_cons]
      by_cases hk : k = 0
      · simp [hk]
      · have := pathN_le r k (by omega)
        simp [hk]; omega
    · simp only [pcs, hb, if_false] at h ⊢
      rcases hp : pcs r with _ | ⟨x, xs⟩
      · exact absurd hp hne
      · rw [hp] at h
        have := pathN_le r (k + 1) (by rw [hp]; simpa using h)
        rw [hp] at this
        simp only [List.length_cons] at *
        rw [pathN_push]
        simp; omega
theorem at8_cons (b : UInt8) (r : Str) (n : Nat) : at8 (b :: r) (n + 1) = at8 r n := by simp [at8]
theorem lixN_cons (b : UInt8) (r : Str) (c : Int) : ∀ n, lixN (b :: r) c (n + 1) = if 0 ≤ lixN r c n then lixN r c n + 1 else if (b.toNat : Int) = c then 0 else -1
  | 0 => by simp [lixN, at8]
  | n + 1 => by
    have ih := lixN_cons b r c n
    rw [lixN, at8_cons, ih]
    by_cases h : at8 r n = c
    · simp only [lixN, h, if_true]
      have : (0 : Int) ≤ n := by omega
      simp [this]
    · simp only [lixN, h, if_false]
theorem b47 (b : UInt8) : ((b.toNat : Int) = 47) ↔ b = 47 := by
  constructor
  · intro h
    apply UInt8.toNat_inj.1
    have : (47 : UInt8).toNat = 47 := rfl
    rw [this]; omega
  · intro h; rw [h]; rfl
theorem lix_pcs : ∀ s : Str, lix s 47 = -1 ↔ (pcs s).length = 1
  | [] => ⟨fun _ => rfl, fun _ => rfl⟩
  | b :: r => by
    have ih := lix_pcs r
    have hne := pcs_ne r
    have hb2 := b47 b
    have hle := lixN_le r 47 r.length
    show lixN (b :: r) 47 (r.length + 1) = -1 ↔ _
    rw [lixN_cons]
    by_cases hb : b = 47
    · simp only [pcs, hb, if_true, List.length_cons]
      have h0 : 0 < (pcs r).length := List.length_pos_iff.2 hne
      constructor
      · intro h
        have e : ((47 : UInt8).toNat : Int) = 47 := rfl
        rw [if_pos e] at h
        split at h <;> omega
      · intro h; omega
    · have hn : ¬ ((b.toNat : Int) = 47) := fun h => hb (hb2.1 h)
      have hlen : (pcs (b :: r)).length = (pcs r).length := by
        simp only [pcs, hb, if_false]
        rcases hp : pcs r with _ | ⟨x, xs⟩
        · exact absurd hp hne
        · rfl
      rw [if_neg hn, hlen, ← ih]
      show _ ↔ lixN r 47 r.length = -1
      split <;> omega
theorem head_pcs : ∀ s : Str, pathN (pcs s) ((pcs s).length - 1) = headOf s
  | [] => by simp [pcs, pathN, headOf]
  | b :: r => by
    have ih := head_pcs r
    have hne := pcs_ne r
    have h0 : 0 < (pcs r).length := List.length_pos_iff.2 hne
    have hlp := lix_pcs r
    have hle := lixN_le r 47 r.length
    have hlc : lix (b :: r) 47 = if 0 ≤ lix r 47 then lix r 47 + 1 else if (b.toNat : Int) = 47 then 0 else -1 := lixN_cons b r 47 r.length
    unfold headOf at ih ⊢
    rw [hlc]
    by_cases h1 : 0 ≤ lix r 47
    · have hn1 : (pcs r).length ≠ 1 := fun h => by have := hlp.2 h; omega
      obtain ⟨m, hm⟩ : ∃ m, (pcs r).length = m + 2 := ⟨(pcs r).length - 2, by omega⟩
      have ht : (lix r 47 + 1).toNat = (lix r 47).toNat + 1 := by omega
      rw [if_pos h1, ht, List.take_succ_cons, ← ih]
      by_cases hb : b = 47
      · simp only [pcs, hb, if_true, List.length_cons, hm]
        show pathN ([] :: pcs r) (m + 2) = _
        rw [pathN_cons]
        simp
      · simp only [pcs, hb, if_false]
        rcases hp : pcs r with _ | ⟨x, xs⟩
        · exact absurd hp hne
        · rw [hp] at hm
          simp only [List.length_cons] at hm ⊢
          rw [show xs.length + 1 - 1 = m + 1 by omega, pathN_push]
    · have e1 : lix r 47 = -1 := by have : -1 ≤ lix r 47 := hle.1; omega
      have hn1 := hlp.1 e1
      rw [if_neg h1]
      by_cases hb : b = 47
      · simp only [pcs, hb, if_true, List.length_cons, hn1]
        simp [pathN]
      · have hlen : (pcs (b :: r)).length = (pcs r).length := by
          simp only [pcs, hb, if_false]
          rcases hp : pcs r with _ | ⟨x, xs⟩
          · exact absurd hp hne
          · rfl
        rw [hlen, hn1, if_neg (fun h => hb ((b47 b).1 h))]
        simp [pathN]
end Go.VM.Tryz
end
section
set_option maxHeartbeats 4000000
set_option linter.unusedVariables false
set_option linter.unusedSimpArgs false
open Go Go.VM Go.Proofs Tether
namespace Go.VM.Tryz
theorem tail_pcs : ∀ s : Str, (pcs s).getD ((pcs s).length - 1) [] = tailOf s
  | [] => by simp [pcs, tailOf]
  | b :: r => by
    have ih := tail_pcs r
    have hne := pcs_ne r
    have h0 : 0 < (pcs r).length := List.length_pos_iff.2 hne
    have hlp := lix_pcs r
    have hle := lixN_le r 47 r.length
    have hlc : lix (b :: r) 47 = if 0 ≤ lix r 47 then lix r 47 + 1 else if (b.toNat : Int) = 47 then 0 else -1 := lixN_cons b r 47 r.length
    unfold tailOf at ih ⊢
    rw [hlc]
    by_cases h1 : 0 ≤ lix r 47
    · have hn1 : (pcs r).length ≠ 1 := fun h => by have := hlp.2 h; omega
      obtain ⟨m, hm⟩ : ∃ m, (pcs r).length = m + 2 := ⟨(pcs r).length - 2, by omega⟩
      have ht : (lix r 47 + 1 + 1).toNat = (lix r 47 + 1).toNat + 1 := by omega
      rw [if_pos h1, ht, List.drop_succ_cons, ← ih]
      by_cases hb : b = 47
      · simp only [pcs, hb, if_true, List.length_cons, hm]
        simp [List.getD_eq_getElem?_getD]
      · simp only [pcs, hb, if_false]
        rcases hp : pcs r with _ | ⟨x, xs⟩
        · exact absurd hp hne
        · rw [hp] at hm
          simp only [List.length_cons] at hm ⊢
          rw [show xs.length + 1 - 1 = m + 1 by omega]
          simp [List.getD_eq_getElem?_getD]
    · have e1 : lix r 47 = -1 := by have : -1 ≤ lix r 47 := hle.1; omega
      have hn1 := hlp.1 e1
      have hr : pcs r = [r] := by
        rw [hn1, e1] at ih
        obtain ⟨x, hx⟩ := List.length_eq_one_iff.1 hn1
        rw [hx] at ih ⊢
        simp at ih
        rw [ih]
      rw [if_neg h1]
      by_cases hb : b = 47
      · subst hb
        simp only [pcs, if_true, hr]
        have e : ((47 : UInt8).toNat : Int) = 47 := rfl
        rw [if_pos e]
        rfl
      · simp only [pcs, hb, if_false, hr]
        rw [if_neg (fun h => hb ((b47 b).1 h))]
        rfl
end Go.VM.Tryz
end
section
set_option maxHeartbeats 4000000
set_option linter.unusedVariables false
set_option linter.unusedSimpArgs false
open Go Go.VM Go.Proofs Tether
namespace Go.VM.Tryz
/-- one list begins the other -/
def begins : List Str → List Str → Bool
  | _, [] => true
  | [], _ :: _ => false
  | x :: a, y :: b => decide (x = y) && begins a b
theorem inP_begins : ∀ (a b : List Str), inP a b = begins a b
  | a, [] => by simp [inP, begins]
  | [], y :: b => by simp [inP, begins]
  | x :: a, y :: b => by
    have ih := inP_begins a b
    rw [begins, ← ih]
    simp only [inP, List.length_cons, List.range_succ_eq_map, List.all_cons, List.all_map]
    have e : ((fun i => decide ((x :: a).getD i [] = (y :: b).getD i [])) ∘ Nat.succ) = fun i => decide (a.getD i [] = b.getD i []) := by
      funext i; simp
    rw [e]
    have h : decide (b.length + 1 ≤ a.length + 1) = decide (b.length ≤ a.length) := by simp
    rw [h]
    simp only [List.getD_cons_zero]
    cases decide (b.length ≤ a.length) <;> cases decide (x = y) <;> simp
end Go.VM.Tryz
end
section
set_option maxHeartbeats 4000000
set_option linter.unusedVariables false
set_option linter.unusedSimpArgs false
open Go Go.VM Go.Proofs Tether
namespace Go.VM.Tryz
theorem pcs_slash (r : Str) : pcs (47 :: r) = [] :: pcs r := by simp [pcs]
theorem pcs_other {b : UInt8} (hb : b ≠ 47) {r x : Str} {xs : List Str} (h : pcs r = x :: xs) : pcs (b :: r) = (b :: x) :: xs := by simp [pcs, hb, h]
theorem pcs_some (r : Str) : ∃ x xs, pcs r = x :: xs := by
  rcases h : pcs r with _ | ⟨x, xs⟩
  · exact absurd h (pcs_ne r)
  · exact ⟨x, xs, rfl⟩
theorem begins_iff : ∀ (b a : Str), begins (pcs a) (pcs b) = true ↔ a = b ∨ ∃ t, a = b ++ 47 :: t
  | [], [] => by simp [pcs, begins]
  | [], c :: a => by
    by_cases hc : c = 47
    · subst hc
      rw [pcs_slash]
      simp [pcs, begins]
    · obtain ⟨x, xs, hx⟩ := pcs_some a
      rw [pcs_other hc hx]
      simp [pcs, begins, hc]
  | d :: b, [] => by
    obtain ⟨y, ys, hy⟩ := pcs_some b
    by_cases hd : d = 47
    · subst hd
      rw [pcs_slash, hy]
      simp [pcs, begins]
    · rw [pcs_other hd hy]
      simp [pcs, begins]
  | d :: b, c :: a => by
    have ih := begins_iff b a
    obtain ⟨y, ys, hy⟩ := pcs_some b
    obtain ⟨x, xs, hx⟩ := pcs_some a
    by_cases hd : d = 47
    · subst hd
      by_cases hc : c = 47
      · subst hc
        rw [pcs_slash, pcs_slash, begins]
        simp [ih]
      · rw [pcs_slash, pcs_other hc hx, begins]
        simp [hc]
    · by_cases hc : c = 47
      · subst hc
        rw [pcs_slash, pcs_other hd hy, begins]
        have : ¬ (47 : UInt8) = d := fun e => hd e.symm
        simp [this]
      · rw [pcs_other hd hy, pcs_other hc hx, begins]
        rw [hx, hy, begins] at ih
        by_cases hcd : c = d
        · subst hcd
          simpa using ih
        · simp [hcd]
theorem isIn_pcs (a b : Str) : isIn a b = inP (pcs a) (pcs b) := by
  rw [inP_begins, Bool.eq_iff_iff, begins_iff]
  simp only [isIn, hasPre, Bool.or_eq_true, decide_eq_true_eq, Bool.and_eq_true]
  constructor
  · rintro (h | ⟨h1, h2⟩)
    · exact .inl h
    · refine .inr ⟨a.drop (b ++ [47]).length, ?_⟩
      conv => lhs; rw [← List.take_append_drop (b ++ [47]).length a, h2]
      simp
  · rintro (h | ⟨t, rfl⟩)
    · exact .inl h
    · refine .inr ⟨by simp, ?_⟩
      rw [show b ++ 47 :: t = (b ++ [47]) ++ t by simp, List.take_left]
end Go.VM.Tryz
end
section
set_option maxHeartbeats 4000000
set_option linter.unusedVariables false
set_option linter.unusedSimpArgs false
open Go Go.VM Go.Proofs Tether
namespace Go.VM.Tryz
theorem pcs_app : ∀ (a b : Str), pcs (a ++ 47 :: b) = pcs a ++ pcs b
  | [], b => by simp [pcs]
  | c :: a, b => by
    have ih := pcs_app a b
    obtain ⟨x, xs, hx⟩ := pcs_some a
    by_cases hc : c = 47
    · subst hc
      rw [List.cons_append, pcs_slash, pcs_slash, ih]
      rfl
    · rw [hx] at ih
      rw [List.cons_append, pcs_other hc hx, pcs_other hc (x := x) (xs := xs ++ pcs b) (by rw [ih]; rfl)]
      rfl
theorem isIn_iff (a b : Str) : isIn a b = true ↔ a = b ∨ ∃ t, a = b ++ 47 :: t := by
  rw [isIn_pcs, inP_begins, begins_iff]
theorem moved_pcs {p f : Str} (t : Str) (h : isIn p f = true) : pcs t ++ (pcs p).drop (pcs f).length = pcs (t ++ p.drop f.length) := by
  rcases (isIn_iff p f).1 h with rfl | ⟨u, rfl⟩
  · simp
  · rw [pcs_app, List.drop_left, List.drop_left, pcs_app]
theorem pathN_app (a b : List Str) : ∀ k, k ≤ a.length → pathN (a ++ b) k = pathN a k
  | 0, _ => rfl
  | k + 1, h => by
    simp only [pathN]
    rw [pathN_app a b k (by omega)]
    simp [List.getD_eq_getElem?_getD, List.getElem?_append_left (show k < a.length by omega)]
theorem headOf_join {h x : Str} (hx : 47 ∉ x) : headOf (h ++ 47 :: x) = h := by
  rw [← head_pcs, pcs_app, pcs_no x hx]
  simp only [List.length_append, List.length_cons, List.length_nil, Nat.zero_add, Nat.add_sub_cancel]
  rw [pathN_app _ _ _ (Nat.le_refl _), pathN_pcs]
theorem headOf_no {x : Str} (hx : 47 ∉ x) : headOf x = [] := by
  rw [← head_pcs, pcs_no x hx]
  rfl
theorem tailOf_join {h x : Str} (hx : 47 ∉ x) : tailOf (h ++ 47 :: x) = x := by
  rw [← tail_pcs, pcs_app, pcs_no x hx]
  simp [List.getD_eq_getElem?_getD]
theorem tailOf_no {x : Str} (hx : 47 ∉ x) : tailOf x = x := by
  rw [← tail_pcs, pcs_no x hx]
  rfl
/-- a text is one piece, or a front, a slash, and a last piece -/
theorem cut_last : ∀ s : Str, 47 ∉ s ∨ ∃ h x, s = h ++ 47 :: x ∧ 47 ∉ x
  | [] => .inl (by simp)
  | c :: s => by
    rcases cut_last s with h | ⟨h, x, rfl, hx⟩
    · by_cases hc : c = 47
      · subst hc
        exact .inr ⟨[], s, rfl, h⟩
      · exact .inl (by simp [h]; exact fun e => hc e.symm)
    · exact .inr ⟨c :: h, x, rfl, hx⟩
theorem checkP_iff (p : Str) : checkP [p] = 0 ↔ (∀ x ∈ pcs p, isName x = true) ∧ greatB p = false := by
  simp only [checkP]
  constructor
  · intro h
    split at h
    · rename_i h1
      split at h
      · cases h
      · rename_i h2
        exact ⟨List.all_eq_true.1 h1, by simpa using h2⟩
    · cases h
  · rintro ⟨h1, h2⟩
    rw [if_pos (List.all_eq_true.2 h1), if_neg (by simp [h2])]
theorem checkP2 (p q : Str) : checkP [p, q] = 0 ↔ checkP [p] = 0 ∧ checkP [q] = 0 := by
  rw [checkP_cons]
  by_cases h : checkP [p] = 0
  · simp [h]
  · simp [h]
theorem checkP3 (p q r : Str) : checkP [p, q, r] = 0 ↔ checkP [p] = 0 ∧ checkP [q] = 0 ∧ checkP [r] = 0 := by
  rw [checkP_cons, ← checkP2]
  by_cases h : checkP [p] = 0
  · simp [h]
  · simp [h]
theorem greatB_false (s : Str) : greatB s = false ↔ s.count 47 < 6 ∧ s.length ≤ 80 := by
  simp only [greatB, Bool.or_eq_false_iff, decide_eq_false_iff_not]
  omega
theorem isName_ne {x : Str} (h : isName x = true) : x ≠ [] := by
  rintro rfl
  simp [isName] at h
/-- A PATH IS ITS FRONT AND ITS NAME -/
theorem parts {p : Str} (h : checkP [p] = 0) : isName (tailOf p) = true ∧ (if headOf p = [] then tailOf p else headOf p ++ 47 :: tailOf p) = p ∧ (headOf p ≠ [] → checkP [headOf p] = 0) := by
  obtain ⟨h1, h2⟩ := (checkP_iff p).1 h
  rcases cut_last p with hp | ⟨f, x, rfl, hx⟩
  · rw [headOf_no hp, tailOf_no hp]
    refine ⟨h1 p (by rw [pcs_no p hp]; simp), by simp, fun h => absurd rfl h⟩
  · rw [headOf_join hx, tailOf_join hx]
    rw [pcs_app, pcs_no x hx] at h1
    have hf : f ≠ [] := by
      rintro rfl
      exact isName_ne (h1 [] (by simp [pcs])) rfl
    refine ⟨h1 x (by simp), by rw [if_neg hf], fun _ => (checkP_iff f).2 ⟨fun y hy => h1 y (by simp [hy]), ?_⟩⟩
    rw [greatB_false] at h2 ⊢
    simp at h2
    omega
end Go.VM.Tryz
end
section
set_option maxHeartbeats 4000000
set_option linter.unusedVariables false
set_option linter.unusedSimpArgs false
open Go Go.VM Go.Proofs Tether
namespace Go.VM.Tryz
set_option maxRecDepth 100000
theorem ParentOf2_c (s : Str) (hs : (s.length + 1) * 16 ≤ 140737488355328) : Meets Tryz.prog 50 [.str s] (.str (headOf s)) [] := by
  have h := ParentOf_c s hs (fun i hi => by have := pathN_le s i hi; omega)
  rwa [head_pcs] at h
theorem IsIn2_c (a b : Str) (ha : (a.length + 1) * 16 ≤ 140737488355328) (hb : (b.length + 1) * 16 ≤ 140737488355328) : Meets Tryz.prog 67 [.str a, .str b] (.bool (isIn a b)) [] := by
  rw [isIn_pcs]
  exact IsIn_c a b ha hb
theorem PathOfM_c {p f : Str} (t : Str) (h : isIn p f = true) (hp : p.length ≤ 1048576) (ht : t.length ≤ 1048576) : Meets Tryz.prog 69 [strsV' (pcs t ++ (pcs p).drop (pcs f).length)] (.str (t ++ p.drop f.length)) [] := by
  have hm := moved_pcs t h
  have hl : (t ++ p.drop f.length).length ≤ 2097152 := by simp; omega
  have hpl : (pcs (t ++ p.drop f.length)).length ≤ (t ++ p.drop f.length).length + 1 := by rw [pcs_cnt]; have := List.count_le_length (a := (47 : UInt8)) (l := (t ++ p.drop f.length)); omega
  have := PathOf_c (pcs t ++ (pcs p).drop (pcs f).length) (by rw [hm]; omega) (fun i hi => by
    rw [hm] at hi ⊢
    have := pathN_le _ i hi
    omega)
  rw [hm, pathN_pcs] at this
  rwa [hm]
end Go.VM.Tryz
end
section
set_option maxHeartbeats 4000000
set_option linter.unusedVariables false
set_option linter.unusedSimpArgs false
open Go Go.VM Go.Proofs Tether
namespace Go.VM.Tryz
set_option maxRecDepth 100000
def noE : Entry := ⟨[], false, [], 0⟩
def topE : Entry := ⟨[], true, [], 0⟩
def parE (l : List Entry) (p : Str) : Entry × Bool := if headOf p = [] then (topE, true) else if hasE l (headOf p) = true then (l.getD (eIx l (headOf p)) default, true) else (noE, false)
def sortedB (l : List Entry) : Bool := (List.range l.length).all fun i => decide (i = 0) || blt (l.getD (i - 1) default).path (l.getD i default).path
def parsB (l : List Entry) : Bool := l.all fun x => (parE l x.path).2
def parfB (l : List Entry) : Bool := l.all fun x => (parE l x.path).1.folder
def checkT (l : List Entry) : Int :=
  if 60 < (l.length : Int) then 2 else if firstErr entErr l ≠ 0 then firstErr entErr l else if sortedB l = false then 4 else if parsB l = false then 5 else if parfB l = false then 4 else 0
/-- entries that are not too great for memory -/
def okE (l : List Entry) : Prop := l.length ≤ 1048576 ∧ ∀ x ∈ l, x.path.length ≤ 1048576 ∧ x.text.length ≤ 1048576
theorem okE.at {l : List Entry} (h : okE l) {i : Nat} (hi : i < l.length) : (l.getD i default).path.length ≤ 1048576 ∧ (l.getD i default).text.length ≤ 1048576 := h.2 _ (getD_mem hi)
theorem sorted_of {l : List Entry} (h : ∀ i, 1 ≤ i → i < l.length → blt (l.getD (i - 1) default).path (l.getD i default).path = true) : SortedE l := by
  have hr : ∀ i, i + 1 < l.length → (l.getD i default).path < (l.getD (i + 1) default).path := fun i hi => blt_iff.1 (by simpa using h (i + 1) (by omega) hi)
  unfold SortedE
  clear h
  induction l with
  | nil => exact List.Pairwise.nil
  | cons x l ih =>
    have ih := ih fun i hi => by simpa using hr (i + 1) (by simpa using hi)
    refine List.pairwise_cons.2 ⟨fun y hy => ?_, ih⟩
    cases l with
    | nil => cases hy
    | cons z l =>
      have h0 : x.path < z.path := by simpa using hr 0 (by simp)
      rcases List.mem_cons.1 hy with rfl | hy
      · exact h0
      · exact lt_trans' h0 ((List.pairwise_cons.1 ih).1 y hy)
theorem sortedB_of {l : List Entry} (h : ∀ i, 1 ≤ i → i < l.length → blt (l.getD (i - 1) default).path (l.getD i default).path = true) : sortedB l = true := by
  unfold sortedB
  refine range_all_true fun i hi => ?_
  by_cases h0 : i = 0
  · simp [h0]
  · rw [h i (by omega) hi]; simp
theorem sortedB_iff {l : List Entry} : sortedB l = true ↔ SortedE l := by
  constructor
  · intro h
    refine sorted_of fun i h1 h2 => ?_
    have := List.all_eq_true.1 h i (by simpa using h2)
    simpa [show i ≠ 0 by omega] using this
  · intro h
    refine sortedB_of fun i h1 h2 => blt_iff.2 ?_
    have := List.pairwise_iff_getElem.1 h (i - 1) i (by omega) h2 (by omega)
    simpa [List.getD, h2, show i - 1 < l.length by omega] using this
theorem parent_c (l : List Entry) (p : Str) (hs : SortedE l) (hl : l.length < 4611686018427387904) (hp : p.length < 4611686018427387904) : Meets Tryz.prog 104 [esV l, .str p] (.tup [.agg (parE l p).1.enc, .bool (parE l p).2]) [] := by
  refine meets_x (fn := Tryz.f104) Tryz.func104 rfl fb104 (by kernel_rfl) (Nat.le_of_ble_eq_true rfl) ?_
  refine cx_sr ?_
  simp only [go_sem]
  repeat first | (with_reducible refine side_d ?_ ?_; exact byD) | (with_reducible refine side_q ?_ ?_; exact byQ)
  refine cx_sr ?_
  simp only [go_sem]
  refine cw_m (Split_c p hp) byW byT ?_
  simp only [go_sem]
  refine cx_seq ?_
  refine cx_sr ?_
  simp only [go_sem]
  intro t16 e16
  subst e16
  refine cx_if _ rfl (fun h16 => ?_) (fun h16 => ?_)
  ·
   (try simp only [go_sem] at h16)
   refine cx_sr ?_
   simp only [go_sem]
   refine cx_ret ?_
   simp only [go_sem]
   have h : headOf p = [] := by simpa using h16
   rw [parE, if_pos h]
   exact finw_flat rfl (wk_refl _)
  ·
   (try simp only [go_sem] at h16)
   refine cx_skip ?_
   (try simp only [go_sem])
   refine cx_sr ?_
   simp only [go_sem]
   refine cw_m (At_c l (headOf p) hs hl) byW byT ?_
   simp only [go_sem]
   refine cx_seq ?_
   refine cx_sr ?_
   simp only [go_sem]
   intro t25 e25
   subst e25
   refine cx_if _ rfl (fun h25 => ?_) (fun h25 => ?_)
   ·
    (try simp only [go_sem] at h25)
    refine cx_sr ?_
    simp only [go_sem]
    refine cx_ret ?_
    simp only [go_sem]
    have h : ¬ headOf p = [] := by simpa using h16
    have hh : ¬ hasE l (headOf p) = true := by simpa using h25
    rw [parE, if_neg h, if_neg hh]
    exact finw_flat rfl (wk_refl _)
   ·
    (try simp only [go_sem] at h25)
    have hh : hasE l (headOf p) = true := by simpa using h25
    have hix : eIx l (headOf p) < l.length := by simp [hasE] at hh; exact hh.1
    refine cx_skip ?_
    (try simp only [go_sem])
    refine cx_sr ?_
    simp only [go_sem]
    repeat first | (with_reducible refine side_d ?_ ?_; exact byD) | (with_reducible refine side_q ?_ ?_; exact byQ)
    refine cx_ret ?_
    simp only [go_sem]
    have h : ¬ headOf p = [] := by simpa using h16
    rw [parE, if_neg h, if_pos hh]
    exact finw_flat rfl (wk_refl _)
def outP (l : List Entry) (i : Nat) : Int := if ((l.take i).all fun x => (parE l x.path).1.folder) = true then 0 else 4
theorem outP_snoc {l : List Entry} {i : Nat} (h : i < l.length) : ((l.take (i + 1)).all fun x => (parE l x.path).1.folder) = (((l.take i).all fun x => (parE l x.path).1.folder) && (parE l (l.getD i default).path).1.folder) := by
  have hd : l.getD i default = l[i] := by simp [List.getD, h]
  rw [hd, List.take_add_one, List.getElem?_eq_getElem h, List.all_append]
  simp
theorem checkTree_c (l : List Entry) (ok : okE l) : Meets Tryz.prog 83 [esV l] (.int .i64 (checkT l)) [] := by
  refine meets_x (fn := Tryz.f83) Tryz.func83 rfl fb83 (by kernel_rfl) (Nat.le_of_ble_eq_true rfl) ?_
  have hl := ok.1
  refine cx_sr ?_
  simp only [go_sem]
  repeat first | (with_reducible refine side_d ?_ ?_; exact byD) | (with_reducible refine side_q ?_ ?_; exact byQ)
  refine cx_seq ?_
  refine cx_sr ?_
  simp only [go_sem]
  intro t14 e14
  subst e14
  refine cx_if _ rfl (fun h14 => ?_) (fun h14 => ?_)
  ·
   (try simp only [go_sem] at h14)
   refine cx_sr ?_
   simp only [go_sem]
   refine cx_ret ?_
   simp only [go_sem]
   refine finw_int ?_
   rw [checkT, if_pos (by omega)]
  ·
   (try simp only [go_sem] at h14)
   have h60 : ¬ 60 < (l.length : Int) := by omega
   refine cx_skip ?_
   (try simp only [go_sem])
   refine cx_seq ?_
   refine cx_sr ?_
   simp only [go_sem]
   refine cx_block ?_
   refine cx_loop0 (σ := Nat) (fun i => i ≤ l.length ∧ ∀ j, j < i → entErr (l.getD j default) = 0) (fun i => [⟨17, 0, [], .int .i64 (i : Nat)⟩]) [0, 15, 16] (fun i => l.length - i) 0 ⟨Nat.zero_le _, fun j hj => absurd hj (Nat.not_lt_zero j)⟩ (Nat.zero_le _) byC (fun i hI1 => ?_)
   simp only [go_sem]
   refine cx_sr ?_
   simp only [go_sem]
   repeat first | (with_reducible refine side_d ?_ ?_; exact byD) | (with_reducible refine side_q ?_ ?_; exact byQ)
   intro t18 e18
   subst e18
   refine cx_seq ?_
   refine cx_if _ rfl (fun h18 => ?_) (fun h18 => ?_)
   ·
    (try simp only [go_sem] at h18)
    refine cx_skip ?_
    (try simp only [go_sem])
    refine cx_seq (cx_block ?_)
    refine cx_sr ?_
    simp only [go_sem]
    repeat first | (with_reducible refine side_d ?_ ?_; exact byD) | (with_reducible refine side_q ?_ ?_; exact byQ)
    refine cx_sr ?_
    simp only [go_sem]
    refine cw_m (checkEntry_c (l.getD i default) (by have := ok.at (i := i) (by omega); omega)) byW byT ?_
    simp only [go_sem]
    refine cx_sr ?_
    simp only [go_sem]
    intro t24 e24
    subst e24
    refine cx_if _ rfl (fun h24 => ?_) (fun h24 => ?_)
    ·
     (try simp only [go_sem] at h24)
     refine cx_sr ?_
     simp only [go_sem]
     refine cx_ret ?_
     simp only [go_sem]
     refine finw_int ?_
     have h1 : firstErr entErr l = entErr (l.getD i default) := firstErr_at (by omega) hI1.2 h24
     rw [checkT, if_neg h60, if_pos (by rw [h1]; exact h24), h1]
    ·
     (try simp only [go_sem] at h24)
     refine cx_skip ?_
     (try simp only [go_sem])
     refine cx_region ?_
     simp only [go_sem]
     intro t26 e26
     (try replace e26 := w64 e26 (by omega) (by omega))
     refine rnd_next (i + 1) ⟨by omega, all_next hI1.2 (by simpa using h24)⟩ (by first | omega | (dsimp only; omega)) byC
   ·
    (try simp only [go_sem] at h18)
    have hE : firstErr entErr l = 0 := firstErr_none (d := default) fun j hj => hI1.2 j (by omega)
    refine cx_exit ?_
    simp only [go_sem]
    refine cx_seq ?_
    refine cx_sr ?_
    simp only [go_sem]
    refine cx_block ?_
    refine cx_loop0 (σ := Nat) (fun i => 1 ≤ i ∧ (i ≤ l.length ∨ i = 1) ∧ ∀ j, j < i → 1 ≤ j → blt (l.getD (j - 1) default).path (l.getD j default).path = true) (fun i => [⟨6, 0, [], .int .i64 (i : Nat)⟩]) [0] (fun i => l.length - i) 1 ⟨Nat.le_refl _, .inr rfl, fun j h1 h2 => by omega⟩ (Nat.zero_le _) byC (fun i hI2 => ?_)
    simp only [go_sem]
    refine cx_seq ?_
    refine cx_sr ?_
    simp only [go_sem]
    repeat first | (with_reducible refine side_d ?_ ?_; exact byD) | (with_reducible refine side_q ?_ ?_; exact byQ)
    intro t30 e30
    subst e30
    refine cx_if _ rfl (fun h30 => ?_) (fun h30 => ?_)
    ·
     (try simp only [go_sem] at h30)
     refine cx_skip ?_
     (try simp only [go_sem])
     refine cx_seq (cx_block ?_)
     refine cx_seq (cx_draw mixed [] (.first 0 (.first 1 (.first 2 (.first 3 (.first 4 (.first 5 (.first 6 (.first 7 (.first 8 (.first 9 (.first 10 (.first 11 (.done))))))))))))) (by kernel_rfl) ?_)
     simp only [go_sem]
     repeat first | (with_reducible refine side_d ?_ ?_; exact byD) | (with_reducible refine side_q ?_ ?_; exact byQ)
     intro t40 e40
     (try replace e40 := w64 e40 (by omega) (by omega))
     repeat first | (with_reducible refine side_d ?_ ?_; exact byD) | (with_reducible refine side_q ?_ ?_; exact byQ)
     intro t44 e44
     subst e44
     have e40' : t40.toNat = i - 1 := by omega
     refine cx_if _ rfl (fun h44 => ?_) (fun h44 => ?_)
     ·
      (try simp only [go_sem] at h44)
      refine cx_sr ?_
      simp only [go_sem]
      refine cx_ret ?_
      simp only [go_sem]
      refine finw_int ?_
      have hr : sortedB l = false := by
        have hb : blt (l.getD (i - 1) default).path (l.getD i default).path = false := by
          rw [e40'] at h44
          rcases h44 with h | h
          · rw [blt_iff] at h
            cases hb : blt (l.getD (i - 1) default).path (l.getD i default).path with
            | false => rfl
            | true => exact absurd (blt_iff.1 hb) (lt_asymm' h)
          · cases hb : blt (l.getD (i - 1) default).path (l.getD i default).path with
            | false => rfl
            | true =>
              have := blt_iff.1 hb
              rw [h] at this
              exact absurd this (lt_irrefl' _)
        refine range_all_false (i := i) (by omega) ?_
        rw [hb, decide_eq_false (by omega)]
        rfl
      rw [checkT, if_neg h60, if_neg (by simp [hE]), if_pos hr]
     ·
      (try simp only [go_sem] at h44)
      refine cx_skip ?_
      (try simp only [go_sem])
      refine cx_region ?_
      simp only [go_sem]
      intro t32 e32
      (try replace e32 := w64 e32 (by omega) (by omega))
      have hb : blt (l.getD (i - 1) default).path (l.getD i default).path = true := by
        rw [e40'] at h44
        rcases str_tri (l.getD (i - 1) default).path (l.getD i default).path with h | h | h
        · exact blt_iff.2 h
        · exact absurd h.symm h44.2
        · rw [← blt_iff, h44.1] at h
          cases h
      refine rnd_next (i + 1) ⟨by omega, by omega, fun j h1 h2 => ?_⟩ (by first | omega | (dsimp only; omega)) byC
      rcases Nat.lt_or_ge j i with h3 | h3
      · exact hI2.2.2 j h3 h2
      · obtain rfl : j = i := by omega
        exact hb
    ·
     (try simp only [go_sem] at h30)
     have hs : SortedE l := sorted_of fun i' h1 h2 => hI2.2.2 i' (by omega) h1
     refine cx_exit ?_
     simp only [go_sem]
     refine cx_sr ?_
     simp only [go_sem]
     refine cx_seq ?_
     refine cx_sr ?_
     simp only [go_sem]
     refine cx_block ?_
     refine cx_loop0 (σ := Nat) (fun i => i ≤ l.length ∧ ∀ j, j < i → (parE l (l.getD j default).path).2 = true) (fun i => [⟨47, 0, [], .int .i64 (i : Nat)⟩, ⟨7, 0, [], .int .i64 (outP l i)⟩]) [0, 45, 46] (fun i => l.length - i) 0 ⟨Nat.zero_le _, fun j hj => absurd hj (Nat.not_lt_zero j)⟩ (Nat.zero_le _) byC (fun i hI3 => ?_)
     simp only [go_sem]
     refine cx_sr ?_
     simp only [go_sem]
     repeat first | (with_reducible refine side_d ?_ ?_; exact byD) | (with_reducible refine side_q ?_ ?_; exact byQ)
     intro t48 e48
     subst e48
     refine cx_seq ?_
     refine cx_if _ rfl (fun h48 => ?_) (fun h48 => ?_)
     ·
      (try simp only [go_sem] at h48)
      refine cx_skip ?_
      (try simp only [go_sem])
      refine cx_seq (cx_block ?_)
      refine cx_sr ?_
      simp only [go_sem]
      repeat first | (with_reducible refine side_d ?_ ?_; exact byD) | (with_reducible refine side_q ?_ ?_; exact byQ)
      refine cx_sr ?_
      simp only [go_sem]
      refine cw_m (parent_c l (l.getD i default).path hs (by omega) (by have := ok.at (i := i) (by omega); omega)) byW byT ?_
      simp only [go_sem]
      refine cx_block ?_
      refine cx_sr ?_
      simp only [go_sem]
      intro t60 e60
      subst e60
      refine cx_if _ rfl (fun h58 => ?_) (fun h58 => ?_)
      ·
       (try simp only [go_sem] at h58)
       refine cx_sr ?_
       simp only [go_sem]
       refine cx_ret ?_
       simp only [go_sem]
       refine finw_int ?_
       have hr : parsB l = false := all_at (d := default) (i := i) (by omega) (by simpa using h58)
       rw [checkT, if_neg h60, if_neg (by simp [hE]), if_neg (by simp [sortedB_iff.2 hs]), if_pos hr]
      ·
       (try simp only [go_sem] at h58)
       refine cx_sr ?_
       simp only [go_sem]
       intro t64 e64
       subst e64
       refine cx_if _ rfl (fun h61 => ?_) (fun h61 => ?_)
       ·
        (try simp only [go_sem] at h61)
        refine cx_region ?_
        simp only [go_sem]
        refine cx_region ?_
        simp only [go_sem]
        intro t65 e65
        (try replace e65 := w64 e65 (by omega) (by omega))
        have hf : (parE l (l.getD i default).path).1.folder = false := by simpa using h61
        have ho : outP l (i + 1) = 4 := by
          rw [outP, if_neg]
          rw [outP_snoc (by omega), hf]
          simp
        refine rnd_next (i + 1) ⟨by omega, all_next hI3.2 (by simpa using h58)⟩ (by first | omega | (dsimp only; omega)) ?_
        rw [ho]
        exact byC
       ·
        (try simp only [go_sem] at h61)
        refine cx_skip ?_
        (try simp only [go_sem])
        refine cx_region ?_
        simp only [go_sem]
        intro t65 e65
        (try replace e65 := w64 e65 (by omega) (by omega))
        have hf : (parE l (l.getD i default).path).1.folder = true := by simpa using h61
        have ho : outP l (i + 1) = outP l i := by
          rw [outP, outP, outP_snoc (by omega), hf, Bool.and_true]
        refine rnd_next (i + 1) ⟨by omega, all_next hI3.2 (by simpa using h58)⟩ (by first | omega | (dsimp only; omega)) ?_
        rw [ho]
        exact byC
     ·
      (try simp only [go_sem] at h48)
      have hP : parsB l = true := all_of (d := default) fun j hj => hI3.2 j (by omega)
      refine cx_exit ?_
      simp only [go_sem]
      refine cx_sr ?_
      simp only [go_sem]
      refine cx_ret ?_
      simp only [go_sem]
      refine finw_int ?_
      have hi : i = l.length := by omega
      rw [checkT, if_neg h60, if_neg (by simp [hE]), if_neg (by simp [sortedB_iff.2 hs]), if_neg (by simp [hP]), hi, outP, List.take_length, parfB]
      by_cases h : (l.all fun x => (parE l x.path).1.folder) = true
      · rw [if_pos h, if_neg (by simp [h])]
      · rw [if_neg h, if_pos (by simpa using h)]
end Go.VM.Tryz
end
section
set_option maxHeartbeats 4000000
set_option linter.unusedVariables false
set_option linter.unusedSimpArgs false
open Go Go.VM Go.Proofs Tether
namespace Go.VM.Tryz
set_option maxRecDepth 100000
def treeE (t : List Entry) : List V := [esV t]
theorem treeE_eq (t : List Entry) : treeE t = [esV t] := rfl
attribute [go_sem] treeE_eq
theorem tcheck_c (ls : List (List Entry)) (hl : ls.length < 4611686018427387904) (ok : ∀ t ∈ ls, okE t) : Meets Tryz.prog 56 [lstV 1 treeE [] ls] (.int .i64 (firstErr checkT ls)) [] := by
  refine meets_x (fn := Tryz.f56) Tryz.func56 rfl fb56 (by kernel_rfl) (Nat.le_of_ble_eq_true rfl) ?_
  refine cx_sr ?_
  simp only [go_sem]
  repeat first | (with_reducible refine side_d ?_ ?_; exact byD) | (with_reducible refine side_q ?_ ?_; exact byQ)
  refine cx_seq ?_
  refine cx_sr ?_
  simp only [go_sem]
  refine cx_block ?_
  refine cx_loop0 (σ := Nat) (fun i => i ≤ ls.length ∧ ∀ j, j < i → checkT (ls.getD j []) = 0) (fun i => [⟨8, 0, [], .int .i64 (i : Nat)⟩]) [6, 7] (fun i => ls.length - i) 0 ⟨Nat.zero_le _, fun j hj => absurd hj (Nat.not_lt_zero j)⟩ (Nat.zero_le _) byC (fun i hI1 => ?_)
  simp only [go_sem]
  refine cx_sr ?_
  simp only [go_sem]
  repeat first | (with_reducible refine side_d ?_ ?_; exact byD) | (with_reducible refine side_q ?_ ?_; exact byQ)
  intro t9 e9
  subst e9
  refine cx_seq ?_
  refine cx_if _ rfl (fun h9 => ?_) (fun h9 => ?_)
  ·
   (try simp only [go_sem] at h9)
   refine cx_skip ?_
   (try simp only [go_sem])
   refine cx_seq (cx_block ?_)
   refine cx_sr ?_
   simp only [go_sem]
   repeat first | (with_reducible refine side_d ?_ ?_; exact byD) | (with_reducible refine side_q ?_ ?_; exact byQ)
   refine cx_sr ?_
   simp only [go_sem]
   refine cw_m (checkTree_c (ls.getD i []) (ok _ (getD_mem (by omega)))) byW byT ?_
   simp only [go_sem]
   refine cx_sr ?_
   simp only [go_sem]
   intro t15 e15
   subst e15
   refine cx_if _ rfl (fun h15 => ?_) (fun h15 => ?_)
   ·
    (try simp only [go_sem] at h15)
    refine cx_sr ?_
    simp only [go_sem]
    refine cx_ret ?_
    simp only [go_sem]
    refine finw_int ?_
    exact (firstErr_at (by omega) hI1.2 h15).symm
   ·
    (try simp only [go_sem] at h15)
    refine cx_skip ?_
    (try simp only [go_sem])
    refine cx_region ?_
    simp only [go_sem]
    intro t17 e17
    (try replace e17 := w64 e17 (by omega) (by omega))
    refine rnd_next (i + 1) ⟨by omega, all_next hI1.2 (by simpa using h15)⟩ (by first | omega | (dsimp only; omega)) byC
  ·
   (try simp only [go_sem] at h9)
   refine cx_exit ?_
   simp only [go_sem]
   refine cx_sr ?_
   simp only [go_sem]
   refine cx_ret ?_
   simp only [go_sem]
   refine finw_int ?_
   exact (firstErr_none (d := []) fun j hj => hI1.2 j (by omega)).symm
theorem tcheck1_c (l : List Entry) (ok : okE l) : Meets Tryz.prog 56 [lstV 1 treeE [] [l]] (.int .i64 (checkT l)) [] := by
  have h := tcheck_c [l] (by simp) (by simpa using ok)
  have e : firstErr checkT [l] = checkT l := by
    simp only [firstErr]
    by_cases h : checkT l = 0 <;> simp [h]
  rwa [e] at h
theorem TCheck_c (l : List Entry) (ok : okE l) : Meets Tryz.prog 31 [esV l] (.int .i64 (checkT l)) [] := by
  refine meets_x (fn := Tryz.f31) Tryz.func31 rfl fb31 (by kernel_rfl) (Nat.le_of_ble_eq_true rfl) ?_
  refine cx_sr ?_
  simp only [go_sem]
  repeat first | (with_reducible refine side_d ?_ ?_; exact byD) | (with_reducible refine side_q ?_ ?_; exact byQ)
  refine cx_sr ?_
  simp only [go_sem]
  refine cw_v 2 (tcheck1_c l ok) byV byC rfl ?_
  simp only [go_sem]
  refine cx_ret ?_
  simp only [go_sem]
  exact finw_int rfl
def isAt (p : Str) (x : Entry) : Bool := decide (x.path = p)
theorem EntryAt_c (l : List Entry) (p : Str) (hl : l.length < 4611686018427387904) : Meets Tryz.prog 45 [esV l, .str p] (.int .i64 (idxF (isAt p) l)) [] := by
  refine meets_x (fn := Tryz.f45) Tryz.func45 rfl fb45 (by kernel_rfl) (Nat.le_of_ble_eq_true rfl) ?_
  refine cx_sr ?_
  simp only [go_sem]
  repeat first | (with_reducible refine side_d ?_ ?_; exact byD) | (with_reducible refine side_q ?_ ?_; exact byQ)
  refine cx_seq ?_
  refine cx_sr ?_
  simp only [go_sem]
  refine cx_block ?_
  refine cx_loop0 (σ := Nat) (fun i => i ≤ l.length ∧ ∀ j, j < i → isAt p (l.getD j default) = false) (fun i => [⟨5, 0, [], .int .i64 (i : Nat)⟩]) [0, 1] (fun i => l.length - i) 0 ⟨Nat.zero_le _, fun j hj => absurd hj (Nat.not_lt_zero j)⟩ (Nat.zero_le _) byC (fun i hI1 => ?_)
  simp only [go_sem]
  refine cx_seq ?_
  refine cx_sr ?_
  simp only [go_sem]
  repeat first | (with_reducible refine side_d ?_ ?_; exact byD) | (with_reducible refine side_q ?_ ?_; exact byQ)
  intro t9 e9
  subst e9
  refine cx_if _ rfl (fun h9 => ?_) (fun h9 => ?_)
  ·
   (try simp only [go_sem] at h9)
   refine cx_skip ?_
   (try simp only [go_sem])
   refine cx_seq (cx_block ?_)
   refine cx_sr ?_
   simp only [go_sem]
   repeat first | (with_reducible refine side_d ?_ ?_; exact byD) | (with_reducible refine side_q ?_ ?_; exact byQ)
   intro t18 e18
   subst e18
   refine cx_if _ rfl (fun h18 => ?_) (fun h18 => ?_)
   ·
    (try simp only [go_sem] at h18)
    refine cx_sr ?_
    simp only [go_sem]
    refine cx_ret ?_
    simp only [go_sem]
    refine finw_int ?_
    rw [idxF_at (d := default) (by omega) hI1.2 (by simpa [isAt] using h18)]
   ·
    (try simp only [go_sem] at h18)
    refine cx_skip ?_
    (try simp only [go_sem])
    refine cx_region ?_
    simp only [go_sem]
    intro t11 e11
    (try replace e11 := w64 e11 (by omega) (by omega))
    refine rnd_next (i + 1) ⟨by omega, all_next hI1.2 (by simpa [isAt] using h18)⟩ (by first | omega | (dsimp only; omega)) byC
  ·
   (try simp only [go_sem] at h9)
   refine cx_exit ?_
   simp only [go_sem]
   refine cx_sr ?_
   simp only [go_sem]
   refine cx_ret ?_
   simp only [go_sem]
   refine finw_int ?_
   rw [idxF_none (d := default) fun j hj => hI1.2 j (by omega)]
theorem find_idx (l : List Entry) (p : Str) : (idxF (isAt p) l = -1 ∧ findE l p = none) ∨ ∃ i : Nat, idxF (isAt p) l = (i : Int) ∧ i < l.length ∧ findE l p = some (l.getD i default) := by
  have key : ∀ l : List Entry, (l.findIdx? (isAt p) = none ∧ l.find? (isAt p) = none) ∨ ∃ i : Nat, l.findIdx? (isAt p) = some i ∧ i < l.length ∧ l.find? (isAt p) = some (l.getD i default) := by
    intro l
    induction l with
    | nil => exact .inl ⟨rfl, rfl⟩
    | cons x l ih =>
      by_cases hx : isAt p x = true
      · exact .inr ⟨0, by simp [List.findIdx?_cons, hx], by simp, by simp [List.find?_cons, hx]⟩
      · have hx : isAt p x = false := by simpa using hx
        rcases ih with ⟨h1, h2⟩ | ⟨i, h1, h2, h3⟩
        · exact .inl ⟨by simp [List.findIdx?_cons, hx, h1], by simp [List.find?_cons, hx, h2]⟩
        · exact .inr ⟨i + 1, by simp [List.findIdx?_cons, hx, h1], by simp; omega, by simp [List.find?_cons, hx, h3]⟩
  have hf : findE l p = l.find? (isAt p) := rfl
  rcases key l with ⟨h1, h2⟩ | ⟨i, h1, h2, h3⟩
  · exact .inl ⟨by rw [idxF, h1], by rw [hf, h2]⟩
  · exact .inr ⟨i, by rw [idxF, h1], h2, by rw [hf, h3]⟩
def isFolderP (l : List Entry) (p : Str) : Int := if p = [] then 0 else match findE l p with | none => 5 | some x => if x.folder = true then 0 else 4
theorem IsFolder_c (l : List Entry) (p : Str) (hl : l.length < 4611686018427387904) : Meets Tryz.prog 49 [esV l, .str p] (.int .i64 (isFolderP l p)) [] := by
  refine meets_x (fn := Tryz.f49) Tryz.func49 rfl fb49 (by kernel_rfl) (Nat.le_of_ble_eq_true rfl) ?_
  refine cx_sr ?_
  simp only [go_sem]
  repeat first | (with_reducible refine side_d ?_ ?_; exact byD) | (with_reducible refine side_q ?_ ?_; exact byQ)
  refine cx_seq ?_
  refine cx_sr ?_
  simp only [go_sem]
  intro t7 e7
  subst e7
  refine cx_if _ rfl (fun h7 => ?_) (fun h7 => ?_)
  ·
   (try simp only [go_sem] at h7)
   refine cx_sr ?_
   simp only [go_sem]
   refine cx_ret ?_
   simp only [go_sem]
   have h : p = [] := by simpa using h7
   exact finw_int (by rw [isFolderP, if_pos h])
  ·
   (try simp only [go_sem] at h7)
   refine cx_skip ?_
   (try simp only [go_sem])
   refine cx_sr ?_
   simp only [go_sem]
   refine cw_m (EntryAt_c l p hl) byW byT ?_
   simp only [go_sem]
   refine cx_seq ?_
   refine cx_sr ?_
   simp only [go_sem]
   intro t12 e12
   subst e12
   refine cx_if _ rfl (fun h12 => ?_) (fun h12 => ?_)
   ·
    (try simp only [go_sem] at h12)
    refine cx_sr ?_
    simp only [go_sem]
    refine cx_ret ?_
    simp only [go_sem]
    have h : ¬ p = [] := by simpa using h7
    have hn : findE l p = none := by
      rcases find_idx l p with ⟨_, h2⟩ | ⟨i, h1, _⟩
      · exact h2
      · omega
    exact finw_int (by rw [isFolderP, if_neg h, hn])
   ·
    (try simp only [go_sem] at h12)
    have hix : ∃ i : Nat, idxF (isAt p) l = (i : Int) ∧ i < l.length ∧ findE l p = some (l.getD i default) := by
      rcases find_idx l p with ⟨h1, _⟩ | h
      · omega
      · exact h
    obtain ⟨i, hi1, hi2, hi3⟩ := hix
    refine cx_skip ?_
    (try simp only [go_sem])
    refine cx_seq ?_
    refine cx_sr ?_
    simp only [go_sem]
    repeat first | (with_reducible refine side_d ?_ ?_; exact byD) | (with_reducible refine side_q ?_ ?_; exact byQ)
    intro t18 e18
    subst e18
    refine cx_if _ rfl (fun h18 => ?_) (fun h18 => ?_)
    ·
     (try simp only [go_sem] at h18)
     refine cx_sr ?_
     simp only [go_sem]
     refine cx_ret ?_
     simp only [go_sem]
     have h : ¬ p = [] := by simpa using h7
     have hf : (l.getD i default).folder = false := by rw [hi1] at h18; simpa using h18
     exact finw_int (by rw [isFolderP, if_neg h, hi3]; simp only; rw [hf]; rfl)
    ·
     (try simp only [go_sem] at h18)
     refine cx_skip ?_
     (try simp only [go_sem])
     refine cx_sr ?_
     simp only [go_sem]
     refine cx_ret ?_
     simp only [go_sem]
     have h : ¬ p = [] := by simpa using h7
     have hf : (l.getD i default).folder = true := by rw [hi1] at h18; simpa using h18
     exact finw_int (by rw [isFolderP, if_neg h, hi3]; simp only; rw [hf]; rfl)
theorem isFolder_par {l : List Entry} (hs : SortedE l) (p : Str) : isFolderP l (headOf p) = if (parE l p).2 = false then 5 else if (parE l p).1.folder = false then 4 else 0 := by
  unfold isFolderP parE
  by_cases h : headOf p = []
  · simp [h, topE]
  · rw [if_neg h, if_neg h, findE_eq hs]
    by_cases hh : hasE l (headOf p) = true
    · rw [if_pos hh, if_pos hh]
      simp
      cases (l[eIx l (headOf p)]?.getD default).folder <;> rfl
    · rw [if_neg hh, if_neg hh]
      rfl
theorem RCheckTree_c (l : List Entry) (ok : okE l) : Meets Tryz.prog 27 [esV l] (.int .i64 (checkT l)) [] := by
  refine meets_x (fn := Tryz.f27) Tryz.func27 rfl fb27 (by kernel_rfl) (Nat.le_of_ble_eq_true rfl) ?_
  have hl := ok.1
  refine cx_sr ?_
  simp only [go_sem]
  repeat first | (with_reducible refine side_d ?_ ?_; exact byD) | (with_reducible refine side_q ?_ ?_; exact byQ)
  refine cx_seq ?_
  refine cx_sr ?_
  simp only [go_sem]
  intro t10 e10
  subst e10
  refine cx_if _ rfl (fun h10 => ?_) (fun h10 => ?_)
  ·
   (try simp only [go_sem] at h10)
   refine cx_sr ?_
   simp only [go_sem]
   refine cx_ret ?_
   simp only [go_sem]
   refine finw_int ?_
   rw [checkT, if_pos (by omega)]
  ·
   (try simp only [go_sem] at h10)
   have hNN : ¬ 60 < (l.length : Int) := by omega
   refine cx_skip ?_
   (try simp only [go_sem])
   refine cx_seq ?_
   refine cx_sr ?_
   simp only [go_sem]
   refine cx_block ?_
   refine cx_loop0 (σ := Nat) (fun i => i ≤ l.length ∧ ∀ j, j < i → entErr (l.getD j default) = 0) (fun i => [⟨3, 0, [], .int .i64 (i : Nat)⟩]) [0] (fun i => l.length - i) 0 ⟨Nat.zero_le _, fun j hj => absurd hj (Nat.not_lt_zero j)⟩ (Nat.zero_le _) byC (fun i hI1 => ?_)
   simp only [go_sem]
   refine cx_seq ?_
   refine cx_sr ?_
   simp only [go_sem]
   repeat first | (with_reducible refine side_d ?_ ?_; exact byD) | (with_reducible refine side_q ?_ ?_; exact byQ)
   intro t14 e14
   subst e14
   refine cx_if _ rfl (fun h14 => ?_) (fun h14 => ?_)
   ·
    (try simp only [go_sem] at h14)
    refine cx_skip ?_
    (try simp only [go_sem])
    refine cx_seq (cx_block ?_)
    refine cx_sr ?_
    simp only [go_sem]
    repeat first | (with_reducible refine side_d ?_ ?_; exact byD) | (with_reducible refine side_q ?_ ?_; exact byQ)
    refine cw_m (CheckPath_c (l.getD i default).path (by have := ok.at (i := i) (by omega); omega)) byW byT ?_
    simp only [go_sem]
    refine cx_block ?_
    refine cx_sr ?_
    simp only [go_sem]
    intro t25 e25
    subst e25
    refine cx_if _ rfl (fun h23 => ?_) (fun h23 => ?_)
    ·
     (try simp only [go_sem] at h23)
     refine cx_sr ?_
     simp only [go_sem]
     refine cx_ret ?_
     simp only [go_sem]
     refine finw_int ?_
     have hx : entErr (l.getD i default) = checkP [(l.getD i default).path] := by unfold entErr; grind
     have h1 : firstErr entErr l = entErr (l.getD i default) := firstErr_at (by omega) hI1.2 (by rw [hx]; simpa using h23)
     rw [checkT, if_neg hNN, if_pos (by rw [h1, hx]; simpa using h23), h1, hx]
    ·
     (try simp only [go_sem] at h23)
     refine cx_sr ?_
     simp only [go_sem]
     repeat first | (with_reducible refine side_d ?_ ?_; exact byD) | (with_reducible refine side_q ?_ ?_; exact byQ)
     intro t39 e39
     intro t40 e40
     rw [bsel_and] at e40
     subst e39 e40
     refine cx_if _ rfl (fun h27 => ?_) (fun h27 => ?_)
     ·
      (try simp only [go_sem] at h27)
      refine cx_sr ?_
      simp only [go_sem]
      refine cx_ret ?_
      simp only [go_sem]
      refine finw_int ?_
      have hx : entErr (l.getD i default) = 1 := by unfold entErr; grind
      have h1 : firstErr entErr l = entErr (l.getD i default) := firstErr_at (by omega) hI1.2 (by rw [hx]; decide)
      rw [checkT, if_neg hNN, if_pos (by rw [h1, hx]; decide), h1, hx]
     ·
      (try simp only [go_sem] at h27)
      refine cx_sr ?_
      simp only [go_sem]
      repeat first | (with_reducible refine side_d ?_ ?_; exact byD) | (with_reducible refine side_q ?_ ?_; exact byQ)
      intro t48 e48
      subst e48
      refine cx_if _ rfl (fun h41 => ?_) (fun h41 => ?_)
      ·
       (try simp only [go_sem] at h41)
       refine cx_sr ?_
       simp only [go_sem]
       refine cx_ret ?_
       simp only [go_sem]
       refine finw_int ?_
       have hx : entErr (l.getD i default) = 2 := by unfold entErr; grind
       have h1 : firstErr entErr l = entErr (l.getD i default) := firstErr_at (by omega) hI1.2 (by rw [hx]; decide)
       rw [checkT, if_neg hNN, if_pos (by rw [h1, hx]; decide), h1, hx]
      ·
       (try simp only [go_sem] at h41)
       refine cx_sr ?_
       simp only [go_sem]
       repeat first | (with_reducible refine side_d ?_ ?_; exact byD) | (with_reducible refine side_q ?_ ?_; exact byQ)
       refine cw_m (RIsVersion_c (l.getD i default).version) byW byT ?_
       simp only [go_sem]
       intro t56 e56
       subst e56
       refine cx_if _ rfl (fun h49 => ?_) (fun h49 => ?_)
       ·
        (try simp only [go_sem] at h49)
        refine cx_sr ?_
        simp only [go_sem]
        refine cx_ret ?_
        simp only [go_sem]
        refine finw_int ?_
        have hx : entErr (l.getD i default) = 3 := by unfold entErr; grind
        have h1 : firstErr entErr l = entErr (l.getD i default) := firstErr_at (by omega) hI1.2 (by rw [hx]; decide)
        rw [checkT, if_neg hNN, if_pos (by rw [h1, hx]; decide), h1, hx]
       ·
        (try simp only [go_sem] at h49)
        refine cx_skip ?_
        (try simp only [go_sem])
        refine cx_region ?_
        simp only [go_sem]
        intro t16 e16
        (try replace e16 := w64 e16 (by omega) (by omega))
        have hx : entErr (l.getD i default) = 0 := by unfold entErr; grind
        refine rnd_next (i + 1) ⟨by omega, all_next hI1.2 hx⟩ (by first | omega | (dsimp only; omega)) byC
   ·
    (try simp only [go_sem] at h14)
    have hE : firstErr entErr l = 0 := firstErr_none (d := default) fun j hj => hI1.2 j (by omega)
    refine cx_exit ?_
    simp only [go_sem]
    refine cx_seq ?_
    refine cx_sr ?_
    simp only [go_sem]
    refine cx_block ?_
    refine cx_loop0 (σ := Nat) (fun i => 1 ≤ i ∧ (i ≤ l.length ∨ i = 1) ∧ ∀ j, j < i → 1 ≤ j → blt (l.getD (j - 1) default).path (l.getD j default).path = true) (fun i => [⟨5, 0, [], .int .i64 (i : Nat)⟩]) [0] (fun i => l.length - i) 1 ⟨Nat.le_refl _, .inr rfl, fun j h1 h2 => by omega⟩ (Nat.zero_le _) byC (fun i hI2 => ?_)
    simp only [go_sem]
    refine cx_seq ?_
    refine cx_sr ?_
    simp only [go_sem]
    repeat first | (with_reducible refine side_d ?_ ?_; exact byD) | (with_reducible refine side_q ?_ ?_; exact byQ)
    intro t60 e60
    subst e60
    refine cx_if _ rfl (fun h60 => ?_) (fun h60 => ?_)
    ·
     (try simp only [go_sem] at h60)
     refine cx_skip ?_
     (try simp only [go_sem])
     refine cx_seq (cx_block ?_)
     refine cx_seq (cx_draw mixed [] (.first 0 (.first 1 (.first 2 (.first 3 (.first 4 (.first 5 (.first 6 (.first 7 (.first 8 (.first 9 (.first 10 (.first 11 (.done))))))))))))) (by kernel_rfl) ?_)
     simp only [go_sem]
     repeat first | (with_reducible refine side_d ?_ ?_; exact byD) | (with_reducible refine side_q ?_ ?_; exact byQ)
     intro t70 e70
     (try replace e70 := w64 e70 (by omega) (by omega))
     repeat first | (with_reducible refine side_d ?_ ?_; exact byD) | (with_reducible refine side_q ?_ ?_; exact byQ)
     intro t74 e74
     subst e74
     have e70' : t70.toNat = i - 1 := by omega
     refine cx_if _ rfl (fun h74 => ?_) (fun h74 => ?_)
     ·
      (try simp only [go_sem] at h74)
      refine cx_sr ?_
      simp only [go_sem]
      refine cx_ret ?_
      simp only [go_sem]
      refine finw_int ?_
      have hr : sortedB l = false := by
        have hb : blt (l.getD (i - 1) default).path (l.getD i default).path = false := by
          rw [e70'] at h74
          cases hb : blt (l.getD (i - 1) default).path (l.getD i default).path with
          | false => rfl
          | true =>
            have hlt := blt_iff.1 hb
            rcases h74 with h | h
            · exact absurd (blt_iff.1 h) (lt_asymm' hlt)
            · rw [h] at hlt
              exact absurd hlt (lt_irrefl' _)
        refine range_all_false (i := i) (by omega) ?_
        rw [hb, decide_eq_false (by omega)]
        rfl
      rw [checkT, if_neg hNN, if_neg (by simp [hE]), if_pos hr]
     ·
      (try simp only [go_sem] at h74)
      refine cx_skip ?_
      (try simp only [go_sem])
      refine cx_region ?_
      simp only [go_sem]
      intro t62 e62
      (try replace e62 := w64 e62 (by omega) (by omega))
      have hb : blt (l.getD (i - 1) default).path (l.getD i default).path = true := by
        rw [e70'] at h74
        rcases str_tri (l.getD (i - 1) default).path (l.getD i default).path with h | h | h
        · exact blt_iff.2 h
        · exact absurd h.symm h74.2
        · rw [← blt_iff, h74.1] at h
          cases h
      refine rnd_next (i + 1) ⟨by omega, by omega, fun j h1 h2 => ?_⟩ (by first | omega | (dsimp only; omega)) byC
      rcases Nat.lt_or_ge j i with h3 | h3
      · exact hI2.2.2 j h3 h2
      · obtain rfl : j = i := by omega
        exact hb
    ·
     (try simp only [go_sem] at h60)
     have hs : SortedE l := sorted_of fun i' h1 h2 => hI2.2.2 i' (by omega) h1
     refine cx_exit ?_
     simp only [go_sem]
     refine cx_seq ?_
     refine cx_sr ?_
     simp only [go_sem]
     refine cx_block ?_
     refine cx_loop0 (σ := Nat) (fun i => i ≤ l.length ∧ ∀ j, j < i → (parE l (l.getD j default).path).2 = true) (fun i => [⟨6, 0, [], .int .i64 (i : Nat)⟩]) [0] (fun i => l.length - i) 0 ⟨Nat.zero_le _, fun j hj => absurd hj (Nat.not_lt_zero j)⟩ (Nat.zero_le _) byC (fun i hI3 => ?_)
     simp only [go_sem]
     refine cx_seq ?_
     refine cx_sr ?_
     simp only [go_sem]
     repeat first | (with_reducible refine side_d ?_ ?_; exact byD) | (with_reducible refine side_q ?_ ?_; exact byQ)
     intro t78 e78
     subst e78
     refine cx_if _ rfl (fun h78 => ?_) (fun h78 => ?_)
     ·
      (try simp only [go_sem] at h78)
      refine cx_skip ?_
      (try simp only [go_sem])
      refine cx_seq (cx_block ?_)
      refine cx_sr ?_
      simp only [go_sem]
      repeat first | (with_reducible refine side_d ?_ ?_; exact byD) | (with_reducible refine side_q ?_ ?_; exact byQ)
      refine cw_m (ParentOf2_c (l.getD i default).path (by have := ok.at (i := i) (by omega); omega)) byW byT ?_
      simp only [go_sem]
      refine cw_m (IsFolder_c l (headOf (l.getD i default).path) (by omega)) byW byT ?_
      simp only [go_sem]
      intro t89 e89
      subst e89
      refine cx_if _ rfl (fun h89 => ?_) (fun h89 => ?_)
      ·
       (try simp only [go_sem] at h89)
       refine cx_sr ?_
       simp only [go_sem]
       refine cx_ret ?_
       simp only [go_sem]
       refine finw_int ?_
       rw [isFolder_par hs] at h89
       have hr : parsB l = false := all_at (d := default) (i := i) (by omega) (by grind)
       rw [checkT, if_neg hNN, if_neg (by simp [hE]), if_neg (by simp [sortedB_iff.2 hs]), if_pos hr]
      ·
       (try simp only [go_sem] at h89)
       refine cx_skip ?_
       (try simp only [go_sem])
       refine cx_region ?_
       simp only [go_sem]
       intro t80 e80
       (try replace e80 := w64 e80 (by omega) (by omega))
       rw [isFolder_par hs] at h89
       refine rnd_next (i + 1) ⟨by omega, all_next hI3.2 (by grind)⟩ (by first | omega | (dsimp only; omega)) byC
     ·
      (try simp only [go_sem] at h78)
      have hP : parsB l = true := all_of (d := default) fun j hj => hI3.2 j (by omega)
      refine cx_exit ?_
      simp only [go_sem]
      refine cx_seq ?_
      refine cx_sr ?_
      simp only [go_sem]
      refine cx_block ?_
      refine cx_loop0 (σ := Nat) (fun i => i ≤ l.length ∧ ∀ j, j < i → (parE l (l.getD j default).path).1.folder = true) (fun i => [⟨7, 0, [], .int .i64 (i : Nat)⟩]) [0] (fun i => l.length - i) 0 ⟨Nat.zero_le _, fun j hj => absurd hj (Nat.not_lt_zero j)⟩ (Nat.zero_le _) byC (fun i hI4 => ?_)
      simp only [go_sem]
      refine cx_seq ?_
      refine cx_sr ?_
      simp only [go_sem]
      repeat first | (with_reducible refine side_d ?_ ?_; exact byD) | (with_reducible refine side_q ?_ ?_; exact byQ)
      intro t93 e93
      subst e93
      refine cx_if _ rfl (fun h93 => ?_) (fun h93 => ?_)
      ·
       (try simp only [go_sem] at h93)
       refine cx_skip ?_
       (try simp only [go_sem])
       refine cx_seq (cx_block ?_)
       refine cx_sr ?_
       simp only [go_sem]
       repeat first | (with_reducible refine side_d ?_ ?_; exact byD) | (with_reducible refine side_q ?_ ?_; exact byQ)
       refine cw_m (ParentOf2_c (l.getD i default).path (by have := ok.at (i := i) (by omega); omega)) byW byT ?_
       simp only [go_sem]
       refine cw_m (IsFolder_c l (headOf (l.getD i default).path) (by omega)) byW byT ?_
       simp only [go_sem]
       intro t104 e104
       subst e104
       refine cx_if _ rfl (fun h104 => ?_) (fun h104 => ?_)
       ·
        (try simp only [go_sem] at h104)
        refine cx_sr ?_
        simp only [go_sem]
        refine cx_ret ?_
        simp only [go_sem]
        refine finw_int ?_
        rw [isFolder_par hs] at h104
        have hp2 := List.all_eq_true.1 hP (l.getD i default) (getD_mem (by omega))
        have hr : parfB l = false := all_at (d := default) (i := i) (by omega) (by grind)
        rw [checkT, if_neg hNN, if_neg (by simp [hE]), if_neg (by simp [sortedB_iff.2 hs]), if_neg (by simp [hP]), if_pos hr]
       ·
        (try simp only [go_sem] at h104)
        refine cx_skip ?_
        (try simp only [go_sem])
        refine cx_region ?_
        simp only [go_sem]
        intro t95 e95
        (try replace e95 := w64 e95 (by omega) (by omega))
        rw [isFolder_par hs] at h104
        refine rnd_next (i + 1) ⟨by omega, all_next hI4.2 (by grind)⟩ (by first | omega | (dsimp only; omega)) byC
      ·
       (try simp only [go_sem] at h93)
       refine cx_exit ?_
       simp only [go_sem]
       refine cx_sr ?_
       simp only [go_sem]
       refine cx_ret ?_
       simp only [go_sem]
       refine finw_int ?_
       have hF : parfB l = true := all_of (d := default) fun j hj => hI4.2 j (by omega)
       rw [checkT, if_neg hNN, if_neg (by simp [hE]), if_neg (by simp [sortedB_iff.2 hs]), if_neg (by simp [hP]), if_neg (by simp [hF])]
end Go.VM.Tryz
end
section
set_option maxHeartbeats 4000000
set_option linter.unusedVariables false
set_option linter.unusedSimpArgs false
open Go Go.VM Go.Proofs Tether
namespace Go.VM.Tryz
set_option maxRecDepth 100000
def formP (c : Change) : Int :=
  if c.kind < 1 ∨ 4 < c.kind then 7 else if checkP [c.path] ≠ 0 then checkP [c.path] else if c.kind = 3 ∧ checkP [c.to] ≠ 0 then checkP [c.to]
  else if (c.kind ≠ 3 ∧ c.to ≠ []) ∨ (c.kind ≠ 2 ∧ c.text ≠ []) then 1 else if 300 < (c.text.length : Int) then 2 else if c.base < -1 ∨ 1000000 < c.base then 3 else 0
def okC (c : Change) : Prop := c.path.length ≤ 1048576 ∧ c.to.length ≤ 1048576 ∧ c.text.length ≤ 1048576
theorem form_c (c : Change) (ok : okC c) : Meets Tryz.prog 90 [.agg c.enc] (.int .i64 (formP c)) [] := by
  refine meets_x (fn := Tryz.f90) Tryz.func90 rfl fb90 (by kernel_rfl) (Nat.le_of_ble_eq_true rfl) ?_
  obtain ⟨ok1, ok2, ok3⟩ := ok
  refine cx_sr ?_
  simp only [go_sem]
  repeat first | (with_reducible refine side_d ?_ ?_; exact byD) | (with_reducible refine side_q ?_ ?_; exact byQ)
  refine cx_seq ?_
  refine cx_sr ?_
  simp only [go_sem]
  intro t7 e7
  intro t11 e11
  intro t12 e12
  rw [bsel_or] at e12
  subst e7 e11 e12
  refine cx_if _ rfl (fun h12 => ?_) (fun h12 => ?_)
  ·
   (try simp only [go_sem] at h12)
   refine cx_sr ?_
   simp only [go_sem]
   refine cx_ret ?_
   simp only [go_sem]
   refine finw_int ?_
   unfold formP
   grind
  ·
   (try simp only [go_sem] at h12)
   refine cx_skip ?_
   (try simp only [go_sem])
   refine cx_seq ?_
   refine cx_sr ?_
   simp only [go_sem]
   refine cw_m (Check_c c.path (by omega)) byW byT ?_
   simp only [go_sem]
   refine cx_sr ?_
   simp only [go_sem]
   intro t17 e17
   subst e17
   refine cx_if _ rfl (fun h17 => ?_) (fun h17 => ?_)
   ·
    (try simp only [go_sem] at h17)
    refine cx_sr ?_
    simp only [go_sem]
    refine cx_ret ?_
    simp only [go_sem]
    refine finw_int ?_
    unfold formP
    grind
   ·
    (try simp only [go_sem] at h17)
    refine cx_skip ?_
    (try simp only [go_sem])
    refine cx_seq ?_
    refine cx_sr ?_
    simp only [go_sem]
    intro t21 e21
    subst e21
    refine cx_if _ rfl (fun h21 => ?_) (fun h21 => ?_)
    ·
     (try simp only [go_sem] at h21)
     refine cx_sr ?_
     simp only [go_sem]
     refine cw_m (Check_c c.to (by omega)) byW byT ?_
     simp only [go_sem]
     refine cx_sr ?_
     simp only [go_sem]
     intro t26 e26
     subst e26
     refine cx_if _ rfl (fun h26 => ?_) (fun h26 => ?_)
     ·
      (try simp only [go_sem] at h26)
      refine cx_sr ?_
      simp only [go_sem]
      refine cx_ret ?_
      simp only [go_sem]
      refine finw_int ?_
      unfold formP
      grind
     ·
      (try simp only [go_sem] at h26)
      refine cx_skip ?_
      (try simp only [go_sem])
      refine cx_seq (cx_block ?_)
      refine cx_sr ?_
      simp only [go_sem]
      intro t31 e31
      intro t35 e35
      intro t36 e36
      rw [bsel_and] at e36
      intro t40 e40
      intro t44 e44
      intro t45 e45
      rw [bsel_and] at e45
      intro t46 e46
      rw [bsel_or] at e46
      subst e31 e35 e36 e40 e44 e45 e46
      refine cx_if _ rfl (fun h28 => ?_) (fun h28 => ?_)
      ·
       (try simp only [go_sem] at h28)
       refine cx_sr ?_
       simp only [go_sem]
       refine cx_ret ?_
       simp only [go_sem]
       refine finw_int ?_
       unfold formP
       grind
      ·
       (try simp only [go_sem] at h28)
       refine cx_sr ?_
       simp only [go_sem]
       intro t51 e51
       subst e51
       refine cx_if _ rfl (fun h47 => ?_) (fun h47 => ?_)
       ·
        (try simp only [go_sem] at h47)
        refine cx_sr ?_
        simp only [go_sem]
        refine cx_ret ?_
        simp only [go_sem]
        refine finw_int ?_
        unfold formP
        grind
       ·
        (try simp only [go_sem] at h47)
        refine cx_sr ?_
        simp only [go_sem]
        intro t55 e55
        intro t59 e59
        intro t60 e60
        rw [bsel_or] at e60
        subst e55 e59 e60
        refine cx_if _ rfl (fun h52 => ?_) (fun h52 => ?_)
        ·
         (try simp only [go_sem] at h52)
         refine cx_sr ?_
         simp only [go_sem]
         refine cx_ret ?_
         simp only [go_sem]
         refine finw_int ?_
         unfold formP
         grind
        ·
         (try simp only [go_sem] at h52)
         refine cx_skip ?_
         (try simp only [go_sem])
         refine cx_sr ?_
         simp only [go_sem]
         refine cx_ret ?_
         simp only [go_sem]
         refine finw_int ?_
         unfold formP
         grind
    ·
     (try simp only [go_sem] at h21)
     refine cx_skip ?_
     (try simp only [go_sem])
     refine cx_seq (cx_block ?_)
     refine cx_sr ?_
     simp only [go_sem]
     intro t31 e31
     intro t35 e35
     intro t36 e36
     rw [bsel_and] at e36
     intro t40 e40
     intro t44 e44
     intro t45 e45
     rw [bsel_and] at e45
     intro t46 e46
     rw [bsel_or] at e46
     subst e31 e35 e36 e40 e44 e45 e46
     refine cx_if _ rfl (fun h28 => ?_) (fun h28 => ?_)
     ·
      (try simp only [go_sem] at h28)
      refine cx_sr ?_
      simp only [go_sem]
      refine cx_ret ?_
      simp only [go_sem]
      refine finw_int ?_
      unfold formP
      grind
     ·
      (try simp only [go_sem] at h28)
      refine cx_sr ?_
      simp only [go_sem]
      intro t51 e51
      subst e51
      refine cx_if _ rfl (fun h47 => ?_) (fun h47 => ?_)
      ·
       (try simp only [go_sem] at h47)
       refine cx_sr ?_
       simp only [go_sem]
       refine cx_ret ?_
       simp only [go_sem]
       refine finw_int ?_
       unfold formP
       grind
      ·
       (try simp only [go_sem] at h47)
       refine cx_sr ?_
       simp only [go_sem]
       intro t55 e55
       intro t59 e59
       intro t60 e60
       rw [bsel_or] at e60
       subst e55 e59 e60
       refine cx_if _ rfl (fun h52 => ?_) (fun h52 => ?_)
       ·
        (try simp only [go_sem] at h52)
        refine cx_sr ?_
        simp only [go_sem]
        refine cx_ret ?_
        simp only [go_sem]
        refine finw_int ?_
        unfold formP
        grind
       ·
        (try simp only [go_sem] at h52)
        refine cx_skip ?_
        (try simp only [go_sem])
        refine cx_sr ?_
        simp only [go_sem]
        refine cx_ret ?_
        simp only [go_sem]
        refine finw_int ?_
        unfold formP
        grind
def staleB (c : Change) (x : Entry) : Bool := decide (c.base < x.version) && isIn x.path c.path
theorem stale_c (c : Change) (x : Entry) (ok : okC c) (hx : x.path.length ≤ 1048576) : Meets Tryz.prog 112 [.agg x.enc, .iptr c.enc 0] (.bool (staleB c x)) [] := by
  refine meets_x (fn := Tryz.f112) Tryz.func112 rfl fb112 (by kernel_rfl) (Nat.le_of_ble_eq_true rfl) ?_
  refine cx_sr ?_
  simp only [go_sem]
  repeat first | (with_reducible refine side_d ?_ ?_; exact byD) | (with_reducible refine side_q ?_ ?_; exact byQ)
  refine cx_sr ?_
  simp only [go_sem]
  intro t8 e8
  refine ⟨_, fun hp => cw_m (In_c x.path c.path (by omega) (by have := ok.1; omega)) byW byT ⟨rfl, rfl⟩, ?_⟩
  simp only [go_sem]
  intro t15 e15
  rw [bsel_and] at e15
  subst e8 e15
  refine cx_ret ?_
  simp only [go_sem]
  exact finw_bool (by simp [staleB])
def goalP (c : Change) : Str := if c.kind = 3 then c.to else c.path
def mayP (l : List Entry) (c : Change) : Int :=
  if (parE l (goalP c)).2 = false then 5
  else if (parE l (goalP c)).1.folder = false then 4
  else if c.kind = 1 ∧ hasE l c.path = true then 6
  else if c.kind = 2 ∧ hasE l c.path = true ∧ (l.getD (eIx l c.path) default).folder = true then 4
  else if c.kind ≠ 1 ∧ c.kind ≠ 2 ∧ hasE l c.path = false then 5
  else if c.kind = 3 ∧ isIn c.to c.path = true then 3
  else if c.kind = 3 ∧ hasE l c.to = true then 6
  else if c.base ≠ -1 ∧ l.any (staleB c) = true then 8 else 0
theorem may_c (l : List Entry) (c : Change) (hs : SortedE l) (okl : okE l) (ok : okC c) : Meets Tryz.prog 91 [esV l, .agg c.enc] (.int .i64 (mayP l c)) [] := by
  refine meets_x (fn := Tryz.f91) Tryz.func91 rfl fb91 (by kernel_rfl) (Nat.le_of_ble_eq_true rfl) ?_
  have hl := okl.1
  obtain ⟨ok1, ok2, ok3⟩ := id ok
  have hgl : (goalP c).length ≤ 1048576 := by unfold goalP; split <;> omega
  have hix : ∀ p, hasE l p = true → eIx l p < l.length := fun p h => by simp [hasE] at h; exact h.1
  refine cx_sr ?_
  simp only [go_sem]
  repeat first | (with_reducible refine side_d ?_ ?_; exact byD) | (with_reducible refine side_q ?_ ?_; exact byQ)
  refine cx_sr ?_
  simp only [go_sem]
  refine cx_seq ?_
  refine cx_sr ?_
  simp only [go_sem]
  intro t17 e17
  subst e17
  refine cx_meet0 (σ := Unit) (fun u => True) (fun u => [⟨5, 0, [], .str (goalP c)⟩]) [0, 3, 4] (Nat.zero_le _) ?_ (fun u hIM1 => ?_)
  ·
   refine cx_if _ rfl (fun h17 => ?_) (fun h17 => ?_)
   ·
    (try simp only [go_sem] at h17)
    refine cx_region ?_
    simp only [go_sem]
    have hk : c.kind = 3 := by simpa using h17
    refine mt_next () trivial ?_
    rw [goalP, if_pos hk]
    exact byC
   ·
    (try simp only [go_sem] at h17)
    refine cx_skip ?_
    (try simp only [go_sem])
    have hk : ¬ c.kind = 3 := by simpa using h17
    refine mt_next () trivial ?_
    rw [goalP, if_neg hk]
    exact byC
  simp only [go_sem]
  refine cx_seq ?_
  refine cx_sr ?_
  simp only [go_sem]
  repeat first | (with_reducible refine side_d ?_ ?_; exact byD) | (with_reducible refine side_q ?_ ?_; exact byQ)
  refine cw_m (parent_c l (goalP c) hs (by omega) (by omega)) byW byT ?_
  simp only [go_sem]
  refine cx_block ?_
  refine cx_sr ?_
  simp only [go_sem]
  intro t28 e28
  subst e28
  refine cx_if _ rfl (fun h26 => ?_) (fun h26 => ?_)
  ·
   (try simp only [go_sem] at h26)
   refine cx_sr ?_
   simp only [go_sem]
   refine cx_ret ?_
   simp only [go_sem]
   refine finw_int ?_
   unfold mayP
   grind
  ·
   (try simp only [go_sem] at h26)
   refine cx_sr ?_
   simp only [go_sem]
   intro t32 e32
   subst e32
   refine cx_if _ rfl (fun h29 => ?_) (fun h29 => ?_)
   ·
    (try simp only [go_sem] at h29)
    refine cx_sr ?_
    simp only [go_sem]
    refine cx_ret ?_
    simp only [go_sem]
    refine finw_int ?_
    unfold mayP
    grind
   ·
    (try simp only [go_sem] at h29)
    refine cx_skip ?_
    (try simp only [go_sem])
    refine cx_sr ?_
    simp only [go_sem]
    refine cw_m (At_c l c.path hs (by omega)) byW byT ?_
    simp only [go_sem]
    refine cx_seq ?_
    refine cx_sr ?_
    simp only [go_sem]
    refine cx_meet0 (σ := Unit) (fun u => (c.kind = 1 → hasE l c.path = false) ∧ (c.kind = 2 → hasE l c.path = true → (l.getD (eIx l c.path) default).folder = false) ∧ (c.kind ≠ 1 → c.kind ≠ 2 → hasE l c.path = true)) (fun u => []) [0, 3] (Nat.zero_le _) ?_ (fun u hIM2 => ?_)
    ·
     refine cx_block ?_
     refine cx_sr ?_
     simp only [go_sem]
     intro t45 e45
     subst e45
     refine cx_if _ rfl (fun h44 => ?_) (fun h44 => ?_)
     ·
      (try simp only [go_sem] at h44)
      refine cx_sr ?_
      simp only [go_sem]
      refine cx_if _ rfl (fun h46 => ?_) (fun h46 => ?_)
      ·
       (try simp only [go_sem] at h46)
       refine cx_sr ?_
       simp only [go_sem]
       refine cx_ret ?_
       simp only [go_sem]
       refine finw_int ?_
       unfold mayP
       grind
      ·
       (try simp only [go_sem] at h46)
       refine cx_skip ?_
       (try simp only [go_sem])
       refine mt_next () (by grind) byC
     ·
      (try simp only [go_sem] at h44)
      refine cx_sr ?_
      simp only [go_sem]
      intro t48 e48
      subst e48
      refine cx_if _ rfl (fun h47 => ?_) (fun h47 => ?_)
      ·
       (try simp only [go_sem] at h47)
       refine cx_sr ?_
       simp only [go_sem]
       repeat ((with_reducible first | refine side_d ?_ ?_ | refine side_q ?_ ?_); focus (first | exact byD | exact byQ | ((refine Sd.of fun hp => ?_; simp only [pc, and_true] at hp; (have hq := hix c.path hp); omega))))
       repeat first | (with_reducible refine side_d ?_ ?_; exact byD) | (with_reducible refine side_q ?_ ?_; exact byQ)
       intro t56 e56
       rw [bsel_and] at e56
       subst e56
       refine cx_if _ rfl (fun h56 => ?_) (fun h56 => ?_)
       ·
        (try simp only [go_sem] at h56)
        refine cx_sr ?_
        simp only [go_sem]
        refine cx_ret ?_
        simp only [go_sem]
        refine finw_int ?_
        unfold mayP
        grind
       ·
        (try simp only [go_sem] at h56)
        refine cx_skip ?_
        (try simp only [go_sem])
        refine mt_next () (by grind) byC
      ·
       (try simp only [go_sem] at h47)
       refine cx_sr ?_
       simp only [go_sem]
       intro t43 e43
       subst e43
       refine cx_if _ rfl (fun h43 => ?_) (fun h43 => ?_)
       ·
        (try simp only [go_sem] at h43)
        refine cx_sr ?_
        simp only [go_sem]
        refine cx_ret ?_
        simp only [go_sem]
        refine finw_int ?_
        unfold mayP
        grind
       ·
        (try simp only [go_sem] at h43)
        refine cx_skip ?_
        (try simp only [go_sem])
        refine mt_next () (by grind) byC
    simp only [go_sem]
    refine cx_seq ?_
    refine cx_sr ?_
    simp only [go_sem]
    repeat first | (with_reducible refine side_d ?_ ?_; exact byD) | (with_reducible refine side_q ?_ ?_; exact byQ)
    intro t59 e59
    subst e59
    refine cx_if _ rfl (fun h59 => ?_) (fun h59 => ?_)
    ·
     (try simp only [go_sem] at h59)
     refine cx_seq ?_
     refine cx_sr ?_
     simp only [go_sem]
     refine cw_m (In_c c.to c.path (by omega) (by omega)) byW byT ?_
     simp only [go_sem]
     refine cx_if _ rfl (fun h64 => ?_) (fun h64 => ?_)
     ·
      (try simp only [go_sem] at h64)
      refine cx_sr ?_
      simp only [go_sem]
      refine cx_ret ?_
      simp only [go_sem]
      refine finw_int ?_
      unfold mayP
      grind
     ·
      (try simp only [go_sem] at h64)
      refine cx_skip ?_
      (try simp only [go_sem])
      refine cx_sr ?_
      simp only [go_sem]
      refine cw_m (At_c l c.to hs (by omega)) byW byT ?_
      simp only [go_sem]
      refine cx_sr ?_
      simp only [go_sem]
      refine cx_if _ rfl (fun h72 => ?_) (fun h72 => ?_)
      ·
       (try simp only [go_sem] at h72)
       refine cx_sr ?_
       simp only [go_sem]
       refine cx_ret ?_
       simp only [go_sem]
       refine finw_int ?_
       unfold mayP
       grind
      ·
       (try simp only [go_sem] at h72)
       refine cx_skip ?_
       (try simp only [go_sem])
       refine cx_sr ?_
       simp only [go_sem]
       refine cx_seq ?_
       refine cx_sr ?_
       simp only [go_sem]
       intro t76 e76
       refine ⟨_, fun hp => cw_v 2 (ContainsFunc_Entry 112 [.iptr c.enc 0] rfl (staleB c) l (fun x hx => stale_c c x ok (okl.2 x hx).1) (by omega)) byV byC rfl ⟨rfl, rfl⟩, ?_⟩
       simp only [go_sem]
       intro t81 e81
       rw [bsel_and] at e81
       subst e76 e81
       refine cx_if _ rfl (fun h81 => ?_) (fun h81 => ?_)
       ·
        (try simp only [go_sem] at h81)
        refine cx_sr ?_
        simp only [go_sem]
        refine cx_ret ?_
        simp only [go_sem]
        refine finw_int ?_
        unfold mayP
        grind
       ·
        (try simp only [go_sem] at h81)
        refine cx_skip ?_
        (try simp only [go_sem])
        refine cx_sr ?_
        simp only [go_sem]
        refine cx_ret ?_
        simp only [go_sem]
        refine finw_int ?_
        unfold mayP
        grind
    ·
     (try simp only [go_sem] at h59)
     refine cx_skip ?_
     (try simp only [go_sem])
     refine cx_sr ?_
     simp only [go_sem]
     refine cx_seq ?_
     refine cx_sr ?_
     simp only [go_sem]
     intro t76 e76
     refine ⟨_, fun hp => cw_v 2 (ContainsFunc_Entry 112 [.iptr c.enc 0] rfl (staleB c) l (fun x hx => stale_c c x ok (okl.2 x hx).1) (by omega)) byV byC rfl ⟨rfl, rfl⟩, ?_⟩
     simp only [go_sem]
     intro t81 e81
     rw [bsel_and] at e81
     subst e76 e81
     refine cx_if _ rfl (fun h81 => ?_) (fun h81 => ?_)
     ·
      (try simp only [go_sem] at h81)
      refine cx_sr ?_
      simp only [go_sem]
      refine cx_ret ?_
      simp only [go_sem]
      refine finw_int ?_
      unfold mayP
      grind
     ·
      (try simp only [go_sem] at h81)
      refine cx_skip ?_
      (try simp only [go_sem])
      refine cx_sr ?_
      simp only [go_sem]
      refine cx_ret ?_
      simp only [go_sem]
      refine finw_int ?_
      unfold mayP
      grind
end Go.VM.Tryz
end
section
set_option maxHeartbeats 4000000
set_option linter.unusedVariables false
set_option linter.unusedSimpArgs false
open Go Go.VM Go.Proofs Tether
namespace Go.VM.Tryz
set_option maxRecDepth 100000
theorem withoutIn_c (p : Str) (hp : p.length < 4611686018427387904) (x : Entry) (hx : x.path.length < 4611686018427387904) : Meets Tryz.prog 134 [.agg x.enc, .iptr [.str p] 0] (.bool (isIn x.path p)) [] := by
  refine meets_x (fn := Tryz.f134) Tryz.func134 rfl fb134 (by kernel_rfl) (Nat.le_of_ble_eq_true rfl) ?_
  refine cx_sr ?_
  simp only [go_sem]
  repeat first | (with_reducible refine side_d ?_ ?_; exact byD) | (with_reducible refine side_q ?_ ?_; exact byQ)
  refine cx_sr ?_
  simp only [go_sem]
  refine cw_m (In_c x.path p hx hp) byW byT ?_
  simp only [go_sem]
  refine cx_ret ?_
  simp only [go_sem]
  exact finw_bool rfl
/-- entries that are not too great -/
def outB (p : Str) (x : Entry) : Bool := !isIn x.path p
theorem stF_En {x : Entry} {l : List Entry} {k i : Nat} {vs : List V} (hk : k < l.length) (hx : spl (Entry.enc (l.getD k default)) 0 vs = Entry.enc x) : stF (En Entry.enc default l) k 0 vs i = En Entry.enc default (l.set k x) i := by
  unfold stF
  cases hb : Nat.beq i k with
  | true =>
    have e : i = k := Nat.eq_of_beq_eq_true hb
    subst e
    simp only [cond, En]
    rw [hx]
    simp [List.getD, hk]
  | false =>
    have hne : i ≠ k := Nat.ne_of_beq_eq_false hb
    simp only [cond, En]
    simp [List.getD, List.getElem?_set, Ne.symm hne]
theorem put_c (l : List Entry) (x : Entry) (hs : SortedE l) (hl : (l.length + 1) * 48 ≤ 140737488355328) :
    Does Tryz.prog 114 [.own none 0 4 0 l.length .loose, .agg x.enc] [.arr 4 l.length (En Entry.enc default l)]
      (.own none 1 4 0 (putE l x).length .loose) [.dead, .arr 4 (putE l x).length (En Entry.enc default (putE l x))] := by
  refine does_cx (fn := Tryz.f114) Tryz.func114 rfl fb114 (by kernel_rfl) (Nat.le_of_ble_eq_true rfl) ?_
  have hle := eIx_le l x.path
  refine cx_sr ?_
  simp only [go_sem]
  repeat first | (with_reducible refine side_d ?_ ?_; exact byD) | (with_reducible refine side_q ?_ ?_; exact byQ)
  refine cx_sr ?_
  simp only [go_sem]
  refine cw_v 2 (At_c l x.path hs (by omega)) byV byC rfl ?_
  simp only [go_sem]
  refine cx_seq ?_
  refine cx_sr ?_
  simp only [go_sem]
  refine cx_if _ rfl (fun h14 => ?_) (fun h14 => ?_)
  ·
   (try simp only [go_sem] at h14)
   have hh : hasE l x.path = true := by simpa using h14
   have hix : eIx l x.path < l.length := by simp [hasE] at hh; exact hh.1
   have hpu : putE l x = l.set (eIx l x.path) x := by rw [putE, if_pos hh]
   refine cx_sr ?_
   simp only [go_sem]
   repeat first | (with_reducible refine side_d ?_ ?_; exact byD) | (with_reducible refine side_q ?_ ?_; exact byQ)
   refine cx_move 0 rfl ?_
   simp only [go_sem]
   refine cx_sr ?_
   simp only [go_sem]
   refine cx_ret ?_
   simp only [go_sem]
   rw [hpu, List.length_set]
   refine ⟨[0, 2], rfl, rfl, ?_, ?_⟩
   · exact byC
   · simp only [go_sem, wk, wks, wkB, wkH]
     exact fun i hi => wks_mp_of (fun _ => rfl) (stF_En hix rfl)
  ·
   (try simp only [go_sem] at h14)
   have hh : ¬ hasE l x.path = true := by simpa using h14
   have hpu : putE l x = l.take (eIx l x.path) ++ x :: l.drop (eIx l x.path) := by rw [putE, if_neg hh]
   have hpl : (putE l x).length = l.length + 1 := by rw [putE_length, if_neg hh]
   refine cx_skip ?_
   (try simp only [go_sem])
   refine cx_sr ?_
   simp only [go_sem]
   refine cw_does (Insert_Entry l (eIx l x.path) x hle hl) [0, 2] rfl byC byC ?_
   simp only [go_sem]
   refine cx_ret ?_
   simp only [go_sem]
   rw [hpl, hpu]
   exact ⟨[0, 3], rfl, rfl, byC, byC⟩
theorem without_c (l : List Entry) (p : Str) (hp : p.length < 4611686018427387904) (hl : l.length < 4611686018427387904) (hx : ∀ x ∈ l, x.path.length < 4611686018427387904) :
    Does Tryz.prog 115 [.own none 0 4 0 l.length .loose, .str p] [.arr 4 l.length (En Entry.enc default l)]
      (.own none 0 4 0 (l.filter (outB p)).length .loose) [.arr 4 (l.filter (outB p)).length (En Entry.enc default (l.filter (outB p)))] := by
  refine does_cx (fn := Tryz.f115) Tryz.func115 rfl fb115 (by kernel_rfl) (Nat.le_of_ble_eq_true rfl) ?_
  refine cx_sr ?_
  simp only [go_sem]
  repeat first | (with_reducible refine side_d ?_ ?_; exact byD) | (with_reducible refine side_q ?_ ?_; exact byQ)
  refine cx_sr ?_
  simp only [go_sem]
  refine cw_does (DeleteFunc_Entry 134 [.str p] rfl (fun x => isIn x.path p) l (fun x h => withoutIn_c p hp x (hx x h)) hl) [0, 1] rfl byC byC ?_
  simp only [go_sem]
  refine cx_ret ?_
  simp only [go_sem]
  exact ⟨[0], rfl, rfl, byC, byC⟩
end Go.VM.Tryz
end
section
set_option maxHeartbeats 4000000
set_option linter.unusedVariables false
set_option linter.unusedSimpArgs false
open Go Go.VM Go.Proofs Tether
namespace Go.VM.Tryz
set_option maxRecDepth 100000
def inB (p : Str) (x : Entry) : Bool := isIn x.path p
def mvE (c : Change) (v : Int) (x : Entry) : Entry := ⟨c.to ++ x.path.drop c.path.length, x.folder, x.text, if x.path = c.path then v else x.version⟩
def goesP (l : List Entry) (c : Change) (v : Int) : List Entry := (l.filter (inB c.path)).map (mvE c v)
def movedL (l : List Entry) (c : Change) (v : Int) : List Entry := (goesP l c v).foldl putE (l.filter (outB c.path))
def greatG (l : List Entry) (c : Change) (v : Int) : Bool := (goesP l c v).any fun x => greatB x.path
/-- the tree that a change makes, whatever it is like -/
def madeP (l : List Entry) (c : Change) (v : Int) : List Entry :=
  if c.kind = 1 then putE l ⟨c.path, true, [], v⟩ else if c.kind = 2 then putE l ⟨c.path, false, c.text, v⟩ else if c.kind = 4 then l.filter (outB c.path) else if c.kind = 3 then movedL l c v else l
def doneErr (l : List Entry) (c : Change) (v : Int) : Int := if c.kind = 3 ∧ greatG l c v = true then 2 else if 60 < ((madeP l c v).length : Int) then 2 else 0
def doneP (l : List Entry) (c : Change) (v : Int) : List Entry := if doneErr l c v = 0 then madeP l c v else []
/-- paths that are right -/
def okP (l : List Entry) : Prop := l.length ≤ 120 ∧ ∀ x ∈ l, checkP [x.path] = 0
theorem checkP_len {p : Str} (h : checkP [p] = 0) : p.length ≤ 80 := by
  have := ((checkP_iff p).1 h).2
  rw [greatB_false] at this
  exact this.2
theorem goes_snoc {l : List Entry} {c : Change} {v : Int} {i : Nat} (h : i < l.length) : goesP (l.take (i + 1)) c v = if inB c.path (l.getD i default) = true then goesP (l.take i) c v ++ [mvE c v (l.getD i default)] else goesP (l.take i) c v := by
  have hd : l.getD i default = l[i] := by simp [List.getD, h]
  rw [hd, List.take_add_one, List.getElem?_eq_getElem h]
  unfold goesP
  rw [List.filter_append]
  by_cases hb : inB c.path l[i] = true
  · rw [if_pos hb]; simp [hb]
  · rw [if_neg hb]; simp [hb]
theorem goes_len (l : List Entry) (c : Change) (v : Int) : (goesP l c v).length ≤ l.length := by
  unfold goesP
  rw [List.length_map]
  exact List.length_filter_le _ _
theorem foldl_put_len : ∀ (g l : List Entry), (g.foldl putE l).length ≤ l.length + g.length
  | [], l => by simp
  | x :: g, l => by
    have := foldl_put_len g (putE l x)
    have h2 := putE_length l x
    simp only [List.foldl_cons, List.length_cons]
    split at h2 <;> omega
theorem foldl_put_sorted : ∀ (g : List Entry) {l : List Entry}, SortedE l → SortedE (g.foldl putE l)
  | [], _, h => h
  | x :: g, _, h => foldl_put_sorted g (putE_sorted h x)
theorem moved_ok {p f t : Str} (hp : checkP [p] = 0) (hf : checkP [f] = 0) (ht : checkP [t] = 0) (h : isIn p f = true) : movedP p f t = if greatB (t ++ p.drop f.length) = true then ([], 2) else (t ++ p.drop f.length, 0) := by
  have hc : checkP [p, f, t] = 0 := (checkP3 p f t).2 ⟨hp, hf, ht⟩
  rw [movedP, if_neg (by simp [hc]), if_neg (by simp [h])]
theorem great_at {l : List Entry} {c : Change} {v : Int} {i : Nat} (hi : i < l.length) (h : inB c.path (l.getD i default) = true) (hg : greatB (c.to ++ (l.getD i default).path.drop c.path.length) = true) : greatG l c v = true := by
  rw [greatG, List.any_eq_true]
  exact ⟨mvE c v (l.getD i default), List.mem_map_of_mem (List.mem_filter.2 ⟨getD_mem hi, h⟩), hg⟩
theorem done_c (l : List Entry) (c : Change) (v : Int) (hs : SortedE l) (okl : okP l) (hp : checkP [c.path] = 0) (ht : c.kind = 3 → checkP [c.to] = 0) :
    Does Tryz.prog 92 [.own none 0 4 0 l.length .loose, .agg c.enc, .int .i64 v] [.arr 4 l.length (En Entry.enc default l)]
      (.tup [.own none 1 4 0 (doneP l c v).length .loose, .int .i64 (doneErr l c v)]) [.dead, .arr 4 (doneP l c v).length (En Entry.enc default (doneP l c v))] := by
  refine does_cx (fn := Tryz.f92) Tryz.func92 rfl fb92 (by kernel_rfl) (Nat.le_of_ble_eq_true rfl) ?_
  have hl := okl.1
  have hcp := checkP_len hp
  refine cx_sr ?_
  simp only [go_sem]
  repeat first | (with_reducible refine side_d ?_ ?_; exact byD) | (with_reducible refine side_q ?_ ?_; exact byQ)
  refine cx_seq ?_
  refine cx_sr ?_
  simp only [go_sem]
  refine cx_meet (σ := Unit) (fun u => c.kind = 3 → greatG l c v = false) (fun u => [⟨0, 0, [], .own none 2 4 0 (madeP l c v).length .loose⟩]) [] (fun u => [.dead, .box c.enc, .arr 4 (madeP l c v).length (En Entry.enc default (madeP l c v))]) (fun _ => (Nat.le_of_ble_eq_true rfl)) ?_ (fun u hIM1 => ?_)
  ·
   refine cx_block ?_
   refine cx_sr ?_
   simp only [go_sem]
   intro t18 e18
   subst e18
   refine cx_if _ rfl (fun h17 => ?_) (fun h17 => ?_)
   ·
    (try simp only [go_sem] at h17)
    refine cx_region ?_
    simp only [go_sem]
    refine cw_does (put_c l ⟨c.path, true, [], v⟩ hs (by omega)) [0] rfl byC byC ?_
    simp only [go_sem]
    have hk : c.kind = 1 := by simpa using h17
    have hm : madeP l c v = putE l ⟨c.path, true, [], v⟩ := by rw [madeP, if_pos hk]
    refine mt_next () (by omega) ?_
    rw [hm]
    exact byC
   ·
    (try simp only [go_sem] at h17)
    refine cx_sr ?_
    simp only [go_sem]
    intro t26 e26
    subst e26
    refine cx_if _ rfl (fun h25 => ?_) (fun h25 => ?_)
    ·
     (try simp only [go_sem] at h25)
     refine cx_region ?_
     simp only [go_sem]
     refine cw_does (put_c l ⟨c.path, false, c.text, v⟩ hs (by omega)) [0] rfl byC byC ?_
     simp only [go_sem]
     have hk : c.kind = 2 := by simpa using h25
     have hm : madeP l c v = putE l ⟨c.path, false, c.text, v⟩ := by rw [madeP, if_neg (by omega), if_pos hk]
     refine mt_next () (by omega) ?_
     rw [hm]
     exact byC
    ·
     (try simp only [go_sem] at h25)
     refine cx_sr ?_
     simp only [go_sem]
     intro t36 e36
     subst e36
     refine cx_if _ rfl (fun h35 => ?_) (fun h35 => ?_)
     ·
      (try simp only [go_sem] at h35)
      refine cx_move 0 rfl ?_
      simp only [go_sem]
      refine cx_region ?_
      simp only [go_sem]
      refine cw_does (without_c l c.path (by omega) (by omega) (fun x hx => by have := checkP_len (okl.2 x hx); omega)) [2] rfl byC byC ?_
      simp only [go_sem]
      have hk : c.kind = 4 := by simpa using h35
      have hm : madeP l c v = l.filter (outB c.path) := by rw [madeP, if_neg (by omega), if_neg (by omega), if_pos hk]
      refine mt_next () (by omega) ?_
      rw [hm]
      exact byC
     ·
      (try simp only [go_sem] at h35)
      refine cx_sr ?_
      simp only [go_sem]
      intro t42 e42
      subst e42
      refine cx_if _ rfl (fun h41 => ?_) (fun h41 => ?_)
      ·
       (try simp only [go_sem] at h41)
       refine cx_sr ?_
       simp only [go_sem]
       refine cx_virt 8 4 (En Entry.enc default []) rfl ?_
       refine cx_seq ?_
       refine cx_sr ?_
       simp only [go_sem]
       refine cx_block ?_
       refine cx_loopk (σ := Nat) (fun i => i ≤ l.length ∧ greatG (l.take i) c v = false) (fun i => [⟨45, 0, [], .int .i64 (i : Nat)⟩, ⟨8, 0, [], .own none 2 4 0 (goesP (l.take i) c v).length .loose⟩]) [0, 2, 4, 43, 44] (fun i => [.arr 4 l.length (En Entry.enc default l), .box c.enc, .arr 4 (goesP (l.take i) c v).length (En Entry.enc default (goesP (l.take i) c v))]) (fun i => l.length - i) 0 ⟨Nat.zero_le _, by simp [greatG, goesP]⟩ (fun _ => (Nat.le_of_ble_eq_true rfl)) byC (fun i hI1 => ?_)
       simp only [go_sem]
       have hgl := goes_len (l.take i) c v
       have hgl2 : (l.take i).length = i := by simp; omega
       refine cx_sr ?_
       simp only [go_sem]
       repeat first | (with_reducible refine side_d ?_ ?_; exact byD) | (with_reducible refine side_q ?_ ?_; exact byQ)
       intro t46 e46
       subst e46
       refine cx_seq ?_
       refine cx_if _ rfl (fun h46 => ?_) (fun h46 => ?_)
       ·
        (try simp only [go_sem] at h46)
        have hxp := okl.2 (l.getD i default) (getD_mem (by omega))
        have hxl := checkP_len hxp
        have htl := checkP_len (ht h41)
        refine cx_skip ?_
        (try simp only [go_sem])
        refine cx_seq (cx_block ?_)
        refine cx_sr ?_
        simp only [go_sem]
        repeat first | (with_reducible refine side_d ?_ ?_; exact byD) | (with_reducible refine side_q ?_ ?_; exact byQ)
        refine cx_seq ?_
        refine cx_sr ?_
        simp only [go_sem]
        refine cw_m (In_c (l.getD i default).path c.path (by omega) (by omega)) byW byT ?_
        simp only [go_sem]
        intro t54 e54
        subst e54
        refine cx_if _ rfl (fun h54 => ?_) (fun h54 => ?_)
        ·
         (try simp only [go_sem] at h54)
         refine cx_exit ?_
         simp only [go_sem]
         refine cx_region ?_
         simp only [go_sem]
         intro t81 e81
         (try replace e81 := w64 e81 (by omega) (by omega))
         have hn : ¬ inB c.path (l.getD i default) = true := by simpa [inB] using h54
         have hg : goesP (l.take (i + 1)) c v = goesP (l.take i) c v := by rw [goes_snoc (by omega), if_neg hn]
         refine rnd_next (i + 1) ⟨by omega, by rw [greatG, hg]; exact hI1.2⟩ (by first | omega | (dsimp only; omega)) ?_
         rw [hg]
         exact byC
        ·
         (try simp only [go_sem] at h54)
         have hin : isIn (l.getD i default).path c.path = true := by simpa using h54
         have hb : inB c.path (l.getD i default) = true := hin
         have hmv := moved_ok hxp hp (ht h41) hin
         refine cx_skip ?_
         (try simp only [go_sem])
         refine cx_seq ?_
         refine cx_sr ?_
         simp only [go_sem]
         intro t59 e59
         subst e59
         refine cx_meet (σ := Unit) (fun u2 => True) (fun u2 => []) [0, 2, 4, 8, 10, 43, 44, 45] (fun u2 => [.arr 4 l.length (En Entry.enc default l), .box c.enc, .arr 4 (goesP (l.take i) c v).length (En Entry.enc default (goesP (l.take i) c v)), .box [.str (l.getD i default).path, .bool (l.getD i default).folder, .str (l.getD i default).text, .int .i64 (if (l.getD i default).path = c.path then v else (l.getD i default).version)]]) (fun _ => (Nat.le_of_ble_eq_true rfl)) ?_ (fun u2 hIM2 => ?_)
         ·
          refine cx_if _ rfl (fun h59 => ?_) (fun h59 => ?_)
          ·
           (try simp only [go_sem] at h59)
           refine cx_region ?_
           simp only [go_sem]
           have hk : (l.getD i default).path = c.path := by simpa using h59
           refine mt_next () trivial ?_
           rw [if_pos hk]
           exact byC
          ·
           (try simp only [go_sem] at h59)
           refine cx_skip ?_
           (try simp only [go_sem])
           have hk : ¬ (l.getD i default).path = c.path := by simpa using h59
           refine mt_next () trivial ?_
           rw [if_neg hk]
           exact byC
         simp only [go_sem]
         refine cx_sr ?_
         simp only [go_sem]
         repeat first | (with_reducible refine side_d ?_ ?_; exact byD) | (with_reducible refine side_q ?_ ?_; exact byQ)
         refine cw_m (Moved_c (l.getD i default).path c.path c.to (by omega) (by omega)) byW byT ?_
         simp only [go_sem]
         refine cx_seq ?_
         refine cx_sr ?_
         simp only [go_sem]
         intro t73 e73
         subst e73
         refine cx_if _ rfl (fun h73 => ?_) (fun h73 => ?_)
         ·
          (try simp only [go_sem] at h73)
          have hgr : greatB (c.to ++ (l.getD i default).path.drop c.path.length) = true := by
            rw [hmv] at h73
            by_cases hq : greatB (c.to ++ (l.getD i default).path.drop c.path.length) = true
            · exact hq
            · rw [if_neg hq] at h73
              simp at h73
          have he : (movedP (l.getD i default).path c.path c.to).2 = 2 := by rw [hmv, if_pos hgr]
          have hd : doneErr l c v = 2 := by rw [doneErr, if_pos ⟨h41, great_at (by omega) hb hgr⟩]
          have hd0 : doneP l c v = [] := by rw [doneP, hd]; rfl
          refine cx_sr ?_
          simp only [go_sem]
          refine cx_virt 6 4 (En Entry.enc default []) rfl ?_
          simp only [go_sem]
          refine cx_ret ?_
          simp only [go_sem]
          rw [hd, hd0, he]
          exact ⟨[0, 4], rfl, rfl, byC, byC⟩
         ·
          (try simp only [go_sem] at h73)
          have hgr : ¬ greatB (c.to ++ (l.getD i default).path.drop c.path.length) = true := by
            intro hq
            rw [hmv, if_pos hq] at h73
            simp at h73
          have hq1 : (movedP (l.getD i default).path c.path c.to).1 = c.to ++ (l.getD i default).path.drop c.path.length := by rw [hmv, if_neg hgr]
          have hg : goesP (l.take (i + 1)) c v = goesP (l.take i) c v ++ [mvE c v (l.getD i default)] := by rw [goes_snoc (by omega), if_pos hb]
          have hgg : greatG (l.take (i + 1)) c v = false := by
            rw [greatG, hg, List.any_append]
            have := hI1.2
            rw [greatG] at this
            rw [this]
            simpa [mvE] using hgr
          rw [hq1]
          refine cx_skip ?_
          (try simp only [go_sem])
          refine cx_sr ?_
          simp only [go_sem]
          refine cx_region ?_
          simp only [go_sem]
          repeat first | (with_reducible refine side_d ?_ ?_; exact byD) | (with_reducible refine side_q ?_ ?_; exact byQ)
          refine cx_region ?_
          simp only [go_sem]
          intro t81 e81
          (try replace e81 := w64 e81 (by omega) (by omega))
          refine rnd_nextr (i + 1) [0, 1, 5] ⟨by omega, hgg⟩ (by first | omega | (dsimp only; omega)) ⟨rfl, rfl, ?_, ?_⟩
          · (try rw [hg]); exact byC
          · rw [hg]; skip
            simp only [go_sem, wk, wks, wkB, wkH, List.length_append, List.length_cons, List.length_nil]
            first | exact fun q hq => wks_mp_snoc (fun x => rnVs_no _ rfl) (by rfl) hq | (and_intros <;> first | trivial | rfl | omega | (exact fun q hq => wks_mp_snoc (fun x => rnVs_no _ rfl) (by rfl) hq) | exact wks_refl _ | exact byC)
       ·
        (try simp only [go_sem] at h46)
        have hi : l.take i = l := by rw [List.take_of_length_le (by omega)]
        rw [hi]
        refine cx_exit ?_
        simp only [go_sem]
        refine cx_sr ?_
        simp only [go_sem]
        refine cw_does (without_c l c.path (by omega) (by omega) (fun x hx => by have := checkP_len (okl.2 x hx); omega)) [0] rfl byC byC ?_
        simp only [go_sem]
        refine cx_move 0 rfl ?_
        refine cx_sr ?_
        simp only [go_sem]
        refine cx_block ?_
        refine cx_loopk (σ := Nat) (fun j => j ≤ (goesP l c v).length) (fun j => [⟨88, 0, [], .int .i64 (j : Nat)⟩, ⟨0, 0, [], .own none 3 4 0 (((goesP l c v).take j).foldl putE (l.filter (outB c.path))).length .loose⟩]) [86, 87] (fun j => [.dead, .box c.enc, .arr 4 (goesP l c v).length (En Entry.enc default (goesP l c v)), .arr 4 (((goesP l c v).take j).foldl putE (l.filter (outB c.path))).length (En Entry.enc default (((goesP l c v).take j).foldl putE (l.filter (outB c.path))))]) (fun j => (goesP l c v).length - j) 0 (Nat.zero_le _) (fun _ => (Nat.le_of_ble_eq_true rfl)) byC (fun j hI2 => ?_)
        simp only [go_sem]
        have hfs := foldl_put_sorted ((goesP l c v).take j) (filter_sorted hs (outB c.path))
        have hfl := foldl_put_len ((goesP l c v).take j) (l.filter (outB c.path))
        have hfl2 := List.length_filter_le (outB c.path) l
        have hgl3 := goes_len l c v
        have hgl4 : ((goesP l c v).take j).length ≤ j := by simp; omega
        refine cx_sr ?_
        simp only [go_sem]
        repeat first | (with_reducible refine side_d ?_ ?_; exact byD) | (with_reducible refine side_q ?_ ?_; exact byQ)
        intro t89 e89
        subst e89
        refine cx_seq ?_
        refine cx_if _ rfl (fun h89 => ?_) (fun h89 => ?_)
        ·
         (try simp only [go_sem] at h89)
         refine cx_skip ?_
         (try simp only [go_sem])
         refine cx_seq (cx_block ?_)
         refine cx_sr ?_
         simp only [go_sem]
         repeat first | (with_reducible refine side_d ?_ ?_; exact byD) | (with_reducible refine side_q ?_ ?_; exact byQ)
         refine cx_region ?_
         simp only [go_sem]
         refine cw_does (put_c (((goesP l c v).take j).foldl putE (l.filter (outB c.path))) ((goesP l c v).getD j default) hfs (by omega)) [3] rfl byC byC ?_
         simp only [go_sem]
         refine cx_region ?_
         simp only [go_sem]
         intro t95 e95
         (try replace e95 := w64 e95 (by omega) (by omega))
         have hsn : ((goesP l c v).take (j + 1)).foldl putE (l.filter (outB c.path)) = putE (((goesP l c v).take j).foldl putE (l.filter (outB c.path))) ((goesP l c v).getD j default) := foldl_take putE _ _ _ (by omega)
         refine rnd_nextr (j + 1) [0, 1, 2, 5] (by omega) (by first | omega | (dsimp only; omega)) ⟨rfl, rfl, ?_, ?_⟩
         · rw [hsn]; exact byC
         · rw [hsn]; exact byC
        ·
         (try simp only [go_sem] at h89)
         refine cx_exit ?_
         simp only [go_sem]
         have hm : madeP l c v = ((goesP l c v).take j).foldl putE (l.filter (outB c.path)) := by
           rw [madeP, if_neg (by omega), if_neg (by omega), if_neg (by omega), if_pos h41, movedL, List.take_of_length_le (by omega)]
         refine mt_nextr () [0, 1, 3] (fun _ => by have := hI1.2; rwa [hi] at this) ⟨rfl, rfl, ?_, ?_⟩
         · rw [hm]; exact byC
         · rw [hm]; exact byC
      ·
       (try simp only [go_sem] at h41)
       refine cx_move 0 rfl ?_
       simp only [go_sem]
       refine cx_skip ?_
       (try simp only [go_sem])
       have hm : madeP l c v = l := by rw [madeP, if_neg (by omega), if_neg (by omega), if_neg (by omega), if_neg (by omega)]
       refine mt_next () (by omega) ?_
       rw [hm]
       exact byC
  simp only [go_sem]
  refine cx_seq ?_
  refine cx_sr ?_
  simp only [go_sem]
  repeat first | (with_reducible refine side_d ?_ ?_; exact byD) | (with_reducible refine side_q ?_ ?_; exact byQ)
  intro t98 e98
  subst e98
  refine cx_if _ rfl (fun h98 => ?_) (fun h98 => ?_)
  ·
   (try simp only [go_sem] at h98)
   refine cx_sr ?_
   simp only [go_sem]
   refine cx_virt 6 4 (En Entry.enc default []) rfl ?_
   simp only [go_sem]
   refine cx_ret ?_
   simp only [go_sem]
   have hd : doneErr l c v = 2 := by rw [doneErr]; split <;> first | rfl | (rw [if_pos (by omega)])
   have hd0 : doneP l c v = [] := by rw [doneP, hd]; rfl
   rw [hd, hd0]
   exact ⟨[0, 3], rfl, rfl, byC, byC⟩
  ·
   (try simp only [go_sem] at h98)
   refine cx_skip ?_
   (try simp only [go_sem])
   refine cx_sr ?_
   simp only [go_sem]
   refine cx_ret ?_
   simp only [go_sem]
   have hd : doneErr l c v = 0 := by rw [doneErr, if_neg (by rintro ⟨h1, h2⟩; rw [hIM1 h1] at h2; cases h2), if_neg (by omega)]
   have hd0 : doneP l c v = madeP l c v := by rw [doneP, if_pos hd]
   rw [hd, hd0]
   exact ⟨[0, 2], rfl, rfl, byC, byC⟩
end Go.VM.Tryz
end
section
set_option maxHeartbeats 4000000
set_option linter.unusedVariables false
set_option linter.unusedSimpArgs false
open Go Go.VM Go.Proofs Tether
namespace Go.VM.Tryz
set_option maxRecDepth 100000
def rawErr (l : List Entry) (c : Change) (v : Int) : Int := if formP c ≠ 0 then formP c else if mayP l c ≠ 0 then mayP l c else doneErr l c v
def rawP (l : List Entry) (c : Change) (v : Int) : List Entry := if rawErr l c v = 0 then madeP l c v else []
theorem form_ok {c : Change} (h : formP c = 0) : checkP [c.path] = 0 ∧ (c.kind = 3 → checkP [c.to] = 0) := by
  unfold formP at h
  grind
/-- a tree that passes: what a change asks of it -/
structure GoodT (l : List Entry) : Prop where
  sorted : SortedE l
  ok : okE l
  paths : okP l
theorem Raw_c (l : List Entry) (c : Change) (v : Int) (g : GoodT l) (ok : okC c) : Meets Tryz.prog 65 [esV l, .agg c.enc, .int .i64 v]
    (.tup [.own none 0 4 0 (rawP l c v).length .loose, .int .i64 (rawErr l c v)]) [.arr 4 (rawP l c v).length (En Entry.enc default (rawP l c v))] := by
  refine meets_x (fn := Tryz.f65) Tryz.func65 rfl fb65 (by kernel_rfl) (Nat.le_of_ble_eq_true rfl) ?_
  have hl := g.ok.1
  refine cx_sr ?_
  simp only [go_sem]
  repeat first | (with_reducible refine side_d ?_ ?_; exact byD) | (with_reducible refine side_q ?_ ?_; exact byQ)
  refine cx_sr ?_
  simp only [go_sem]
  refine cw_m (form_c c ok) byW byT ?_
  simp only [go_sem]
  refine cx_seq ?_
  refine cx_sr ?_
  simp only [go_sem]
  intro t12 e12
  subst e12
  refine cx_if _ rfl (fun h12 => ?_) (fun h12 => ?_)
  ·
   (try simp only [go_sem] at h12)
   refine cx_region ?_
   simp only [go_sem]
   refine cw_m (may_c l c g.sorted g.ok ok) byW byT ?_
   simp only [go_sem]
   refine cx_seq ?_
   refine cx_sr ?_
   simp only [go_sem]
   intro t17 e17
   subst e17
   refine cx_if _ rfl (fun h17 => ?_) (fun h17 => ?_)
   ·
    (try simp only [go_sem] at h17)
    refine cx_sr ?_
    simp only [go_sem]
    refine cx_virt 6 4 (En Entry.enc default []) rfl ?_
    simp only [go_sem]
    refine cx_ret ?_
    simp only [go_sem]
    have h1 : formP c = 0 := by simpa using h12
    have h2 : ¬ mayP l c = 0 := by simpa using h17
    have he : rawErr l c v = mayP l c := by rw [rawErr, if_neg (by simpa using h1), if_pos h2]
    have hp : rawP l c v = [] := by rw [rawP, he, if_neg h2]
    rw [he, hp]
    exact finx_of 1 [1] rfl byC byC byC byC
   ·
    (try simp only [go_sem] at h17)
    have hF : formP c = 0 := by first | (simpa using h12) | (simpa using h17)
    refine cx_skip ?_
    (try simp only [go_sem])
    refine cx_seq (cx_draw mixed [4] (.first 0 (.first 2 (.first 3 (.one 1 (.one 4 (.first 5 (.first 6 (.first 7 (.first 8 (.done)))))))))) (by kernel_rfl) ?_)
    simp only [go_sem]
    refine cwE_m (Clone_Entry l (by omega)) byW byT ?_
    simp only [go_sem]
    refine cw_does (done_c l c v g.sorted g.paths (form_ok hF).1 (form_ok hF).2) [1] rfl byC byC ?_
    simp only [go_sem]
    refine cx_ret ?_
    simp only [go_sem]
    have h2 : mayP l c = 0 := by simpa using h17
    have he : rawErr l c v = doneErr l c v := by rw [rawErr, if_neg (by simpa using hF), if_neg (by simpa using h2)]
    have hp : rawP l c v = doneP l c v := by rw [rawP, he, doneP]
    rw [he, hp]
    exact finx_of 1 [2] rfl byC byC byC byC
  ·
   (try simp only [go_sem] at h12)
   refine cx_skip ?_
   (try simp only [go_sem])
   refine cx_seq ?_
   refine cx_sr ?_
   simp only [go_sem]
   intro t17 e17
   subst e17
   refine cx_if _ rfl (fun h17 => ?_) (fun h17 => ?_)
   ·
    (try simp only [go_sem] at h17)
    refine cx_sr ?_
    simp only [go_sem]
    refine cx_virt 6 4 (En Entry.enc default []) rfl ?_
    simp only [go_sem]
    refine cx_ret ?_
    simp only [go_sem]
    have h1 : ¬ formP c = 0 := by simpa using h12
    have he : rawErr l c v = formP c := by rw [rawErr, if_pos h1]
    have hp : rawP l c v = [] := by rw [rawP, he, if_neg h1]
    rw [he, hp]
    exact finx_of 1 [1] rfl byC byC byC byC
   ·
    (try simp only [go_sem] at h17)
    have hF : formP c = 0 := by first | (simpa using h12) | (simpa using h17)
    refine cx_skip ?_
    (try simp only [go_sem])
    refine cx_seq (cx_draw mixed [4] (.first 0 (.first 2 (.first 3 (.one 1 (.one 4 (.first 5 (.first 6 (.first 7 (.first 8 (.done)))))))))) (by kernel_rfl) ?_)
    simp only [go_sem]
    refine cwE_m (Clone_Entry l (by omega)) byW byT ?_
    simp only [go_sem]
    refine cw_does (done_c l c v g.sorted g.paths (form_ok hF).1 (form_ok hF).2) [1] rfl byC byC ?_
    simp only [go_sem]
    refine cx_ret ?_
    simp only [go_sem]
    exact absurd hF (by simpa using h12)
theorem firstErr_0 {α : Type} {f : α → Int} {l : List α} : firstErr f l = 0 ↔ ∀ x ∈ l, f x = 0 := by
  induction l with
  | nil => simp [firstErr]
  | cons x l ih =>
    unfold firstErr
    by_cases h : f x = 0
    · simp [h, ih]
    · simp [h]
theorem entErr_path {x : Entry} (h : entErr x = 0) : checkP [x.path] = 0 := by
  unfold entErr at h
  grind
theorem checkT_good {l : List Entry} (ok : okE l) (h : checkT l = 0) : GoodT l where
  sorted := by
    unfold checkT at h
    have : sortedB l = true := by grind
    exact sortedB_iff.1 this
  ok := ok
  paths := by
    unfold checkT at h
    have h1 : (l.length : Int) ≤ 60 := by grind
    have h2 : firstErr entErr l = 0 := by grind
    exact ⟨by omega, fun x hx => entErr_path (firstErr_0.1 h2 x hx)⟩
def verB (v : Int) : Bool := decide (1 ≤ v) && decide (v ≤ 1000000)
def applyErr (l : List Entry) (c : Change) (v : Int) : Int := if checkT l ≠ 0 then checkT l else if verB v = false then 3 else rawErr l c v
def applyP (l : List Entry) (c : Change) (v : Int) : List Entry := if applyErr l c v = 0 then madeP l c v else []
theorem Apply_c (l : List Entry) (c : Change) (v : Int) (okl : okE l) (ok : okC c) : Meets Tryz.prog 40 [esV l, .agg c.enc, .int .i64 v]
    (.tup [.own none 0 4 0 (applyP l c v).length .loose, .int .i64 (applyErr l c v)]) [.arr 4 (applyP l c v).length (En Entry.enc default (applyP l c v))] := by
  refine meets_x (fn := Tryz.f40) Tryz.func40 rfl fb40 (by kernel_rfl) (Nat.le_of_ble_eq_true rfl) ?_
  refine cx_sr ?_
  simp only [go_sem]
  repeat first | (with_reducible refine side_d ?_ ?_; exact byD) | (with_reducible refine side_q ?_ ?_; exact byQ)
  refine cx_seq ?_
  refine cx_sr ?_
  simp only [go_sem]
  refine cw_v 2 (tcheck1_c l okl) byV byC rfl ?_
  simp only [go_sem]
  refine cx_sr ?_
  simp only [go_sem]
  intro t13 e13
  subst e13
  refine cx_if _ rfl (fun h13 => ?_) (fun h13 => ?_)
  ·
   (try simp only [go_sem] at h13)
   refine cx_sr ?_
   simp only [go_sem]
   refine cx_virt 6 4 (En Entry.enc default []) rfl ?_
   simp only [go_sem]
   refine cx_ret ?_
   simp only [go_sem]
   have h1 : ¬ checkT l = 0 := by simpa using h13
   have he : applyErr l c v = checkT l := by rw [applyErr, if_pos h1]
   have hp : applyP l c v = [] := by rw [applyP, he, if_neg h1]
   rw [he, hp]
   exact finx_of 1 [2] rfl byC byC byC byC
  ·
   (try simp only [go_sem] at h13)
   have hg := checkT_good okl (by simpa using h13)
   refine cx_skip ?_
   (try simp only [go_sem])
   refine cx_seq ?_
   refine cx_sr ?_
   simp only [go_sem]
   refine cw_m (isVersion_c v) byW byT ?_
   simp only [go_sem]
   intro t17 e17
   subst e17
   refine cx_if _ rfl (fun h17 => ?_) (fun h17 => ?_)
   ·
    (try simp only [go_sem] at h17)
    refine cx_sr ?_
    simp only [go_sem]
    refine cx_virt 6 4 (En Entry.enc default []) rfl ?_
    simp only [go_sem]
    refine cx_ret ?_
    simp only [go_sem]
    have h1 : checkT l = 0 := by simpa using h13
    have h2 : verB v = false := by unfold verB; simp at h17 ⊢; omega
    have he : applyErr l c v = 3 := by rw [applyErr, if_neg (by simpa using h1), if_pos h2]
    have hp : applyP l c v = [] := by rw [applyP, he, if_neg (by decide)]
    rw [he, hp]
    exact finx_of 1 [2] rfl byC byC byC byC
   ·
    (try simp only [go_sem] at h17)
    refine cx_skip ?_
    (try simp only [go_sem])
    refine cx_sr ?_
    simp only [go_sem]
    refine cw_m (Raw_c l c v hg ok) byW byT ?_
    simp only [go_sem]
    refine cx_ret ?_
    simp only [go_sem]
    have h1 : checkT l = 0 := by simpa using h13
    have h2 : ¬ verB v = false := by unfold verB; simp at h17 ⊢; omega
    have he : applyErr l c v = rawErr l c v := by rw [applyErr, if_neg (by simpa using h1), if_neg h2]
    have hp : applyP l c v = rawP l c v := by rw [applyP, he, rawP]
    rw [he, hp]
    exact finx_of 1 [2] rfl byC byC byC byC
/-- changes, as they are handed over -/
abbrev csV (l : List Change) : V := lstV 5 Change.enc default l
def okCs (cs : List Change) : Prop := cs.length ≤ 1048576 ∧ ∀ c ∈ cs, okC c
end Go.VM.Tryz
end
section
set_option maxHeartbeats 4000000
set_option linter.unusedVariables false
set_option linter.unusedSimpArgs false
open Go Go.VM Go.Proofs Tether
namespace Go.VM.Tryz
set_option maxRecDepth 100000
def sameL {α : Type} [DecidableEq α] (a b : List α) : Bool := decide (a = b)
theorem list_eq_of {α : Type} {a b : List α} {d : α} (hl : a.length = b.length) (h : ∀ i, i < a.length → a.getD i d = b.getD i d) : a = b := by
  apply List.ext_getElem hl
  intro i h1 h2
  have := h i h1
  simpa [List.getD, h1, h2] using this
theorem Entry.of_eq {a b : Entry} (h : a.path = b.path ∧ a.folder = b.folder ∧ a.text = b.text ∧ a.version = b.version) : a = b := by
  cases a; cases b; simp_all
theorem Change.of_eq {a b : Change} (h : a.kind = b.kind ∧ a.path = b.path ∧ a.to = b.to ∧ a.text = b.text ∧ a.base = b.base) : a = b := by
  cases a; cases b; simp_all
theorem SameEntries_c (a b : List Entry) (ha : a.length < 4611686018427387904) (hb : b.length < 4611686018427387904) : Meets Tryz.prog 46 [lstV 4 Entry.enc default a, lstV 4 Entry.enc default b] (.bool (sameL a b)) [] := by
  refine meets_x (fn := Tryz.f46) Tryz.func46 rfl fb46 (by kernel_rfl) (Nat.le_of_ble_eq_true rfl) ?_
  refine cx_sr ?_
  simp only [go_sem]
  repeat first | (with_reducible refine side_d ?_ ?_; exact byD) | (with_reducible refine side_q ?_ ?_; exact byQ)
  refine cx_seq ?_
  refine cx_sr ?_
  simp only [go_sem]
  intro t10 e10
  subst e10
  refine cx_if _ rfl (fun h10 => ?_) (fun h10 => ?_)
  ·
   (try simp only [go_sem] at h10)
   refine cx_sr ?_
   simp only [go_sem]
   refine cx_ret ?_
   simp only [go_sem]
   refine finw_bool ?_
   have : a ≠ b := fun e => by subst e; exact h10 rfl
   simp [sameL, this]
  ·
   (try simp only [go_sem] at h10)
   refine cx_skip ?_
   (try simp only [go_sem])
   refine cx_seq ?_
   refine cx_sr ?_
   simp only [go_sem]
   refine cx_block ?_
   refine cx_loop0 (σ := Nat) (fun i => i ≤ a.length ∧ ∀ j, j < i → a.getD j default = b.getD j default) (fun i => [⟨5, 0, [], .int .i64 (i : Nat)⟩]) [0, 1] (fun i => a.length - i) 0 ⟨Nat.zero_le _, fun j hj => absurd hj (Nat.not_lt_zero j)⟩ (Nat.zero_le _) byC (fun i hI1 => ?_)
   simp only [go_sem]
   refine cx_seq ?_
   refine cx_sr ?_
   simp only [go_sem]
   repeat first | (with_reducible refine side_d ?_ ?_; exact byD) | (with_reducible refine side_q ?_ ?_; exact byQ)
   intro t14 e14
   subst e14
   refine cx_if _ rfl (fun h14 => ?_) (fun h14 => ?_)
   ·
    (try simp only [go_sem] at h14)
    refine cx_skip ?_
    (try simp only [go_sem])
    refine cx_seq (cx_block ?_)
    refine cx_seq (cx_draw mixed [] (.first 0 (.first 1 (.first 2 (.first 3 (.first 4 (.first 5 (.first 6 (.first 7 (.first 8 (.done)))))))))) (by kernel_rfl) ?_)
    simp only [go_sem]
    repeat first | (with_reducible refine side_d ?_ ?_; exact byD) | (with_reducible refine side_q ?_ ?_; exact byQ)
    intro t25 e25
    subst e25
    refine cx_if _ rfl (fun h25 => ?_) (fun h25 => ?_)
    ·
     (try simp only [go_sem] at h25)
     refine cx_sr ?_
     simp only [go_sem]
     refine cx_ret ?_
     simp only [go_sem]
     refine finw_bool ?_
     have : a ≠ b := fun e => by
       subst e
       grind
     simp [sameL, this]
    ·
     (try simp only [go_sem] at h25)
     refine cx_skip ?_
     (try simp only [go_sem])
     refine cx_region ?_
     simp only [go_sem]
     intro t16 e16
     (try replace e16 := w64 e16 (by omega) (by omega))
     have hk : a.getD i default = b.getD i default := by
       exact Entry.of_eq h25
     refine rnd_next (i + 1) ⟨by omega, all_next hI1.2 hk⟩ (by first | omega | (dsimp only; omega)) byC
   ·
    (try simp only [go_sem] at h14)
    refine cx_exit ?_
    simp only [go_sem]
    refine cx_sr ?_
    simp only [go_sem]
    refine cx_ret ?_
    simp only [go_sem]
    refine finw_bool ?_
    have : a = b := list_eq_of (d := default) (by omega) (fun j hj => hI1.2 j (by omega))
    simp [sameL, this]
theorem SameChanges_c (a b : List Change) (ha : a.length < 4611686018427387904) (hb : b.length < 4611686018427387904) : Meets Tryz.prog 39 [lstV 5 Change.enc default a, lstV 5 Change.enc default b] (.bool (sameL a b)) [] := by
  refine meets_x (fn := Tryz.f39) Tryz.func39 rfl fb39 (by kernel_rfl) (Nat.le_of_ble_eq_true rfl) ?_
  refine cx_sr ?_
  simp only [go_sem]
  repeat first | (with_reducible refine side_d ?_ ?_; exact byD) | (with_reducible refine side_q ?_ ?_; exact byQ)
  refine cx_seq ?_
  refine cx_sr ?_
  simp only [go_sem]
  intro t10 e10
  subst e10
  refine cx_if _ rfl (fun h10 => ?_) (fun h10 => ?_)
  ·
   (try simp only [go_sem] at h10)
   refine cx_sr ?_
   simp only [go_sem]
   refine cx_ret ?_
   simp only [go_sem]
   refine finw_bool ?_
   have : a ≠ b := fun e => by subst e; exact h10 rfl
   simp [sameL, this]
  ·
   (try simp only [go_sem] at h10)
   refine cx_skip ?_
   (try simp only [go_sem])
   refine cx_seq ?_
   refine cx_sr ?_
   simp only [go_sem]
   refine cx_block ?_
   refine cx_loop0 (σ := Nat) (fun i => i ≤ a.length ∧ ∀ j, j < i → a.getD j default = b.getD j default) (fun i => [⟨5, 0, [], .int .i64 (i : Nat)⟩]) [0, 1] (fun i => a.length - i) 0 ⟨Nat.zero_le _, fun j hj => absurd hj (Nat.not_lt_zero j)⟩ (Nat.zero_le _) byC (fun i hI1 => ?_)
   simp only [go_sem]
   refine cx_seq ?_
   refine cx_sr ?_
   simp only [go_sem]
   repeat first | (with_reducible refine side_d ?_ ?_; exact byD) | (with_reducible refine side_q ?_ ?_; exact byQ)
   intro t14 e14
   subst e14
   refine cx_if _ rfl (fun h14 => ?_) (fun h14 => ?_)
   ·
    (try simp only [go_sem] at h14)
    refine cx_skip ?_
    (try simp only [go_sem])
    refine cx_seq (cx_block ?_)
    refine cx_seq (cx_draw mixed [] (.first 0 (.first 1 (.first 2 (.first 3 (.first 4 (.first 5 (.first 6 (.first 7 (.first 8 (.done)))))))))) (by kernel_rfl) ?_)
    simp only [go_sem]
    repeat first | (with_reducible refine side_d ?_ ?_; exact byD) | (with_reducible refine side_q ?_ ?_; exact byQ)
    intro t25 e25
    subst e25
    refine cx_if _ rfl (fun h25 => ?_) (fun h25 => ?_)
    ·
     (try simp only [go_sem] at h25)
     refine cx_sr ?_
     simp only [go_sem]
     refine cx_ret ?_
     simp only [go_sem]
     refine finw_bool ?_
     have : a ≠ b := fun e => by
       subst e
       grind
     simp [sameL, this]
    ·
     (try simp only [go_sem] at h25)
     refine cx_skip ?_
     (try simp only [go_sem])
     refine cx_region ?_
     simp only [go_sem]
     intro t16 e16
     (try replace e16 := w64 e16 (by omega) (by omega))
     have hk : a.getD i default = b.getD i default := by
       exact Change.of_eq h25
     refine rnd_next (i + 1) ⟨by omega, all_next hI1.2 hk⟩ (by first | omega | (dsimp only; omega)) byC
   ·
    (try simp only [go_sem] at h14)
    refine cx_exit ?_
    simp only [go_sem]
    refine cx_sr ?_
    simp only [go_sem]
    refine cx_ret ?_
    simp only [go_sem]
    refine finw_bool ?_
    have : a = b := list_eq_of (d := default) (by omega) (fun j hj => hI1.2 j (by omega))
    simp [sameL, this]
end Go.VM.Tryz
end
