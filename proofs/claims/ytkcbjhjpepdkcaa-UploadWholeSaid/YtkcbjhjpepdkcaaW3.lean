import Derived.Test.YtkcbjhjpepdkcaaW2
section
set_option linter.unusedVariables false
set_option linter.unusedSimpArgs false
open Go Go.VM Go.Proofs Tether
namespace Go.VM.Try
set_option maxRecDepth 100000
set_option maxHeartbeats 4000000
theorem RSame_c (a b : Uploads) (ha : a.ss.length < 4611686018427387904) (hb : b.ss.length < 4611686018427387904) : Meets Try.prog 17 [a.enc, b.enc] (.bool (sameU a b)) [] := by
  refine meets_x (fn := Try.f17) Try.func17 rfl fb17 (by kernel_rfl) (Nat.le_of_ble_eq_true rfl) ?_
  refine cx_sr ?_
  simp only [go_sem]
  repeat first | (with_reducible refine side_d ?_ ?_; exact byD) | (with_reducible refine side_q ?_ ?_; exact byQ)
  refine cx_seq ?_
  refine cx_sr ?_
  simp only [go_sem]
  repeat first | (with_reducible refine side_d ?_ ?_; exact byD) | (with_reducible refine side_q ?_ ?_; exact byQ)
  intro t10 e10
  repeat first | (with_reducible refine side_d ?_ ?_; exact byD) | (with_reducible refine side_q ?_ ?_; exact byQ)
  intro t16 e16
  repeat first | (with_reducible refine side_d ?_ ?_; exact byD) | (with_reducible refine side_q ?_ ?_; exact byQ)
  intro t17 e17
  rw [bsel_or] at e17
  repeat first | (with_reducible refine side_d ?_ ?_; exact byD) | (with_reducible refine side_q ?_ ?_; exact byQ)
  intro t23 e23
  repeat first | (with_reducible refine side_d ?_ ?_; exact byD) | (with_reducible refine side_q ?_ ?_; exact byQ)
  intro t24 e24
  rw [bsel_or] at e24
  repeat first | (with_reducible refine side_d ?_ ?_; exact byD) | (with_reducible refine side_q ?_ ?_; exact byQ)
  intro t32 e32
  repeat first | (with_reducible refine side_d ?_ ?_; exact byD) | (with_reducible refine side_q ?_ ?_; exact byQ)
  intro t33 e33
  rw [bsel_or] at e33
  repeat first | (with_reducible refine side_d ?_ ?_; exact byD) | (with_reducible refine side_q ?_ ?_; exact byQ)
  subst e10 e16 e17 e23 e24 e32 e33
  refine cx_if _ rfl (fun h33 => ?_) (fun h33 => ?_)
  ·
    (try simp only [go_sem] at h33)
    refine cx_sr ?_
    simp only [go_sem]
    repeat first | (with_reducible refine side_d ?_ ?_; exact byD) | (with_reducible refine side_q ?_ ?_; exact byQ)
    refine cx_ret ?_
    simp only [go_sem]
    refine finw_bool ?_
    simp only [sameU]
    rcases h33 with ((h | h) | h) | h <;> simp [h]
  ·
    (try simp only [go_sem] at h33)
    refine cx_skip ?_
    (try simp only [go_sem])
    refine cx_seq ?_
    refine cx_sr ?_
    simp only [go_sem]
    repeat first | (with_reducible refine side_d ?_ ?_; exact byD) | (with_reducible refine side_q ?_ ?_; exact byQ)
    refine cx_block ?_
    refine cx_loop0 (σ := Nat) (fun i => i ≤ a.ss.length ∧ ∀ j, j < i → sameS (a.ss.getD j default) (b.ss.getD j default) = true) (fun i => [⟨5, 0, [], .int .i64 (i : Nat)⟩]) [2, 3] (fun i => a.ss.length - i) 0 ⟨Nat.zero_le _, fun j hj => absurd hj (Nat.not_lt_zero j)⟩ (Nat.zero_le _) byC (fun i hI1 => ?_)
    simp only [go_sem]
    refine cx_seq ?_
    refine cx_sr ?_
    simp only [go_sem]
    repeat first | (with_reducible refine side_d ?_ ?_; exact byD) | (with_reducible refine side_q ?_ ?_; exact byQ)
    intro t38 e38
    repeat first | (with_reducible refine side_d ?_ ?_; exact byD) | (with_reducible refine side_q ?_ ?_; exact byQ)
    subst e38
    refine cx_if _ rfl (fun h38 => ?_) (fun h38 => ?_)
    ·
      (try simp only [go_sem] at h38)
      refine cx_skip ?_
      (try simp only [go_sem])
      refine cx_seq (cx_block ?_)
      refine cx_seq (cx_draw mixed [] (.first 0 (.first 1 (.first 2 (.first 3 (.first 4 (.first 5 (.first 6 (.first 7 (.first 8 (.first 9 (.first 10 (.done)))))))))))) (by kernel_rfl) ?_)
      simp only [go_sem]
      repeat first | (with_reducible refine side_d ?_ ?_; exact byD) | (with_reducible refine side_q ?_ ?_; exact byQ)
      intro t51 e51
      repeat first | (with_reducible refine side_d ?_ ?_; exact byD) | (with_reducible refine side_q ?_ ?_; exact byQ)
      subst e51
      refine cx_if _ rfl (fun h51 => ?_) (fun h51 => ?_)
      ·
        (try simp only [go_sem] at h51)
        refine cx_sr ?_
        simp only [go_sem]
        repeat first | (with_reducible refine side_d ?_ ?_; exact byD) | (with_reducible refine side_q ?_ ?_; exact byQ)
        refine cx_ret ?_
        simp only [go_sem]
        refine finw_bool ?_
        have hk : sameS (a.ss.getD i default) (b.ss.getD i default) = false := by
          rw [← Bool.not_eq_true]; intro h; simp only [sameS, Bool.and_eq_true, decide_eq_true_eq] at h
          rcases h51 with h1 | h1 | h1 | h1 | h1
          · exact h1 h.1
          · exact h1 h.2.1
          · exact h1 h.2.2.1
          · exact h1 h.2.2.2.1
          · exact h1 h.2.2.2.2
        rw [sameU, range_all_false (i := i) (by omega) hk, Bool.and_false]
      ·
        (try simp only [go_sem] at h51)
        refine cx_skip ?_
        (try simp only [go_sem])
        refine cx_region ?_
        simp only [go_sem]
        repeat first | (with_reducible refine side_d ?_ ?_; exact byD) | (with_reducible refine side_q ?_ ?_; exact byQ)
        intro t40 e40
        (try replace e40 := w64 e40 (by omega) (by omega))
        repeat first | (with_reducible refine side_d ?_ ?_; exact byD) | (with_reducible refine side_q ?_ ?_; exact byQ)
        have hk : sameS (a.ss.getD i default) (b.ss.getD i default) = true := by
          simp only [sameS, Bool.and_eq_true, decide_eq_true_eq]; exact h51
        refine rnd_next (i + 1) ⟨by omega, all_next hI1.2 hk⟩ (by first | omega | (dsimp only; omega)) byC
    ·
      (try simp only [go_sem] at h38)
      refine cx_exit ?_
      simp only [go_sem]
      refine cx_sr ?_
      simp only [go_sem]
      repeat first | (with_reducible refine side_d ?_ ?_; exact byD) | (with_reducible refine side_q ?_ ?_; exact byQ)
      refine cx_ret ?_
      simp only [go_sem]
      refine finw_bool ?_
      rw [sameU, range_all_true (fun j hj => hI1.2 j (by omega)), h33.1.1.1, h33.1.1.2, h33.1.2, h33.2]
      simp
theorem uploadBegun_c : Meets Try.prog 16 [] (.bool true) [] := by
  have o1 : Meets Try.prog 14 [(Uploads.mk [] 1 5 10).enc, .str [97], .int .i64 2, .int .i64 0] (.tup [(Uploads.mk [⟨1, [97], [], 2, 5⟩] 2 5 10).enc, .int .i64 1, .int .i64 0]) [] := by
    have := Open_c ⟨[], 1, 5, 10⟩ ⟨by decide, by decide⟩ [97] (by decide) 2 0
    rw [show openU ⟨[], 1, 5, 10⟩ [97] 2 0 = (⟨[⟨1, [97], [], 2, 5⟩], 2, 5, 10⟩, 1, 0) by decide +kernel] at this
    exact this
  have o2 : Meets Try.prog 18 [(Uploads.mk [⟨1, [97], [], 2, 5⟩] 2 5 10).enc, .str [97], .int .i64 1, .int .i64 0, .str [120, 121], .int .i64 1] (.tup [(Uploads.mk [⟨1, [97], [120, 121], 2, 6⟩] 2 5 10).enc, .int .i64 2, .int .i64 0]) [] := by
    have := Append_c ⟨[⟨1, [97], [], 2, 5⟩], 2, 5, 10⟩ ⟨by decide, by decide⟩ [97] (by decide) 1 0 [120, 121] (by decide) 1
    rw [show appendU ⟨[⟨1, [97], [], 2, 5⟩], 2, 5, 10⟩ [97] 1 0 [120, 121] 1 = (⟨[⟨1, [97], [120, 121], 2, 6⟩], 2, 5, 10⟩, 2, 0) by decide +kernel] at this
    exact this
  have o3 : Meets Try.prog 26 [(Uploads.mk [⟨1, [97], [120, 121], 2, 6⟩] 2 5 10).enc, .str [97], .int .i64 1, .int .i64 2] (.tup [(Uploads.mk [] 2 5 10).enc, .str [120, 121], .int .i64 0]) [] := by
    have := Finish_c ⟨[⟨1, [97], [120, 121], 2, 6⟩], 2, 5, 10⟩ ⟨by decide, by decide⟩ [97] (by decide) 1 2
    rw [show finishU ⟨[⟨1, [97], [120, 121], 2, 6⟩], 2, 5, 10⟩ [97] 1 2 = (⟨[], 2, 5, 10⟩, [120, 121], 0) by decide +kernel] at this
    exact this
  refine meets_x (fn := Try.f16) Try.func16 rfl fb16 (by kernel_rfl) (Nat.le_of_ble_eq_true rfl) ?_
  refine cx_sr ?_
  simp only [go_sem]
  repeat first | (with_reducible refine side_d ?_ ?_; exact byD) | (with_reducible refine side_q ?_ ?_; exact byQ)
  refine cx_sr ?_
  simp only [go_sem]
  repeat first | (with_reducible refine side_d ?_ ?_; exact byD) | (with_reducible refine side_q ?_ ?_; exact byQ)
  refine cw_m (o1) byW byT ?_
  simp only [go_sem]
  repeat first | (with_reducible refine side_d ?_ ?_; exact byD) | (with_reducible refine side_q ?_ ?_; exact byQ)
  refine cx_sr ?_
  simp only [go_sem]
  repeat first | (with_reducible refine side_d ?_ ?_; exact byD) | (with_reducible refine side_q ?_ ?_; exact byQ)
  refine cw_m (o2) byW byT ?_
  simp only [go_sem]
  repeat first | (with_reducible refine side_d ?_ ?_; exact byD) | (with_reducible refine side_q ?_ ?_; exact byQ)
  refine cx_sr ?_
  simp only [go_sem]
  repeat first | (with_reducible refine side_d ?_ ?_; exact byD) | (with_reducible refine side_q ?_ ?_; exact byQ)
  refine cw_m (o3) byW byT ?_
  simp only [go_sem]
  repeat first | (with_reducible refine side_d ?_ ?_; exact byD) | (with_reducible refine side_q ?_ ?_; exact byQ)
  refine cx_sr ?_
  simp only [go_sem]
  repeat first | (with_reducible refine side_d ?_ ?_; exact byD) | (with_reducible refine side_q ?_ ?_; exact byQ)
  intro t30 e30
  repeat first | (with_reducible refine side_d ?_ ?_; exact byD) | (with_reducible refine side_q ?_ ?_; exact byQ)
  intro t33 e33
  repeat first | (with_reducible refine side_d ?_ ?_; exact byD) | (with_reducible refine side_q ?_ ?_; exact byQ)
  intro t34 e34
  rw [bsel_and] at e34
  repeat first | (with_reducible refine side_d ?_ ?_; exact byD) | (with_reducible refine side_q ?_ ?_; exact byQ)
  intro t37 e37
  repeat first | (with_reducible refine side_d ?_ ?_; exact byD) | (with_reducible refine side_q ?_ ?_; exact byQ)
  intro t38 e38
  rw [bsel_and] at e38
  repeat first | (with_reducible refine side_d ?_ ?_; exact byD) | (with_reducible refine side_q ?_ ?_; exact byQ)
  intro t41 e41
  repeat first | (with_reducible refine side_d ?_ ?_; exact byD) | (with_reducible refine side_q ?_ ?_; exact byQ)
  intro t42 e42
  rw [bsel_and] at e42
  repeat first | (with_reducible refine side_d ?_ ?_; exact byD) | (with_reducible refine side_q ?_ ?_; exact byQ)
  intro t45 e45
  repeat first | (with_reducible refine side_d ?_ ?_; exact byD) | (with_reducible refine side_q ?_ ?_; exact byQ)
  intro t46 e46
  rw [bsel_and] at e46
  repeat first | (with_reducible refine side_d ?_ ?_; exact byD) | (with_reducible refine side_q ?_ ?_; exact byQ)
  intro t49 e49
  repeat first | (with_reducible refine side_d ?_ ?_; exact byD) | (with_reducible refine side_q ?_ ?_; exact byQ)
  intro t50 e50
  rw [bsel_and] at e50
  repeat first | (with_reducible refine side_d ?_ ?_; exact byD) | (with_reducible refine side_q ?_ ?_; exact byQ)
  subst e30 e33 e34 e37 e38 e41 e42 e45 e46 e49 e50
  refine cx_ret ?_
  simp only [go_sem]
  refine finw_bool ?_
  rfl
theorem UploadOpens_c (u : Uploads) (hu : u.ok) (who : Str) (hw : who.length < 4611686018427387904) (size now : Int) : Meets Try.prog 3 [u.enc, .str who, .int .i64 size, .int .i64 now] (.bool true) [] := by
  refine meets_x (fn := Try.f3) Try.func3 rfl fb3 (by kernel_rfl) (Nat.le_of_ble_eq_true rfl) ?_
  refine cx_sr ?_
  simp only [go_sem]
  repeat first | (with_reducible refine side_d ?_ ?_; exact byD) | (with_reducible refine side_q ?_ ?_; exact byQ)
  refine cx_sr ?_
  simp only [go_sem]
  repeat first | (with_reducible refine side_d ?_ ?_; exact byD) | (with_reducible refine side_q ?_ ?_; exact byQ)
  refine cw_m (Open_c u hu who hw size now) byW byT ?_
  simp only [go_sem]
  repeat first | (with_reducible refine side_d ?_ ?_; exact byD) | (with_reducible refine side_q ?_ ?_; exact byQ)
  refine cx_sr ?_
  simp only [go_sem]
  repeat first | (with_reducible refine side_d ?_ ?_; exact byD) | (with_reducible refine side_q ?_ ?_; exact byQ)
  refine cw_m (ROpen_c u hu who hw size now) byW byT ?_
  simp only [go_sem]
  repeat first | (with_reducible refine side_d ?_ ?_; exact byD) | (with_reducible refine side_q ?_ ?_; exact byQ)
  refine cx_sr ?_
  simp only [go_sem]
  repeat first | (with_reducible refine side_d ?_ ?_; exact byD) | (with_reducible refine side_q ?_ ?_; exact byQ)
  refine cw_m (uploadBegun_c) byW byT ?_
  simp only [go_sem]
  repeat first | (with_reducible refine side_d ?_ ?_; exact byD) | (with_reducible refine side_q ?_ ?_; exact byQ)
  intro t37 e37
  repeat first | (with_reducible refine side_d ?_ ?_; exact byD) | (with_reducible refine side_q ?_ ?_; exact byQ)
  intro t38 e38
  rw [bsel_and] at e38
  repeat first | (with_reducible refine side_d ?_ ?_; exact byD) | (with_reducible refine side_q ?_ ?_; exact byQ)
  intro t42 e42
  repeat first | (with_reducible refine side_d ?_ ?_; exact byD) | (with_reducible refine side_q ?_ ?_; exact byQ)
  intro t43 e43
  rw [bsel_and] at e43
  repeat first | (with_reducible refine side_d ?_ ?_; exact byD) | (with_reducible refine side_q ?_ ?_; exact byQ)
  refine ⟨_, fun hp => cw_m (RSame_c (openU u who size now).1 (openU u who size now).1 (openU_len hu who size now) (openU_len hu who size now)) byW byT ⟨rfl, rfl⟩, ?_⟩
  simp only [go_sem]
  repeat first | (with_reducible refine side_d ?_ ?_; exact byD) | (with_reducible refine side_q ?_ ?_; exact byQ)
  intro t48 e48
  rw [bsel_and] at e48
  repeat first | (with_reducible refine side_d ?_ ?_; exact byD) | (with_reducible refine side_q ?_ ?_; exact byQ)
  subst e37 e38 e42 e43 e48
  refine cx_ret ?_
  simp only [go_sem]
  refine finw_bool ?_
  simp [sameU_self]
end Go.VM.Try
end
section
set_option linter.unusedVariables false
set_option linter.unusedSimpArgs false
open Go Go.VM Go.Proofs Tether
namespace Go.VM.Try
set_option maxRecDepth 100000
set_option maxHeartbeats 4000000
section
variable {α : Type} {enc : α → List V} {d : α} {l : List α}
theorem join_cut {i j q : Nat} (hi : i ≤ l.length) (hj : j ≤ l.length) (hq : q < (l.take i ++ l.drop j).length) : join i (En enc d l) (En enc d (l.drop j)) q = En enc d (l.take i ++ l.drop j) q := by
  simp only [List.length_append, List.length_take, List.length_drop] at hq
  simp only [join, En]
  cases hb : Nat.blt q i with
  | true =>
    have h : q < i := Nat.lt_of_lt_of_le (by simpa using hb) (Nat.le_refl _)
    simp only [cond, List.getD_eq_getElem?_getD]
    rw [List.getElem?_append_left (by simp; omega), List.getElem?_take_of_lt h]
  | false =>
    have h : i ≤ q := blt_false hb
    simp only [cond, List.getD_eq_getElem?_getD]
    rw [List.getElem?_append_right (by simp; omega)]
    simp only [List.length_take, Nat.min_eq_left hi]
theorem wks_mp_cut (h : ∀ x, ltrs 0 (enc x) = true) {g : Nat → Option Nat} {i j q : Nat} (hi : i ≤ l.length) (hj : j ≤ l.length) (hq : q < (l.take i ++ l.drop j).length) : wks (mpF (rnVs g) (join i (En enc d l) (En enc d (l.drop j))) q) (En enc d (l.take i ++ l.drop j) q) := by
  simp only [mpF, join_cut hi hj hq]
  simp only [En]
  rw [rnVs_no _ (h _)]
  exact wks_refl _
end
theorem sess_len {u : Uploads} {s : Session} (h : sessErr u s = 0) : (s.text.length : Int) ≤ s.size := by
  unfold sessErr at h
  split at h
  · simp at h
  split at h
  · simp at h
  split at h
  · simp at h
  · omega
theorem RAppend_c (u : Uploads) (hu : u.ok) (who : Str) (hw : who.length < 4611686018427387904) (number offset : Int) (text : Str) (ht : text.length < 4611686018427387904) (now : Int) :
    Meets Try.prog 19 [u.enc, .str who, .int .i64 number, .int .i64 offset, .str text, .int .i64 now] (.tup [(appendU u who number offset text now).1.enc, .int .i64 (appendU u who number offset text now).2.1, .int .i64 (appendU u who number offset text now).2.2]) [] := by
  refine meets_x (fn := Try.f19) Try.func19 rfl fb19 (by kernel_rfl) (Nat.le_of_ble_eq_true rfl) ?_
  refine cx_sr ?_
  simp only [go_sem]
  repeat first | (with_reducible refine side_d ?_ ?_; exact byD) | (with_reducible refine side_q ?_ ?_; exact byQ)
  refine cx_sr ?_
  simp only [go_sem]
  repeat first | (with_reducible refine side_d ?_ ?_; exact byD) | (with_reducible refine side_q ?_ ?_; exact byQ)
  by_cases hs25 : mineErr u who number now = 0
  ·
    repeat first | (with_reducible refine side_d ?_ ?_; exact byD) | (with_reducible refine side_q ?_ ?_; exact byQ)
    obtain ⟨hi1, hi2⟩ := mineIx_of hs25
    obtain ⟨hb, hn, -⟩ := mineErr_facts hs25
    obtain ⟨hc, hn1, hn2⟩ := begin_facts hb
    obtain ⟨⟨hl1, hl2⟩, -, -, h20, hse⟩ := checkU_ok hc
    have htx := (hu.2 _ (mine_mem hs25)).2
    have hsl : (swept u now).ss.length * 56 ≤ 140737488355328 := by
      have := hu.1
      have h2 : (swept u now).ss.length ≤ u.ss.length := List.length_filter_le _ _
      omega
    refine cw_m (RMine_ok u hu who hw number now hs25) byW byT ?_
    simp only [go_sem]
    repeat first | (with_reducible refine side_d ?_ ?_; exact byD) | (with_reducible refine side_q ?_ ?_; exact byQ)
    refine cx_seq ?_
    refine cx_sr ?_
    simp only [go_sem]
    repeat first | (with_reducible refine side_d ?_ ?_; exact byD) | (with_reducible refine side_q ?_ ?_; exact byQ)
    intro t30 e30
    repeat first | (with_reducible refine side_d ?_ ?_; exact byD) | (with_reducible refine side_q ?_ ?_; exact byQ)
    subst e30
    refine cx_if _ rfl (fun h30 => no_if h30) (fun h30 => ?_)
    refine cx_skip ?_
    (try simp only [go_sem])
    refine cx_sr ?_
    simp only [go_sem]
    repeat first | (with_reducible refine side_d ?_ ?_; exact byD) | (with_reducible refine side_q ?_ ?_; exact byQ)
    refine cx_sr ?_
    simp only [go_sem]
    repeat first | (with_reducible refine side_d ?_ ?_; exact byD) | (with_reducible refine side_q ?_ ?_; exact byQ)
    refine cx_seq ?_
    refine cx_sr ?_
    simp only [go_sem]
    repeat first | (with_reducible refine side_d ?_ ?_; exact byD) | (with_reducible refine side_q ?_ ?_; exact byQ)
    intro t42 e42
    repeat first | (with_reducible refine side_d ?_ ?_; exact byD) | (with_reducible refine side_q ?_ ?_; exact byQ)
    intro t46 e46
    repeat first | (with_reducible refine side_d ?_ ?_; exact byD) | (with_reducible refine side_q ?_ ?_; exact byQ)
    intro t47 e47
    rw [bsel_and] at e47
    repeat ((with_reducible first | refine side_d ?_ ?_ | refine side_q ?_ ?_); focus (first | exact byD | exact byQ | (refine Sd.of fun hp => ?_; simp only [pc, and_true] at hp; rw [e47, e42, e46] at hp; simpa using hp)))
    intro t54 e54
    repeat first | (with_reducible refine side_d ?_ ?_; exact byD) | (with_reducible refine side_q ?_ ?_; exact byQ)
    intro t55 e55
    rw [bsel_and] at e55
    repeat first | (with_reducible refine side_d ?_ ?_; exact byD) | (with_reducible refine side_q ?_ ?_; exact byQ)
    subst e42 e46 e47 e54 e55
    refine cx_if _ rfl (fun h55 => ?_) (fun h55 => ?_)
    ·
      (try simp only [go_sem] at h55)
      have hj : appendU u who number offset text now = (swept u now, (((swept u now).ss.getD (mineIx u who number now).toNat default).text.length : Int), 0) := by
        rw [appendU, if_pos hs25]; exact if_pos (by simpa [and_assoc] using h55)
      refine cx_sr ?_
      simp only [go_sem]
      repeat first | (with_reducible refine side_d ?_ ?_; exact byD) | (with_reducible refine side_q ?_ ?_; exact byQ)
      refine cx_ret ?_
      simp only [go_sem]
      rw [hj]
      exact finx_of 1 [] rfl byC byC byC byC
    ·
      (try simp only [go_sem] at h55)
      have hn55 : ¬ ((0 ≤ offset ∧ offset ≤ (((swept u now).ss.getD (mineIx u who number now).toNat default).text.length : Int)) ∧ ((swept u now).ss.getD (mineIx u who number now).toNat default).text.drop offset.toNat = text) := by
        rintro ⟨⟨k1, k2⟩, k3⟩
        rcases h55 with (h | h) | h
        · omega
        · omega
        · exact h k3
      refine cx_skip ?_
      (try simp only [go_sem])
      refine cx_seq ?_
      refine cx_sr ?_
      simp only [go_sem]
      repeat first | (with_reducible refine side_d ?_ ?_; exact byD) | (with_reducible refine side_q ?_ ?_; exact byQ)
      intro t60 e60
      repeat first | (with_reducible refine side_d ?_ ?_; exact byD) | (with_reducible refine side_q ?_ ?_; exact byQ)
      subst e60
      refine cx_if _ rfl (fun h60 => ?_) (fun h60 => ?_)
      ·
        (try simp only [go_sem] at h60)
        have ha : appendU u who number offset text now = (zeroU, 0, 4) := by rw [appendU, if_pos hs25]; exact (if_neg hn55).trans (if_pos h60)
        refine cx_sr ?_
        simp only [go_sem]
        repeat first | (with_reducible refine side_d ?_ ?_; exact byD) | (with_reducible refine side_q ?_ ?_; exact byQ)
        refine cx_ret ?_
        simp only [go_sem]
        rw [ha]
        exact finx_of 1 [] rfl byC byC byC byC
      ·
        (try simp only [go_sem] at h60)
        refine cx_skip ?_
        (try simp only [go_sem])
        refine cx_seq ?_
        refine cx_sr ?_
        simp only [go_sem]
        repeat first | (with_reducible refine side_d ?_ ?_; exact byD) | (with_reducible refine side_q ?_ ?_; exact byQ)
        intro t65 e65
        (try replace e65 := w64 e65 (by omega) (by omega))
        repeat first | (with_reducible refine side_d ?_ ?_; exact byD) | (with_reducible refine side_q ?_ ?_; exact byQ)
        intro t68 e68
        repeat first | (with_reducible refine side_d ?_ ?_; exact byD) | (with_reducible refine side_q ?_ ?_; exact byQ)
        subst e68
        refine cx_if _ rfl (fun h68 => ?_) (fun h68 => ?_)
        ·
          (try simp only [go_sem] at h68)
          have ha : appendU u who number offset text now = (zeroU, 0, 2) := by rw [appendU, if_pos hs25]; exact (if_neg hn55).trans ((if_neg (by simpa using h60)).trans (if_pos (by rw [← e65]; exact h68)))
          refine cx_sr ?_
          simp only [go_sem]
          repeat first | (with_reducible refine side_d ?_ ?_; exact byD) | (with_reducible refine side_q ?_ ?_; exact byQ)
          refine cx_ret ?_
          simp only [go_sem]
          rw [ha]
          exact finx_of 1 [] rfl byC byC byC byC
        ·
          (try simp only [go_sem] at h68)
          have hj : appendU u who number offset text now = ({ swept u now with ss := (swept u now).ss.set (mineIx u who number now).toNat { ((swept u now).ss.getD (mineIx u who number now).toNat default) with text := ((swept u now).ss.getD (mineIx u who number now).toNat default).text ++ text, till := now + u.lasts } }, ((((swept u now).ss.getD (mineIx u who number now).toNat default).text ++ text).length : Int), 0) := by
            rw [appendU, if_pos hs25]; exact (if_neg hn55).trans ((if_neg (by simpa using h60)).trans (if_neg (by rw [← e65]; exact h68)))
          refine cx_skip ?_
          (try simp only [go_sem])
          refine cx_sr ?_
          simp only [go_sem]
          repeat first | (with_reducible refine side_d ?_ ?_; exact byD) | (with_reducible refine side_q ?_ ?_; exact byQ)
          refine cx_sr ?_
          simp only [go_sem]
          repeat first | (with_reducible refine side_d ?_ ?_; exact byD) | (with_reducible refine side_q ?_ ?_; exact byQ)
          intro t78 e78
          (try replace e78 := w64 e78 (by omega) (by omega))
          repeat first | (with_reducible refine side_d ?_ ?_; exact byD) | (with_reducible refine side_q ?_ ?_; exact byQ)
          subst e78
          refine cx_sr ?_
          simp only [go_sem]
          repeat first | (with_reducible refine side_d ?_ ?_; exact byD) | (with_reducible refine side_q ?_ ?_; exact byQ)
          refine cx_sr ?_
          simp only [go_sem]
          repeat first | (with_reducible refine side_d ?_ ?_; exact byD) | (with_reducible refine side_q ?_ ?_; exact byQ)
          refine cx_sr ?_
          simp only [go_sem]
          repeat first | (with_reducible refine side_d ?_ ?_; exact byD) | (with_reducible refine side_q ?_ ?_; exact byQ)
          refine cx_joinw ([⟨12, 0, [], .ptr 1 0⟩, ⟨13, 0, [], .int .i64 (appendU u who number offset text now).2.1⟩, ⟨14, 0, [], .int .i64 0⟩]) ([.dead, .box [.own none 4 5 0 (appendU u who number offset text now).1.ss.length .loose, .int .i64 u.next, .int .i64 u.lasts, .int .i64 u.room], .dead, .dead, .arr 5 (appendU u who number offset text now).1.ss.length (En Session.enc default (appendU u who number offset text now).1.ss)]) (cx_draw mixed [0, 1, 2, 3, 4] (.alt 0 (.alt 1 (.alt 2 (.alt 3 (.one 4 (.first 5 (.first 6 (.done)))) (.one 4 (.one 3 (.first 5 (.first 6 (.done)))))) (.one 4 (.one 2 (.one 3 (.first 5 (.first 6 (.done))))))) (.one 4 (.one 1 (.one 2 (.one 3 (.first 5 (.first 6 (.done)))))))) (.one 1 (.alt 0 (.alt 2 (.alt 3 (.one 4 (.first 5 (.first 6 (.done)))) (.one 4 (.one 3 (.first 5 (.first 6 (.done)))))) (.one 4 (.one 2 (.one 3 (.first 5 (.first 6 (.done))))))) (.one 2 (.alt 0 (.alt 3 (.one 4 (.first 5 (.first 6 (.done)))) (.one 4 (.one 3 (.first 5 (.first 6 (.done)))))) (.one 3 (.one 0 (.one 4 (.first 5 (.first 6 (.done))))))))))) (by kernel_rfl) ?_) ?_
          · ((try simp only [hj]); simp only [go_sem, wk, wks, wkB, wkH, subw, subEw, hprew, ltb, subr, subEr, wkE]; repeat' (first | apply And.intro)) <;> first | (refine Sd.mk ?_; omega) | (refine Sq.mk ?_; omega) | first | trivial | rfl | omega | assumption | exact Nat.le_refl _ | exact wks_refl _ | exact wk_refl _ | (intros; exact wks_refl _) | (simp; done) | (simp; omega) | (intro q hq; exact wks_stF (by omega) (wks_refl _) q) | (intro q hq; exact wks_stF2 (by omega) (wks_refl _) q)
          refine cx_ret ?_
          simp only [go_sem]
          rw [hj]
          exact finx_of 1 [] rfl byC byC byC byC
  ·
    repeat first | (with_reducible refine side_d ?_ ?_; exact byD) | (with_reducible refine side_q ?_ ?_; exact byQ)
    refine cw_m (RMine_err u hu who hw number now hs25) byW byT ?_
    simp only [go_sem]
    repeat first | (with_reducible refine side_d ?_ ?_; exact byD) | (with_reducible refine side_q ?_ ?_; exact byQ)
    refine cx_seq ?_
    refine cx_sr ?_
    simp only [go_sem]
    repeat first | (with_reducible refine side_d ?_ ?_; exact byD) | (with_reducible refine side_q ?_ ?_; exact byQ)
    intro t30 e30
    repeat first | (with_reducible refine side_d ?_ ?_; exact byD) | (with_reducible refine side_q ?_ ?_; exact byQ)
    subst e30
    refine cx_if _ rfl (fun h30 => ?_) (fun h30 => no_if h30)
    refine cx_sr ?_
    simp only [go_sem]
    repeat first | (with_reducible refine side_d ?_ ?_; exact byD) | (with_reducible refine side_q ?_ ?_; exact byQ)
    refine cx_ret ?_
    simp only [go_sem]
    rw [appendU, if_neg hs25]
    exact finx_of 1 [] rfl byC byC byC byC
theorem RFinish_c (u : Uploads) (hu : u.ok) (who : Str) (hw : who.length < 4611686018427387904) (number now : Int) :
    Meets Try.prog 28 [u.enc, .str who, .int .i64 number, .int .i64 now] (.tup [(finishU u who number now).1.enc, .str (finishU u who number now).2.1, .int .i64 (finishU u who number now).2.2]) [] := by
  refine meets_x (fn := Try.f28) Try.func28 rfl fb28 (by kernel_rfl) (Nat.le_of_ble_eq_true rfl) ?_
  refine cx_sr ?_
  simp only [go_sem]
  repeat first | (with_reducible refine side_d ?_ ?_; exact byD) | (with_reducible refine side_q ?_ ?_; exact byQ)
  refine cx_sr ?_
  simp only [go_sem]
  repeat first | (with_reducible refine side_d ?_ ?_; exact byD) | (with_reducible refine side_q ?_ ?_; exact byQ)
  by_cases hs19 : mineErr u who number now = 0
  ·
    repeat first | (with_reducible refine side_d ?_ ?_; exact byD) | (with_reducible refine side_q ?_ ?_; exact byQ)
    obtain ⟨hi1, hi2⟩ := mineIx_of hs19
    obtain ⟨hb, hn, -⟩ := mineErr_facts hs19
    obtain ⟨hc, hn1, hn2⟩ := begin_facts hb
    obtain ⟨⟨hl1, hl2⟩, -, -, h20, hse⟩ := checkU_ok hc
    have hse1 := sess_len (hse _ (mine_mem hs19))
    have hsl : (swept u now).ss.length * 56 ≤ 140737488355328 := by
      have := hu.1
      have h2 : (swept u now).ss.length ≤ u.ss.length := List.length_filter_le _ _
      omega
    refine cw_m (RMine_ok u hu who hw number now hs19) byW byT ?_
    simp only [go_sem]
    repeat first | (with_reducible refine side_d ?_ ?_; exact byD) | (with_reducible refine side_q ?_ ?_; exact byQ)
    refine cx_seq ?_
    refine cx_sr ?_
    simp only [go_sem]
    repeat first | (with_reducible refine side_d ?_ ?_; exact byD) | (with_reducible refine side_q ?_ ?_; exact byQ)
    intro t24 e24
    repeat first | (with_reducible refine side_d ?_ ?_; exact byD) | (with_reducible refine side_q ?_ ?_; exact byQ)
    subst e24
    refine cx_if _ rfl (fun h24 => no_if h24) (fun h24 => ?_)
    refine cx_skip ?_
    (try simp only [go_sem])
    refine cx_sr ?_
    simp only [go_sem]
    repeat first | (with_reducible refine side_d ?_ ?_; exact byD) | (with_reducible refine side_q ?_ ?_; exact byQ)
    refine cx_seq ?_
    refine cx_sr ?_
    simp only [go_sem]
    repeat first | (with_reducible refine side_d ?_ ?_; exact byD) | (with_reducible refine side_q ?_ ?_; exact byQ)
    intro t37 e37
    repeat first | (with_reducible refine side_d ?_ ?_; exact byD) | (with_reducible refine side_q ?_ ?_; exact byQ)
    subst e37
    refine cx_if _ rfl (fun h37 => ?_) (fun h37 => ?_)
    ·
      (try simp only [go_sem] at h37)
      have ha : finishU u who number now = (zeroU, [], 4) := by rw [finishU, if_pos hs19]; exact if_pos (by omega)
      refine cx_sr ?_
      simp only [go_sem]
      repeat first | (with_reducible refine side_d ?_ ?_; exact byD) | (with_reducible refine side_q ?_ ?_; exact byQ)
      refine cx_ret ?_
      simp only [go_sem]
      rw [ha]
      exact finx_of 1 [] rfl byC byC byC byC
    ·
      (try simp only [go_sem] at h37)
      have hj : finishU u who number now = ({ swept u now with ss := ((swept u now).ss.take (mineIx u who number now).toNat ++ (swept u now).ss.drop ((mineIx u who number now).toNat + 1)) }, ((swept u now).ss.getD (mineIx u who number now).toNat default).text, 0) := by rw [finishU, if_pos hs19]; exact if_neg (by omega)
      refine cx_skip ?_
      (try simp only [go_sem])
      refine cx_joinr ([⟨4, 0, [], .ptr 0 0⟩, ⟨8, 0, [], .ptr 1 0⟩, ⟨13, 0, [], .ptr 2 0⟩]) ([.box [.own none 3 5 0 ((swept u now).ss.take (mineIx u who number now).toNat ++ (swept u now).ss.drop ((mineIx u who number now).toNat + 1)).length .loose, .int .i64 u.next, .int .i64 u.lasts, .int .i64 u.room], .box [.bad, .bad, .bad, .bad], .box (Session.enc ((swept u now).ss.getD (mineIx u who number now).toNat default)), .arr 5 ((swept u now).ss.take (mineIx u who number now).toNat ++ (swept u now).ss.drop ((mineIx u who number now).toNat + 1)).length (En Session.enc default ((swept u now).ss.take (mineIx u who number now).toNat ++ (swept u now).ss.drop ((mineIx u who number now).toNat + 1)))]) (cx_draw mixed [11, 13] (.first 1 (.first 2 (.first 3 (.first 4 (.first 6 (.first 7 (.first 8 (.first 9 (.first 10 (.one 0 (.one 5 (.one 11 (.first 12 (.one 13 (.done))))))))))))))) (by kernel_rfl) ?_) ?_
      · ((try simp only [hj]); simp only [go_sem]; repeat' (first | apply And.intro | (intro x e; (try replace e := w64 e (by omega) (by omega))))) <;> first | (refine Sd.mk ?_; omega) | (refine Sq.mk ?_; omega) | (refine Sq.mk ?_; and_intros <;> first | trivial | rfl | omega | assumption | exact Nat.le_refl _ | exact wks_refl _ | exact wk_refl _ | (intros; exact wks_refl _) | (intro q hq; (try simp only [List.drop_zero]); (have hx : x.toNat = (mineIx u who number now).toNat + 1 := by omega); rw [hx]; exact wks_mp_cut (fun _ => rfl) (by omega) (by omega) hq) | (simp; done) | (simp; omega)) | (refine ⟨[0, 1, 2, 5], rfl, rfl, ?_, ?_⟩ <;> (first | trivial | (simp only [go_sem, wk, wks, wkB, wkH, subw, subEw, hprew, ltb, subr, subEr]; done) | (simp only [go_sem, wk, wks, wkB, wkH, subw, subEw, hprew, ltb, subr, subEr]; and_intros <;> first | trivial | rfl | omega | assumption | exact Nat.le_refl _ | exact wks_refl _ | exact wk_refl _ | (intros; exact wks_refl _) | (subst_vars; intro q hq; refine wks_mp_snoc (fun x => ?_) ?_ ?_; exact rnVs_no _ rfl; rfl; simp at hq; omega) | (intro q hq; (try simp only [List.drop_zero]); (have hx : x.toNat = (mineIx u who number now).toNat + 1 := by omega); rw [hx]; exact wks_mp_cut (fun _ => rfl) (by omega) (by omega) hq) | (simp; done) | (simp; omega))))
      refine cx_joinr ([⟨8, 0, [], .ptr 0 0⟩, ⟨9, 0, [], .str ((swept u now).ss.getD (mineIx u who number now).toNat default).text⟩, ⟨10, 0, [], .int .i64 0⟩]) ([.box [.own none 1 5 0 ((swept u now).ss.take (mineIx u who number now).toNat ++ (swept u now).ss.drop ((mineIx u who number now).toNat + 1)).length .loose, .int .i64 u.next, .int .i64 u.lasts, .int .i64 u.room], .arr 5 ((swept u now).ss.take (mineIx u who number now).toNat ++ (swept u now).ss.drop ((mineIx u who number now).toNat + 1)).length (En Session.enc default ((swept u now).ss.take (mineIx u who number now).toNat ++ (swept u now).ss.drop ((mineIx u who number now).toNat + 1)))]) (cx_draw mixed [0, 1, 2, 3] (.alt 0 (.alt 1 (.alt 2 (.one 3 (.first 4 (.first 5 (.done)))) (.one 3 (.one 2 (.first 4 (.first 5 (.done)))))) (.one 3 (.one 1 (.one 2 (.first 4 (.first 5 (.done))))))) (.one 1 (.alt 0 (.alt 2 (.one 3 (.first 4 (.first 5 (.done)))) (.one 3 (.one 2 (.first 4 (.first 5 (.done)))))) (.one 2 (.one 0 (.one 3 (.first 4 (.first 5 (.done))))))))) (by kernel_rfl) ?_) ?_
      · ((try simp only [hj]); simp only [go_sem]; repeat' (first | apply And.intro | (intro x e; (try replace e := w64 e (by omega) (by omega))))) <;> first | (refine Sd.mk ?_; omega) | (refine Sq.mk ?_; omega) | (refine Sq.mk ?_; and_intros <;> first | trivial | rfl | omega | assumption | exact Nat.le_refl _ | exact wks_refl _ | exact wk_refl _ | (intros; exact wks_refl _) | (simp; done) | (simp; omega)) | (refine ⟨[1, 3], rfl, rfl, ?_, ?_⟩ <;> (first | trivial | (simp only [go_sem, wk, wks, wkB, wkH, subw, subEw, hprew, ltb, subr, subEr]; done) | (simp only [go_sem, wk, wks, wkB, wkH, subw, subEw, hprew, ltb, subr, subEr]; and_intros <;> first | trivial | rfl | omega | assumption | exact Nat.le_refl _ | exact wks_refl _ | exact wk_refl _ | (intros; exact wks_refl _) | (subst_vars; intro q hq; refine wks_mp_snoc (fun x => ?_) ?_ ?_; exact rnVs_no _ rfl; rfl; simp at hq; omega) | (simp; done) | (simp; omega))))
      refine cx_ret ?_
      simp only [go_sem]
      rw [hj]
      exact finx_of 1 [] rfl byC byC byC byC
  ·
    repeat first | (with_reducible refine side_d ?_ ?_; exact byD) | (with_reducible refine side_q ?_ ?_; exact byQ)
    refine cw_m (RMine_err u hu who hw number now hs19) byW byT ?_
    simp only [go_sem]
    repeat first | (with_reducible refine side_d ?_ ?_; exact byD) | (with_reducible refine side_q ?_ ?_; exact byQ)
    refine cx_seq ?_
    refine cx_sr ?_
    simp only [go_sem]
    repeat first | (with_reducible refine side_d ?_ ?_; exact byD) | (with_reducible refine side_q ?_ ?_; exact byQ)
    intro t24 e24
    repeat first | (with_reducible refine side_d ?_ ?_; exact byD) | (with_reducible refine side_q ?_ ?_; exact byQ)
    subst e24
    refine cx_if _ rfl (fun h24 => ?_) (fun h24 => no_if h24)
    refine cx_sr ?_
    simp only [go_sem]
    repeat first | (with_reducible refine side_d ?_ ?_; exact byD) | (with_reducible refine side_q ?_ ?_; exact byQ)
    refine cx_ret ?_
    simp only [go_sem]
    rw [finishU, if_neg hs19]
    exact finx_of 1 [] rfl byC byC byC byC
end Go.VM.Try
end
section
set_option linter.unusedVariables false
set_option linter.unusedSimpArgs false
open Go Go.VM Go.Proofs Tether
namespace Go.VM.Try
set_option maxRecDepth 100000
set_option maxHeartbeats 4000000
theorem appendU_len {u : Uploads} (hu : u.ok) (who : Str) (number offset : Int) (text : Str) (now : Int) : (appendU u who number offset text now).1.ss.length < 4611686018427387904 := by
  have h1 := hu.1
  have h2 : (swept u now).ss.length ≤ u.ss.length := List.length_filter_le _ _
  unfold appendU
  split
  · simp only
    split
    · simp only; omega
    split
    · simp [zeroU]
    split
    · simp [zeroU]
    · simp only [List.length_set]; omega
  · simp [zeroU]
theorem finishU_len {u : Uploads} (hu : u.ok) (who : Str) (number now : Int) : (finishU u who number now).1.ss.length < 4611686018427387904 := by
  have h1 := hu.1
  have h2 : (swept u now).ss.length ≤ u.ss.length := List.length_filter_le _ _
  unfold finishU
  split
  · simp only
    split
    · simp [zeroU]
    · simp only [List.length_append, List.length_take, List.length_drop]; omega
  · simp [zeroU]
theorem UploadAppends_c (u : Uploads) (hu : u.ok) (who : Str) (hw : who.length < 4611686018427387904) (number offset : Int) (text : Str) (ht : text.length < 4611686018427387904) (now : Int) :
    Meets Try.prog 4 [u.enc, .str who, .int .i64 number, .int .i64 offset, .str text, .int .i64 now] (.bool true) [] := by
  refine meets_x (fn := Try.f4) Try.func4 rfl fb4 (by kernel_rfl) (Nat.le_of_ble_eq_true rfl) ?_
  refine cx_sr ?_
  simp only [go_sem]
  repeat first | (with_reducible refine side_d ?_ ?_; exact byD) | (with_reducible refine side_q ?_ ?_; exact byQ)
  refine cx_sr ?_
  simp only [go_sem]
  repeat first | (with_reducible refine side_d ?_ ?_; exact byD) | (with_reducible refine side_q ?_ ?_; exact byQ)
  refine cw_m (Append_c u hu who hw number offset text ht now) byW byT ?_
  simp only [go_sem]
  repeat first | (with_reducible refine side_d ?_ ?_; exact byD) | (with_reducible refine side_q ?_ ?_; exact byQ)
  refine cx_sr ?_
  simp only [go_sem]
  repeat first | (with_reducible refine side_d ?_ ?_; exact byD) | (with_reducible refine side_q ?_ ?_; exact byQ)
  refine cw_m (RAppend_c u hu who hw number offset text ht now) byW byT ?_
  simp only [go_sem]
  repeat first | (with_reducible refine side_d ?_ ?_; exact byD) | (with_reducible refine side_q ?_ ?_; exact byQ)
  refine cx_sr ?_
  simp only [go_sem]
  repeat first | (with_reducible refine side_d ?_ ?_; exact byD) | (with_reducible refine side_q ?_ ?_; exact byQ)
  refine cw_m (uploadBegun_c) byW byT ?_
  simp only [go_sem]
  repeat first | (with_reducible refine side_d ?_ ?_; exact byD) | (with_reducible refine side_q ?_ ?_; exact byQ)
  intro t45 e45
  repeat first | (with_reducible refine side_d ?_ ?_; exact byD) | (with_reducible refine side_q ?_ ?_; exact byQ)
  intro t46 e46
  rw [bsel_and] at e46
  repeat first | (with_reducible refine side_d ?_ ?_; exact byD) | (with_reducible refine side_q ?_ ?_; exact byQ)
  intro t50 e50
  repeat first | (with_reducible refine side_d ?_ ?_; exact byD) | (with_reducible refine side_q ?_ ?_; exact byQ)
  intro t51 e51
  rw [bsel_and] at e51
  repeat first | (with_reducible refine side_d ?_ ?_; exact byD) | (with_reducible refine side_q ?_ ?_; exact byQ)
  refine ⟨_, fun hp => cw_m (RSame_c (appendU u who number offset text now).1 (appendU u who number offset text now).1 (appendU_len hu who number offset text now) (appendU_len hu who number offset text now)) byW byT ⟨rfl, rfl⟩, ?_⟩
  simp only [go_sem]
  repeat first | (with_reducible refine side_d ?_ ?_; exact byD) | (with_reducible refine side_q ?_ ?_; exact byQ)
  intro t56 e56
  rw [bsel_and] at e56
  repeat first | (with_reducible refine side_d ?_ ?_; exact byD) | (with_reducible refine side_q ?_ ?_; exact byQ)
  subst e45 e46 e50 e51 e56
  refine cx_ret ?_
  simp only [go_sem]
  refine finw_bool ?_
  simp [sameU_self]
/-- what a sweep comes to -/
def sweptE (u : Uploads) (now : Int) : Uploads := if beginErr u now = 0 then swept u now else zeroU
theorem sweptE_ok {u : Uploads} {now : Int} (h : beginErr u now = 0) : sweptE u now = swept u now := if_pos h
theorem sweptE_err {u : Uploads} {now : Int} (h : ¬ beginErr u now = 0) : sweptE u now = zeroU := if_neg h
theorem Sweep_c (u : Uploads) (hu : u.ok) (now : Int) : Meets Try.prog 20 [u.enc, .int .i64 now] (.tup [(sweptE u now).enc, .int .i64 (beginErr u now)]) [] := by
  by_cases h : beginErr u now = 0
  · rw [sweptE_ok h, h]; exact Sweep_ok u hu now h
  · rw [sweptE_err h]; exact Sweep_err u hu now h
theorem RSame_self (a : Uploads) (h : a.ss.length < 4611686018427387904) : Meets Try.prog 17 [a.enc, a.enc] (.bool true) [] := by
  have := RSame_c a a h h
  rwa [sameU_self] at this
theorem UploadChecks_c (u : Uploads) (hu : u.ok) (now : Int) : Meets Try.prog 5 [u.enc, .int .i64 now] (.bool true) [] := by
  refine meets_x (fn := Try.f5) Try.func5 rfl fb5 (by kernel_rfl) (Nat.le_of_ble_eq_true rfl) ?_
  refine cx_sr ?_
  simp only [go_sem]
  repeat first | (with_reducible refine side_d ?_ ?_; exact byD) | (with_reducible refine side_q ?_ ?_; exact byQ)
  refine cx_sr ?_
  simp only [go_sem]
  repeat first | (with_reducible refine side_d ?_ ?_; exact byD) | (with_reducible refine side_q ?_ ?_; exact byQ)
  refine cw_m (Sweep_c u hu now) byW byT ?_
  simp only [go_sem]
  repeat first | (with_reducible refine side_d ?_ ?_; exact byD) | (with_reducible refine side_q ?_ ?_; exact byQ)
  refine cx_sr ?_
  simp only [go_sem]
  repeat first | (with_reducible refine side_d ?_ ?_; exact byD) | (with_reducible refine side_q ?_ ?_; exact byQ)
  refine cw_m (RBegin_c u hu now) byW byT ?_
  simp only [go_sem]
  repeat first | (with_reducible refine side_d ?_ ?_; exact byD) | (with_reducible refine side_q ?_ ?_; exact byQ)
  refine cx_sr ?_
  simp only [go_sem]
  repeat first | (with_reducible refine side_d ?_ ?_; exact byD) | (with_reducible refine side_q ?_ ?_; exact byQ)
  refine cx_seq ?_
  refine cx_sr ?_
  simp only [go_sem]
  repeat first | (with_reducible refine side_d ?_ ?_; exact byD) | (with_reducible refine side_q ?_ ?_; exact byQ)
  intro t20 e20
  repeat first | (with_reducible refine side_d ?_ ?_; exact byD) | (with_reducible refine side_q ?_ ?_; exact byQ)
  subst e20
  refine cx_if _ rfl (fun h20 => ?_) (fun h20 => ?_)
  ·
    (try simp only [go_sem] at h20)
    have hS : Meets Try.prog 17 [(sweptE u now).enc, (swept u now).enc] (.bool true) [] := by
      rw [sweptE_ok h20]; exact RSame_self _ (swept_len hu now)
    refine cx_region ?_
    simp only [go_sem]
    repeat first | (with_reducible refine side_d ?_ ?_; exact byD) | (with_reducible refine side_q ?_ ?_; exact byQ)
    refine cw_m (RSweep_c u hu now) byW byT ?_
    simp only [go_sem]
    repeat first | (with_reducible refine side_d ?_ ?_; exact byD) | (with_reducible refine side_q ?_ ?_; exact byQ)
    refine cx_seq (cx_draw mixed [] (.one 0 (.first 1 (.first 2 (.first 4 (.one 3 (.one 5 (.first 6 (.first 7 (.first 8 (.first 9 (.first 10 (.first 11 (.first 12 (.first 13 (.first 14 (.first 15 (.one 16 (.first 17 (.first 18 (.done)))))))))))))))))))) (by kernel_rfl) ?_)
    simp only [go_sem]
    repeat first | (with_reducible refine side_d ?_ ?_; exact byD) | (with_reducible refine side_q ?_ ?_; exact byQ)
    refine cwE_m (uploadBegun_c) byW byT ?_
    simp only [go_sem]
    repeat first | (with_reducible refine side_d ?_ ?_; exact byD) | (with_reducible refine side_q ?_ ?_; exact byQ)
    refine ⟨_, fun hp => cwE_m (Check_c u hu.len (fun s hs => (hu.2 s hs).1)) byW byT ⟨rfl, rfl⟩, ?_⟩
    simp only [go_sem]
    repeat first | (with_reducible refine side_d ?_ ?_; exact byD) | (with_reducible refine side_q ?_ ?_; exact byQ)
    refine ⟨_, fun hp => cwE_m (RCheck_c u hu.len (fun s hs => (hu.2 s hs).1)) byW byT ⟨rfl, rfl⟩, ?_⟩
    simp only [go_sem]
    repeat first | (with_reducible refine side_d ?_ ?_; exact byD) | (with_reducible refine side_q ?_ ?_; exact byQ)
    intro t30 e30
    repeat first | (with_reducible refine side_d ?_ ?_; exact byD) | (with_reducible refine side_q ?_ ?_; exact byQ)
    intro t31 e31
    rw [bsel_and] at e31
    repeat first | (with_reducible refine side_d ?_ ?_; exact byD) | (with_reducible refine side_q ?_ ?_; exact byQ)
    intro t35 e35
    repeat first | (with_reducible refine side_d ?_ ?_; exact byD) | (with_reducible refine side_q ?_ ?_; exact byQ)
    intro t36 e36
    rw [bsel_and] at e36
    repeat first | (with_reducible refine side_d ?_ ?_; exact byD) | (with_reducible refine side_q ?_ ?_; exact byQ)
    refine ⟨_, fun hp => cwE_m (hS) byW byT ⟨rfl, rfl⟩, ?_⟩
    simp only [go_sem]
    repeat first | (with_reducible refine side_d ?_ ?_; exact byD) | (with_reducible refine side_q ?_ ?_; exact byQ)
    intro t41 e41
    rw [bsel_and] at e41
    repeat first | (with_reducible refine side_d ?_ ?_; exact byD) | (with_reducible refine side_q ?_ ?_; exact byQ)
    subst e30 e31 e35 e36 e41
    refine cx_ret ?_
    simp only [go_sem]
    refine finw_bool ?_
    simp
  ·
    (try simp only [go_sem] at h20)
    have hS : Meets Try.prog 17 [(sweptE u now).enc, zeroU.enc] (.bool true) [] := by
      rw [sweptE_err h20]; exact RSame_self _ (by simp [zeroU])
    refine cx_skip ?_
    (try simp only [go_sem])
    refine cx_seq (cx_draw mixed [] (.one 0 (.first 1 (.first 2 (.first 4 (.one 3 (.one 5 (.first 6 (.first 7 (.first 8 (.first 9 (.first 10 (.first 11 (.first 12 (.first 13 (.first 14 (.first 15 (.one 16 (.first 17 (.first 18 (.done)))))))))))))))))))) (by kernel_rfl) ?_)
    simp only [go_sem]
    repeat first | (with_reducible refine side_d ?_ ?_; exact byD) | (with_reducible refine side_q ?_ ?_; exact byQ)
    refine cwE_m (uploadBegun_c) byW byT ?_
    simp only [go_sem]
    repeat first | (with_reducible refine side_d ?_ ?_; exact byD) | (with_reducible refine side_q ?_ ?_; exact byQ)
    refine ⟨_, fun hp => cwE_m (Check_c u hu.len (fun s hs => (hu.2 s hs).1)) byW byT ⟨rfl, rfl⟩, ?_⟩
    simp only [go_sem]
    repeat first | (with_reducible refine side_d ?_ ?_; exact byD) | (with_reducible refine side_q ?_ ?_; exact byQ)
    refine ⟨_, fun hp => cwE_m (RCheck_c u hu.len (fun s hs => (hu.2 s hs).1)) byW byT ⟨rfl, rfl⟩, ?_⟩
    simp only [go_sem]
    repeat first | (with_reducible refine side_d ?_ ?_; exact byD) | (with_reducible refine side_q ?_ ?_; exact byQ)
    intro t30 e30
    repeat first | (with_reducible refine side_d ?_ ?_; exact byD) | (with_reducible refine side_q ?_ ?_; exact byQ)
    intro t31 e31
    rw [bsel_and] at e31
    repeat first | (with_reducible refine side_d ?_ ?_; exact byD) | (with_reducible refine side_q ?_ ?_; exact byQ)
    intro t35 e35
    repeat first | (with_reducible refine side_d ?_ ?_; exact byD) | (with_reducible refine side_q ?_ ?_; exact byQ)
    intro t36 e36
    rw [bsel_and] at e36
    repeat first | (with_reducible refine side_d ?_ ?_; exact byD) | (with_reducible refine side_q ?_ ?_; exact byQ)
    refine ⟨_, fun hp => cwE_m (hS) byW byT ⟨rfl, rfl⟩, ?_⟩
    simp only [go_sem]
    repeat first | (with_reducible refine side_d ?_ ?_; exact byD) | (with_reducible refine side_q ?_ ?_; exact byQ)
    intro t41 e41
    rw [bsel_and] at e41
    repeat first | (with_reducible refine side_d ?_ ?_; exact byD) | (with_reducible refine side_q ?_ ?_; exact byQ)
    subst e30 e31 e35 e36 e41
    refine cx_ret ?_
    simp only [go_sem]
    refine finw_bool ?_
    simp
theorem UploadEnds_c (u : Uploads) (hu : u.ok) (who : Str) (hw : who.length < 4611686018427387904) (number now : Int) :
    Meets Try.prog 6 [u.enc, .str who, .int .i64 number, .int .i64 now] (.bool true) [] := by
  refine meets_x (fn := Try.f6) Try.func6 rfl fb6 (by kernel_rfl) (Nat.le_of_ble_eq_true rfl) ?_
  refine cx_sr ?_
  simp only [go_sem]
  repeat first | (with_reducible refine side_d ?_ ?_; exact byD) | (with_reducible refine side_q ?_ ?_; exact byQ)
  refine cx_sr ?_
  simp only [go_sem]
  repeat first | (with_reducible refine side_d ?_ ?_; exact byD) | (with_reducible refine side_q ?_ ?_; exact byQ)
  refine cw_m (Query_c u hu who hw number now) byW byT ?_
  simp only [go_sem]
  repeat first | (with_reducible refine side_d ?_ ?_; exact byD) | (with_reducible refine side_q ?_ ?_; exact byQ)
  refine cx_sr ?_
  simp only [go_sem]
  repeat first | (with_reducible refine side_d ?_ ?_; exact byD) | (with_reducible refine side_q ?_ ?_; exact byQ)
  refine cw_m (Finish_c u hu who hw number now) byW byT ?_
  simp only [go_sem]
  repeat first | (with_reducible refine side_d ?_ ?_; exact byD) | (with_reducible refine side_q ?_ ?_; exact byQ)
  refine cx_sr ?_
  simp only [go_sem]
  repeat first | (with_reducible refine side_d ?_ ?_; exact byD) | (with_reducible refine side_q ?_ ?_; exact byQ)
  by_cases hs43 : mineErr u who number now = 0
  ·
    repeat first | (with_reducible refine side_d ?_ ?_; exact byD) | (with_reducible refine side_q ?_ ?_; exact byQ)
    obtain ⟨hi1, hi2⟩ := mineIx_of hs43
    have hq : queryU u who number now = ((((swept u now).ss.getD (mineIx u who number now).toNat default).text.length : Int), 0) := if_pos hs43
    refine cw_m (RMine_ok u hu who hw number now hs43) byW byT ?_
    simp only [go_sem]
    repeat first | (with_reducible refine side_d ?_ ?_; exact byD) | (with_reducible refine side_q ?_ ?_; exact byQ)
    refine cx_sr ?_
    simp only [go_sem]
    repeat first | (with_reducible refine side_d ?_ ?_; exact byD) | (with_reducible refine side_q ?_ ?_; exact byQ)
    refine cx_seq ?_
    refine cx_sr ?_
    simp only [go_sem]
    repeat first | (with_reducible refine side_d ?_ ?_; exact byD) | (with_reducible refine side_q ?_ ?_; exact byQ)
    intro t48 e48
    repeat first | (with_reducible refine side_d ?_ ?_; exact byD) | (with_reducible refine side_q ?_ ?_; exact byQ)
    subst e48
    refine cx_if _ rfl (fun h48 => ?_) (fun h48 => no_if h48)
    refine cx_region ?_
    simp only [go_sem]
    repeat first | (with_reducible refine side_d ?_ ?_; exact byD) | (with_reducible refine side_q ?_ ?_; exact byQ)
    refine cx_sr ?_
    simp only [go_sem]
    repeat first | (with_reducible refine side_d ?_ ?_; exact byD) | (with_reducible refine side_q ?_ ?_; exact byQ)
    refine cw_m (RFinish_c u hu who hw number now) byW byT ?_
    simp only [go_sem]
    repeat first | (with_reducible refine side_d ?_ ?_; exact byD) | (with_reducible refine side_q ?_ ?_; exact byQ)
    refine cx_sr ?_
    simp only [go_sem]
    repeat first | (with_reducible refine side_d ?_ ?_; exact byD) | (with_reducible refine side_q ?_ ?_; exact byQ)
    refine cw_m (uploadBegun_c) byW byT ?_
    simp only [go_sem]
    repeat first | (with_reducible refine side_d ?_ ?_; exact byD) | (with_reducible refine side_q ?_ ?_; exact byQ)
    intro t69 e69
    repeat first | (with_reducible refine side_d ?_ ?_; exact byD) | (with_reducible refine side_q ?_ ?_; exact byQ)
    intro t70 e70
    rw [bsel_and] at e70
    repeat first | (with_reducible refine side_d ?_ ?_; exact byD) | (with_reducible refine side_q ?_ ?_; exact byQ)
    intro t74 e74
    repeat first | (with_reducible refine side_d ?_ ?_; exact byD) | (with_reducible refine side_q ?_ ?_; exact byQ)
    intro t75 e75
    rw [bsel_and] at e75
    repeat first | (with_reducible refine side_d ?_ ?_; exact byD) | (with_reducible refine side_q ?_ ?_; exact byQ)
    intro t79 e79
    repeat first | (with_reducible refine side_d ?_ ?_; exact byD) | (with_reducible refine side_q ?_ ?_; exact byQ)
    intro t80 e80
    rw [bsel_and] at e80
    repeat first | (with_reducible refine side_d ?_ ?_; exact byD) | (with_reducible refine side_q ?_ ?_; exact byQ)
    intro t84 e84
    repeat first | (with_reducible refine side_d ?_ ?_; exact byD) | (with_reducible refine side_q ?_ ?_; exact byQ)
    intro t85 e85
    rw [bsel_and] at e85
    repeat first | (with_reducible refine side_d ?_ ?_; exact byD) | (with_reducible refine side_q ?_ ?_; exact byQ)
    refine ⟨_, fun hp => cw_m (RSame_self (finishU u who number now).1 (finishU_len hu who number now)) byW byT ⟨rfl, rfl⟩, ?_⟩
    simp only [go_sem]
    repeat first | (with_reducible refine side_d ?_ ?_; exact byD) | (with_reducible refine side_q ?_ ?_; exact byQ)
    intro t90 e90
    rw [bsel_and] at e90
    repeat first | (with_reducible refine side_d ?_ ?_; exact byD) | (with_reducible refine side_q ?_ ?_; exact byQ)
    subst e69 e70 e74 e75 e79 e80 e84 e85 e90
    refine cx_ret ?_
    simp only [go_sem]
    refine finw_bool ?_
    rw [hq]
    simp
  ·
    repeat first | (with_reducible refine side_d ?_ ?_; exact byD) | (with_reducible refine side_q ?_ ?_; exact byQ)
    have hq : queryU u who number now = (0, mineErr u who number now) := if_neg hs43
    refine cw_m (RMine_err u hu who hw number now hs43) byW byT ?_
    simp only [go_sem]
    repeat first | (with_reducible refine side_d ?_ ?_; exact byD) | (with_reducible refine side_q ?_ ?_; exact byQ)
    refine cx_sr ?_
    simp only [go_sem]
    repeat first | (with_reducible refine side_d ?_ ?_; exact byD) | (with_reducible refine side_q ?_ ?_; exact byQ)
    refine cx_seq ?_
    refine cx_sr ?_
    simp only [go_sem]
    repeat first | (with_reducible refine side_d ?_ ?_; exact byD) | (with_reducible refine side_q ?_ ?_; exact byQ)
    intro t48 e48
    repeat first | (with_reducible refine side_d ?_ ?_; exact byD) | (with_reducible refine side_q ?_ ?_; exact byQ)
    subst e48
    refine cx_if _ rfl (fun h48 => no_if h48) (fun h48 => ?_)
    refine cx_skip ?_
    (try simp only [go_sem])
    refine cx_sr ?_
    simp only [go_sem]
    repeat first | (with_reducible refine side_d ?_ ?_; exact byD) | (with_reducible refine side_q ?_ ?_; exact byQ)
    refine cw_m (RFinish_c u hu who hw number now) byW byT ?_
    simp only [go_sem]
    repeat first | (with_reducible refine side_d ?_ ?_; exact byD) | (with_reducible refine side_q ?_ ?_; exact byQ)
    refine cx_sr ?_
    simp only [go_sem]
    repeat first | (with_reducible refine side_d ?_ ?_; exact byD) | (with_reducible refine side_q ?_ ?_; exact byQ)
    refine cw_m (uploadBegun_c) byW byT ?_
    simp only [go_sem]
    repeat first | (with_reducible refine side_d ?_ ?_; exact byD) | (with_reducible refine side_q ?_ ?_; exact byQ)
    intro t69 e69
    repeat first | (with_reducible refine side_d ?_ ?_; exact byD) | (with_reducible refine side_q ?_ ?_; exact byQ)
    intro t70 e70
    rw [bsel_and] at e70
    repeat first | (with_reducible refine side_d ?_ ?_; exact byD) | (with_reducible refine side_q ?_ ?_; exact byQ)
    intro t74 e74
    repeat first | (with_reducible refine side_d ?_ ?_; exact byD) | (with_reducible refine side_q ?_ ?_; exact byQ)
    intro t75 e75
    rw [bsel_and] at e75
    repeat first | (with_reducible refine side_d ?_ ?_; exact byD) | (with_reducible refine side_q ?_ ?_; exact byQ)
    intro t79 e79
    repeat first | (with_reducible refine side_d ?_ ?_; exact byD) | (with_reducible refine side_q ?_ ?_; exact byQ)
    intro t80 e80
    rw [bsel_and] at e80
    repeat first | (with_reducible refine side_d ?_ ?_; exact byD) | (with_reducible refine side_q ?_ ?_; exact byQ)
    intro t84 e84
    repeat first | (with_reducible refine side_d ?_ ?_; exact byD) | (with_reducible refine side_q ?_ ?_; exact byQ)
    intro t85 e85
    rw [bsel_and] at e85
    repeat first | (with_reducible refine side_d ?_ ?_; exact byD) | (with_reducible refine side_q ?_ ?_; exact byQ)
    refine ⟨_, fun hp => cw_m (RSame_self (finishU u who number now).1 (finishU_len hu who number now)) byW byT ⟨rfl, rfl⟩, ?_⟩
    simp only [go_sem]
    repeat first | (with_reducible refine side_d ?_ ?_; exact byD) | (with_reducible refine side_q ?_ ?_; exact byQ)
    intro t90 e90
    rw [bsel_and] at e90
    repeat first | (with_reducible refine side_d ?_ ?_; exact byD) | (with_reducible refine side_q ?_ ?_; exact byQ)
    subst e69 e70 e74 e75 e79 e80 e84 e85 e90
    refine cx_ret ?_
    simp only [go_sem]
    refine finw_bool ?_
    rw [hq]
    simp
end Go.VM.Try
end
section
set_option linter.unusedVariables false
set_option linter.unusedSimpArgs false
open Go Go.VM
namespace Tether
theorem wrap_id {n : Int} (h1 : -9223372036854775808 ≤ n) (h2 : n ≤ 9223372036854775807) : wrap n = n := by
  simp only [wrap, IntKind.wrap_i64]
  omega
/-- somebody's sizes together -/
def sumW (who : Str) : List Session → Int
  | [] => 0
  | s :: l => (if s.who = who then s.size else 0) + sumW who l
theorem sumW_bound {who : Str} : ∀ {l : List Session}, (∀ s ∈ l, 0 ≤ s.size ∧ s.size ≤ 300) → 0 ≤ sumW who l ∧ sumW who l ≤ 300 * (l.length : Int)
  | [], _ => by simp [sumW]
  | s :: l, h => by
    have h1 := sumW_bound (who := who) (l := l) fun x hx => h x (List.mem_cons_of_mem _ hx)
    have h2 := h s (List.mem_cons.2 (Or.inl rfl))
    simp only [sumW, List.length_cons]
    split <;> omega
theorem openW_acc {who : Str} : ∀ (l : List Session) (a : Int), 0 ≤ a → (∀ s ∈ l, 0 ≤ s.size ∧ s.size ≤ 300) → a + 300 * (l.length : Int) ≤ 1099511627776 →
    l.foldl (fun n s => if s.who = who then wrap (n + s.size) else n) a = a + sumW who l
  | [], a, _, _, _ => by simp [sumW]
  | s :: l, a, h0, h, hb => by
    have h2 := h s (List.mem_cons.2 (Or.inl rfl))
    have h3 : ∀ x ∈ l, 0 ≤ x.size ∧ x.size ≤ 300 := fun x hx => h x (List.mem_cons_of_mem _ hx)
    simp only [List.length_cons] at hb
    simp only [List.foldl_cons, sumW]
    split
    · rw [wrap_id (by omega) (by omega), openW_acc l _ (by omega) h3 (by omega)]
      omega
    · rw [openW_acc l a h0 h3 (by omega)]
      omega
theorem openW_sum {who : Str} {l : List Session} (h : ∀ s ∈ l, 0 ≤ s.size ∧ s.size ≤ 300) (hl : l.length ≤ 1000) : openW l who = sumW who l := by
  unfold openW
  rw [openW_acc l 0 (by omega) h (by omega)]
  omega
theorem sumW_append {who : Str} (l m : List Session) : sumW who (l ++ m) = sumW who l + sumW who m := by
  induction l with
  | nil => simp [sumW]
  | cons s l ih => simp only [List.cons_append, sumW, ih]; omega
theorem sumW_filter {who : Str} {p : Session → Bool} : ∀ {l : List Session}, (∀ s ∈ l, 0 ≤ s.size) → sumW who (l.filter p) ≤ sumW who l
  | [], _ => by simp [sumW]
  | s :: l, h => by
    have h1 := sumW_filter (who := who) (p := p) (l := l) fun x hx => h x (List.mem_cons_of_mem _ hx)
    have h2 := h s (List.mem_cons.2 (Or.inl rfl))
    rw [List.filter_cons]
    split
    · simp only [sumW]; omega
    · simp only [sumW]; split <;> omega
theorem sessErr_iff {u : Uploads} {s : Session} : sessErr u s = 0 ↔ (1 ≤ s.num ∧ s.num ≤ wrap (u.next - 1)) ∧ (0 ≤ s.size ∧ s.size ≤ 300) ∧ (0 ≤ s.till ∧ s.till ≤ 2199023255552) ∧ isName s.who = true ∧ (s.text.length : Int) ≤ s.size := by
  unfold sessErr
  constructor
  · intro h
    split at h
    · simp at h
    rename_i h1
    split at h
    · simp at h
    rename_i h2
    split at h
    · simp at h
    rename_i h3
    simp only [Bool.or_eq_true, Bool.not_eq_true', not_or, Bool.not_eq_false, within_iff] at h1
    exact ⟨h1.1.1, h1.1.2, h1.2, by simpa using h2, by omega⟩
  · rintro ⟨h1, h2, h3, h4, h5⟩
    rw [if_neg, if_neg (by simp [h4]), if_neg (by omega)]
    simp [within_iff.2 h1, within_iff.2 h2, within_iff.2 h3]
theorem rises_iff {l : List Session} : ((List.range l.length).all fun i => i = 0 || risesAt l i) = true ↔ l.Pairwise fun a b => a.num < b.num := by
  rw [List.all_eq_true]
  constructor
  · intro h
    have step : ∀ j, j + 1 < l.length → (l.getD j default).num < (l.getD (j + 1) default).num := fun j hj => by
      have := h (j + 1) (List.mem_range.2 hj)
      simpa [risesAt] using this
    have key : ∀ j i, i < j → j < l.length → (l.getD i default).num < (l.getD j default).num := by
      intro j
      induction j with
      | zero => intro i hi; omega
      | succ j ih =>
        intro i hi hj
        rcases Nat.lt_or_ge i j with h1 | h1
        · exact Int.lt_trans (ih i h1 (by omega)) (step j hj)
        · obtain rfl : i = j := by omega
          exact step i hj
    rw [List.pairwise_iff_getElem]
    intro i j hi hj hij
    have := key j i hij hj
    simpa [List.getD, hi, hj] using this
  · intro h i hi
    have hi := List.mem_range.1 hi
    by_cases h0 : i = 0
    · simp [h0]
    · rw [List.pairwise_iff_getElem] at h
      have := h (i - 1) i (by omega) hi (by omega)
      simp [risesAt, List.getD, hi, show i - 1 < l.length by omega, this]
theorem firstErr_zero {α : Type} {f : α → Int} {l : List α} : firstErr f l = 0 ↔ ∀ x ∈ l, f x = 0 := by
  induction l with
  | nil => simp [firstErr]
  | cons x l ih =>
    simp only [firstErr, List.mem_cons, forall_eq_or_imp]
    split
    · rename_i h; exact ⟨fun h' => absurd h' h, fun h' => absurd h'.1 h⟩
    · rename_i h
      rw [ih]
      exact ⟨fun h' => ⟨by simpa using h, h'⟩, fun h' => h'.2⟩
/-- what a list of uploads is that is in order -/
structure GoodU (u : Uploads) : Prop where
  lasts : 1 ≤ u.lasts ∧ u.lasts ≤ 1000000
  room : 0 ≤ u.room ∧ u.room ≤ 100000
  next : 1 ≤ u.next ∧ u.next ≤ 1099511627776
  len : u.ss.length ≤ 20
  sess : ∀ s ∈ u.ss, sessErr u s = 0
  rise : u.ss.Pairwise fun a b => a.num < b.num
  sums : ∀ s ∈ u.ss, sumW s.who u.ss ≤ u.room
theorem GoodU.sizes {u : Uploads} (h : GoodU u) : ∀ s ∈ u.ss, 0 ≤ s.size ∧ s.size ≤ 300 := fun s hs => (sessErr_iff.1 (h.sess s hs)).2.1
theorem checkU_iff {u : Uploads} : checkU u = 0 ↔ GoodU u := by
  constructor
  · intro h
    obtain ⟨h1, h2, h3, h4, h5⟩ := checkU_ok h
    have hz : ∀ s ∈ u.ss, 0 ≤ s.size ∧ s.size ≤ 300 := fun s hs => (sessErr_iff.1 (h5 s hs)).2.1
    unfold checkU at h
    split at h
    · simp at h
    split at h
    · simp at h
    split at h
    · rename_i h3; exact absurd h h3
    split at h
    · simp at h
    rename_i h6
    split at h
    · simp at h
    rename_i h7
    refine ⟨h1, h2, h3, h4, h5, rises_iff.1 (eq_true_of_ne_false h6), fun s hs => ?_⟩
    have := (List.all_eq_true.1 (eq_true_of_ne_false h7)) s hs
    rw [openW_sum hz (by omega)] at this
    simpa using this
  · intro h
    have h3 := firstErr_zero.2 h.sess
    unfold checkU
    rw [if_neg, if_neg, if_neg, if_neg, if_neg]
    · have : (u.ss.all fun s => decide (openW u.ss s.who ≤ u.room)) = true := List.all_eq_true.2 fun s hs => by
        rw [openW_sum h.sizes (by have := h.len; omega)]
        simpa using h.sums s hs
      simp [this]
    · rw [rises_iff.2 h.rise]; simp
    · simp [h3]
    · have := h.len; omega
    · simp [within_iff.2 h.lasts, within_iff.2 h.room, within_iff.2 h.next]
theorem GoodU.swept {u : Uploads} (h : GoodU u) (now : Int) : GoodU (swept u now) where
  lasts := h.lasts
  room := h.room
  next := h.next
  len := Nat.le_trans (List.length_filter_le _ _) h.len
  sess := fun s hs => h.sess s (List.mem_filter.1 hs).1
  rise := h.rise.filter _
  sums := fun s hs => Int.le_trans (sumW_filter fun x hx => (h.sizes x hx).1) (h.sums s (List.mem_filter.1 hs).1)
/-- behind an opening -/
structure Opened (u : Uploads) (who : Str) (size now : Int) (x : Uploads) : Prop where
  hnow : 0 ≤ now ∧ now ≤ 1099511627776
  hname : isName who = true
  good : GoodU u
  hsize : 0 ≤ size ∧ size ≤ 300
  next : u.next < 1099511627776
  ss : x.ss = (swept u now).ss ++ [⟨u.next, who, [], size, now + u.lasts⟩]
  rest : x.next = u.next + 1 ∧ x.lasts = u.lasts ∧ x.room = u.room
  out : (openU u who size now).1 = x ∧ (openU u who size now).2.1 = u.next ∧ (openU u who size now).2.2 = 0
  goodx : GoodU x
theorem opened {u : Uploads} {who : Str} {size now : Int} (h : openErr u who size now = 0) : ∃ x, Opened u who size now x := by
  have ho : openU u who size now = ({ swept u now with ss := (swept u now).ss ++ [⟨u.next, who, [], size, now + u.lasts⟩], next := u.next + 1 }, u.next, 0) := if_pos h
  unfold openErr at h
  split at h
  · rename_i h1; exact absurd h h1
  rename_i h1
  split at h
  · simp at h
  rename_i h2
  split at h
  · simp at h
  rename_i h3
  split at h
  · simp at h
  rename_i h4
  split at h
  · simp at h
  rename_i h5
  obtain ⟨hc, hn⟩ := begin_facts (u := u) (now := now) (by simpa using h1)
  have hg := checkU_iff.1 hc
  have hs := hg.swept now
  have hl := hs.len
  have hsz : 0 ≤ size ∧ size ≤ 300 := within_iff.1 (by have := not_or.1 h3; simpa using this.1)
  have hnx : u.next < 1099511627776 := by have := (not_or.1 h3).2; have := hg.next; omega
  have hnm : isName who = true := by simpa using h2
  have hsum : sumW who (swept u now).ss + size ≤ u.room := by
    rw [openW_sum hs.sizes (by omega)] at h5
    have := sumW_bound (who := who) hs.sizes
    rw [wrap_id (by omega) (by omega)] at h5
    omega
  refine ⟨Uploads.mk ((swept u now).ss ++ [⟨u.next, who, [], size, now + u.lasts⟩]) (u.next + 1) u.lasts u.room, hn, hnm, hg, hsz, hnx, rfl, ⟨rfl, rfl, rfl⟩, ⟨congrArg Prod.fst ho, congrArg (fun p => p.2.1) ho, congrArg (fun p => p.2.2) ho⟩, ?_⟩
  have hw1 : wrap (u.next - 1) = u.next - 1 := wrap_id (by have := hg.next; omega) (by omega)
  have hw2 : wrap (u.next + 1 - 1) = u.next := by rw [wrap_id (by have := hg.next; omega) (by omega)]; omega
  have hnum : ∀ s ∈ (swept u now).ss, s.num < u.next := fun s hm => by
    have := (sessErr_iff.1 (hg.sess s (List.mem_filter.1 hm).1)).1
    rw [hw1] at this
    omega
  refine ⟨hg.lasts, hg.room, ?_, ?_, ?_, ?_, ?_⟩
  · have := hg.next
    show 1 ≤ u.next + 1 ∧ u.next + 1 ≤ _
    omega
  · simp only [List.length_append, List.length_cons, List.length_nil]
    omega
  · intro s hm
    rw [sessErr_iff]
    show (1 ≤ s.num ∧ s.num ≤ wrap (u.next + 1 - 1)) ∧ _
    rw [hw2]
    rcases List.mem_append.1 hm with hm | hm
    · obtain ⟨h6, h7⟩ := sessErr_iff.1 (hs.sess s hm)
      exact ⟨⟨h6.1, Int.le_of_lt (hnum s hm)⟩, h7⟩
    · obtain rfl := List.mem_singleton.1 hm
      refine ⟨⟨hg.next.1, Int.le_refl _⟩, hsz, ?_, hnm, by simpa using hsz.1⟩
      have := hg.lasts
      show 0 ≤ now + u.lasts ∧ now + u.lasts ≤ _
      omega
  · rw [List.pairwise_append]
    refine ⟨hs.rise, by simp, fun a ha b hb => ?_⟩
    obtain rfl := List.mem_singleton.1 hb
    exact hnum a ha
  · intro s hm
    show sumW s.who ((swept u now).ss ++ _) ≤ u.room
    rw [sumW_append]
    simp only [sumW]
    rcases List.mem_append.1 hm with hm | hm
    · have := hs.sums s hm
      have hr : (swept u now).room = u.room := rfl
      split
      · rename_i he
        rw [← he]
        omega
      · omega
    · obtain rfl := List.mem_singleton.1 hm
      simp only [if_true]
      omega
theorem idxF_append_none {α : Type} {p : α → Bool} {l m : List α} (h : ∀ x ∈ l, p x = false) (hm : ∀ x ∈ m, p x = false) : idxF p (l ++ m) = -1 := by
  unfold idxF
  rw [List.findIdx?_eq_none_iff.2]
  intro x hx
  rcases List.mem_append.1 hx with hx | hx
  · exact h x hx
  · exact hm x hx
theorem Opened.num {u x : Uploads} {who : Str} {size now : Int} (h : Opened u who size now x) : ∀ s ∈ (swept u now).ss, s.num ≠ u.next := fun s hs => by
  have := (sessErr_iff.1 ((h.good.swept now).sess s hs)).1
  rw [swept_next, wrap_id (by have := h.good.next; omega) (by have := h.good.next; omega)] at this
  omega
theorem Opened.begin {u x : Uploads} {who : Str} {size now : Int} (h : Opened u who size now x) {t : Int} (h0 : 0 ≤ t) (h1 : t ≤ 1099511627776) : beginErr x t = 0 := by
  unfold beginErr
  rw [if_neg (by simpa using checkU_iff.2 h.goodx), if_neg (by simp [within_iff.2 ⟨h0, h1⟩])]
/-- nobody else has it -/
theorem Opened.other {u x : Uploads} {who other : Str} {size now : Int} (h : Opened u who size now x) : (queryU x other u.next now).2 = 1 ∨ ((queryU x other u.next now).2 = 0 ↔ other = who) := by
  have hb := h.begin h.hnow.1 h.hnow.2
  have hq : (queryU x other u.next now).2 = mineErr x other u.next now := by
    unfold queryU
    split
    · rename_i e; simp [e]
    · rfl
  rw [hq]
  by_cases hn : isName other = false
  · exact Or.inl (mineErr_n hb hn)
  right
  have hsw : (swept x now).ss = (swept u now).ss ++ [⟨u.next, who, [], size, now + u.lasts⟩] := by
    show x.ss.filter _ = _
    rw [h.ss, List.filter_append]
    have hl := h.good.lasts
    have : ¬ now + u.lasts < now := by omega
    congr 1
    · show (u.ss.filter _).filter _ = _
      rw [List.filter_filter]
      simp [swept]
    · simp [this]
  by_cases he : other = who
  · subst he
    have : ¬ mineIx x other u.next now < 0 := by
      unfold mineIx
      rw [hsw, idxF_at (i := (swept u now).ss.length) (d := default) (by simp)]
      · omega
      · intro j hj
        have hm : ((swept u now).ss ++ [Session.mk u.next other [] size (now + u.lasts)]).getD j default ∈ (swept u now).ss := by
          have e : ((swept u now).ss ++ [Session.mk u.next other [] size (now + u.lasts)]).getD j default = (swept u now).ss.getD j default := by
            simp [List.getD, List.getElem?_append_left hj]
          rw [e]; exact getD_mem hj
        unfold isMine
        rw [decide_eq_false (h.num _ hm), Bool.false_and]
      · simp [List.getD, isMine]
    simp [mineErr_0 hb hn this]
  · have : mineIx x other u.next now < 0 := by
      unfold mineIx
      rw [hsw, idxF_append_none]
      · decide
      · intro s hs; simp [isMine, h.num s hs]
      · intro s hs
        obtain rfl := List.mem_singleton.1 hs
        simp [isMine, Ne.symm he]
    simp [mineErr_i hb hn this, he]
/-- who lets time go has it no more -/
theorem Opened.late {u x : Uploads} {who : Str} {size now : Int} (h : Opened u who size now x) : idxF (isMine who u.next) (swept x (now + u.lasts + 1)).ss = -1 := by
  have hsw : (swept x (now + u.lasts + 1)).ss = (swept u now).ss.filter (fun s => !decide (s.till < now + u.lasts + 1)) := by
    show x.ss.filter _ = _
    rw [h.ss, List.filter_append]
    have : now + u.lasts < now + u.lasts + 1 := by omega
    simp [this]
  rw [hsw]
  have := idxF_append_none (p := isMine who u.next) (l := (swept u now).ss.filter (fun s => !decide (s.till < now + u.lasts + 1))) (m := []) (fun s hs => by simp [isMine, h.num s (List.mem_filter.1 hs).1]) (by simp)
  simpa using this
theorem Opened.gone {u x : Uploads} {who : Str} {size now : Int} (h : Opened u who size now x) (hl : now + u.lasts + 1 ≤ 1099511627776) : queryU x who u.next (now + u.lasts + 1) = (0, 5) := by
  have hb := h.begin (t := now + u.lasts + 1) (by have := h.hnow; have := h.good.lasts; omega) hl
  have he : mineErr x who u.next (now + u.lasts + 1) = 5 := mineErr_i hb (by simp [h.hname]) (by unfold mineIx; rw [h.late]; decide)
  unfold queryU
  rw [if_neg (by simp [he]), he]
theorem openU_err {u : Uploads} {who : Str} {size now : Int} (h : ¬ openErr u who size now = 0) : openU u who size now = (zeroU, 0, openErr u who size now) := if_neg h
end Tether
end
section
set_option linter.unusedVariables false
set_option linter.unusedSimpArgs false
open Go Go.VM Go.Proofs Tether
namespace Go.VM.Try
set_option maxRecDepth 100000
set_option maxHeartbeats 4000000
theorem isName_len {s : Str} (h : isName s = true) : s.length ≤ 20 := by
  unfold isName at h
  simp only [Bool.and_eq_true, Bool.not_eq_true', Bool.or_eq_false_iff, decide_eq_false_iff_not] at h
  have := h.1.1.1.1.2
  omega
theorem GoodU_ok {u : Uploads} (h : GoodU u) : u.ok := by
  have hl := h.len
  refine ⟨by omega, fun s hs => ?_⟩
  obtain ⟨h1, h2, h3, h4, h5⟩ := sessErr_iff.1 (h.sess s hs)
  have := isName_len h4
  omega
theorem UploadOver_c (u : Uploads) (hu : u.ok) (who : Str) (hw : who.length < 4611686018427387904) (other : Str) (ho : other.length < 4611686018427387904) (size now : Int) :
    Meets Try.prog 8 [u.enc, .str who, .str other, .int .i64 size, .int .i64 now] (.bool true) [] := by
  refine meets_x (fn := Try.f8) Try.func8 rfl fb8 (by kernel_rfl) (Nat.le_of_ble_eq_true rfl) ?_
  refine cx_sr ?_
  simp only [go_sem]
  repeat first | (with_reducible refine side_d ?_ ?_; exact byD) | (with_reducible refine side_q ?_ ?_; exact byQ)
  refine cx_seq ?_
  refine cx_sr ?_
  simp only [go_sem]
  repeat first | (with_reducible refine side_d ?_ ?_; exact byD) | (with_reducible refine side_q ?_ ?_; exact byQ)
  refine cw_m (uploadBegun_c) byW byT ?_
  simp only [go_sem]
  repeat first | (with_reducible refine side_d ?_ ?_; exact byD) | (with_reducible refine side_q ?_ ?_; exact byQ)
  intro t19 e19
  repeat first | (with_reducible refine side_d ?_ ?_; exact byD) | (with_reducible refine side_q ?_ ?_; exact byQ)
  subst e19
  refine cx_if _ rfl (fun h19 => ?_) (fun h19 => ?_)
  ·
    (try simp only [go_sem] at h19)
    refine cx_sr ?_
    simp only [go_sem]
    repeat first | (with_reducible refine side_d ?_ ?_; exact byD) | (with_reducible refine side_q ?_ ?_; exact byQ)
    refine cx_ret ?_
    simp only [go_sem]
    simp at h19
  ·
    (try simp only [go_sem] at h19)
    refine cx_skip ?_
    (try simp only [go_sem])
    refine cx_sr ?_
    simp only [go_sem]
    repeat first | (with_reducible refine side_d ?_ ?_; exact byD) | (with_reducible refine side_q ?_ ?_; exact byQ)
    by_cases hs25 : openErr u who size now = 0
    ·
      repeat first | (with_reducible refine side_d ?_ ?_; exact byD) | (with_reducible refine side_q ?_ ?_; exact byQ)
      have hO := Open_c u hu who hw size now
      obtain ⟨x, hx⟩ := opened hs25
      rw [hx.out.1, hx.out.2.1, hx.out.2.2] at hO
      have hxo := GoodU_ok hx.goodx
      have hxl := hx.goodx.len
      obtain ⟨hn1, hn2⟩ := hx.hnow
      obtain ⟨hl1, hl2⟩ := hx.good.lasts
      refine cw_m (hO) byW byT ?_
      simp only [go_sem]
      repeat first | (with_reducible refine side_d ?_ ?_; exact byD) | (with_reducible refine side_q ?_ ?_; exact byQ)
      refine cx_seq ?_
      refine cx_sr ?_
      simp only [go_sem]
      repeat first | (with_reducible refine side_d ?_ ?_; exact byD) | (with_reducible refine side_q ?_ ?_; exact byQ)
      intro t30 e30
      repeat first | (with_reducible refine side_d ?_ ?_; exact byD) | (with_reducible refine side_q ?_ ?_; exact byQ)
      subst e30
      refine cx_if _ rfl (fun h30 => no_if h30) (fun h30 => ?_)
      refine cx_skip ?_
      (try simp only [go_sem])
      refine cx_seq ?_
      refine cx_sr ?_
      simp only [go_sem]
      repeat first | (with_reducible refine side_d ?_ ?_; exact byD) | (with_reducible refine side_q ?_ ?_; exact byQ)
      refine cw_m (Query_c x hxo other ho u.next now) byW byT ?_
      simp only [go_sem]
      repeat first | (with_reducible refine side_d ?_ ?_; exact byD) | (with_reducible refine side_q ?_ ?_; exact byQ)
      refine cx_sr ?_
      simp only [go_sem]
      repeat first | (with_reducible refine side_d ?_ ?_; exact byD) | (with_reducible refine side_q ?_ ?_; exact byQ)
      intro t42 e42
      repeat first | (with_reducible refine side_d ?_ ?_; exact byD) | (with_reducible refine side_q ?_ ?_; exact byQ)
      intro t45 e45
      repeat first | (with_reducible refine side_d ?_ ?_; exact byD) | (with_reducible refine side_q ?_ ?_; exact byQ)
      intro t48 e48
      repeat first | (with_reducible refine side_d ?_ ?_; exact byD) | (with_reducible refine side_q ?_ ?_; exact byQ)
      intro t49 e49
      repeat first | (with_reducible refine side_d ?_ ?_; exact byD) | (with_reducible refine side_q ?_ ?_; exact byQ)
      intro t50 e50
      rw [bsel_and] at e50
      repeat first | (with_reducible refine side_d ?_ ?_; exact byD) | (with_reducible refine side_q ?_ ?_; exact byQ)
      subst e42 e45 e48 e49 e50
      refine cx_if _ rfl (fun h50 => ?_) (fun h50 => ?_)
      ·
        (try simp only [go_sem] at h50)
        refine cx_sr ?_
        simp only [go_sem]
        repeat first | (with_reducible refine side_d ?_ ?_; exact byD) | (with_reducible refine side_q ?_ ?_; exact byQ)
        refine cx_ret ?_
        simp only [go_sem]
        exfalso
        rcases hx.other (other := other) with hq | hq
        · exact h50.1 hq
        · exact h50.2 (by rw [decide_eq_decide]; exact hq)
      ·
        (try simp only [go_sem] at h50)
        refine cx_skip ?_
        (try simp only [go_sem])
        refine cx_sr ?_
        simp only [go_sem]
        repeat first | (with_reducible refine side_d ?_ ?_; exact byD) | (with_reducible refine side_q ?_ ?_; exact byQ)
        intro t54 e54
        (try replace e54 := w64 e54 (by omega) (by omega))
        repeat first | (with_reducible refine side_d ?_ ?_; exact byD) | (with_reducible refine side_q ?_ ?_; exact byQ)
        intro t55 e55
        (try replace e55 := w64 e55 (by omega) (by omega))
        repeat first | (with_reducible refine side_d ?_ ?_; exact byD) | (with_reducible refine side_q ?_ ?_; exact byQ)
        subst e54
        subst e55
        refine cx_seq ?_
        refine cx_sr ?_
        simp only [go_sem]
        repeat first | (with_reducible refine side_d ?_ ?_; exact byD) | (with_reducible refine side_q ?_ ?_; exact byQ)
        intro t57 e57
        repeat first | (with_reducible refine side_d ?_ ?_; exact byD) | (with_reducible refine side_q ?_ ?_; exact byQ)
        subst e57
        refine cx_if _ rfl (fun h57 => ?_) (fun h57 => ?_)
        ·
          (try simp only [go_sem] at h57)
          refine cx_sr ?_
          simp only [go_sem]
          repeat first | (with_reducible refine side_d ?_ ?_; exact byD) | (with_reducible refine side_q ?_ ?_; exact byQ)
          refine cx_ret ?_
          simp only [go_sem]
          refine finw_bool ?_
          rfl
        ·
          (try simp only [go_sem] at h57)
          have hla : now + u.lasts + 1 ≤ 1099511627776 := by omega
          have hS := Sweep_ok x hxo (now + u.lasts + 1) (hx.begin (by omega) hla)
          have hy := hx.goodx.swept (now + u.lasts + 1)
          have hyo := GoodU_ok hy
          have hR := RSessAt_c (swept x (now + u.lasts + 1)) hyo.len who u.next
          rw [hx.late] at hR
          have hC := Check_c (swept x (now + u.lasts + 1)) hyo.len (fun s hs => (hyo.2 s hs).1)
          rw [checkU_iff.2 hy] at hC
          have hQ := Query_c x hxo who hw u.next (now + u.lasts + 1)
          rw [hx.gone hla] at hQ
          refine cx_skip ?_
          (try simp only [go_sem])
          refine cx_sr ?_
          simp only [go_sem]
          repeat first | (with_reducible refine side_d ?_ ?_; exact byD) | (with_reducible refine side_q ?_ ?_; exact byQ)
          refine cw_m (hS) byW byT ?_
          simp only [go_sem]
          repeat first | (with_reducible refine side_d ?_ ?_; exact byD) | (with_reducible refine side_q ?_ ?_; exact byQ)
          refine cx_seq ?_
          refine cx_sr ?_
          simp only [go_sem]
          repeat first | (with_reducible refine side_d ?_ ?_; exact byD) | (with_reducible refine side_q ?_ ?_; exact byQ)
          intro t65 e65
          repeat first | (with_reducible refine side_d ?_ ?_; exact byD) | (with_reducible refine side_q ?_ ?_; exact byQ)
          refine ⟨_, fun hp => cw_m (hR) byW byT ⟨rfl, rfl⟩, ?_⟩
          simp only [go_sem]
          repeat first | (with_reducible refine side_d ?_ ?_; exact byD) | (with_reducible refine side_q ?_ ?_; exact byQ)
          intro t71 e71
          repeat first | (with_reducible refine side_d ?_ ?_; exact byD) | (with_reducible refine side_q ?_ ?_; exact byQ)
          intro t72 e72
          rw [bsel_or] at e72
          repeat first | (with_reducible refine side_d ?_ ?_; exact byD) | (with_reducible refine side_q ?_ ?_; exact byQ)
          refine ⟨_, fun hp => cw_m (hC) byW byT ⟨rfl, rfl⟩, ?_⟩
          simp only [go_sem]
          repeat first | (with_reducible refine side_d ?_ ?_; exact byD) | (with_reducible refine side_q ?_ ?_; exact byQ)
          intro t76 e76
          repeat first | (with_reducible refine side_d ?_ ?_; exact byD) | (with_reducible refine side_q ?_ ?_; exact byQ)
          intro t77 e77
          rw [bsel_or] at e77
          repeat first | (with_reducible refine side_d ?_ ?_; exact byD) | (with_reducible refine side_q ?_ ?_; exact byQ)
          subst e65 e71 e72 e76 e77
          refine cx_if _ rfl (fun h77 => ?_) (fun h77 => ?_)
          ·
            (try simp only [go_sem] at h77)
            refine cx_sr ?_
            simp only [go_sem]
            repeat first | (with_reducible refine side_d ?_ ?_; exact byD) | (with_reducible refine side_q ?_ ?_; exact byQ)
            refine cx_ret ?_
            simp only [go_sem]
            simp at h77
          ·
            (try simp only [go_sem] at h77)
            refine cx_skip ?_
            (try simp only [go_sem])
            refine cx_sr ?_
            simp only [go_sem]
            repeat first | (with_reducible refine side_d ?_ ?_; exact byD) | (with_reducible refine side_q ?_ ?_; exact byQ)
            refine cw_m (hQ) byW byT ?_
            simp only [go_sem]
            repeat first | (with_reducible refine side_d ?_ ?_; exact byD) | (with_reducible refine side_q ?_ ?_; exact byQ)
            refine cx_sr ?_
            simp only [go_sem]
            repeat first | (with_reducible refine side_d ?_ ?_; exact byD) | (with_reducible refine side_q ?_ ?_; exact byQ)
            intro t87 e87
            repeat first | (with_reducible refine side_d ?_ ?_; exact byD) | (with_reducible refine side_q ?_ ?_; exact byQ)
            subst e87
            refine cx_ret ?_
            simp only [go_sem]
            refine finw_bool ?_
            simp
    ·
      repeat first | (with_reducible refine side_d ?_ ?_; exact byD) | (with_reducible refine side_q ?_ ?_; exact byQ)
      have hO := Open_c u hu who hw size now
      rw [openU_err hs25] at hO
      refine cw_m (hO) byW byT ?_
      simp only [go_sem]
      repeat first | (with_reducible refine side_d ?_ ?_; exact byD) | (with_reducible refine side_q ?_ ?_; exact byQ)
      refine cx_seq ?_
      refine cx_sr ?_
      simp only [go_sem]
      repeat first | (with_reducible refine side_d ?_ ?_; exact byD) | (with_reducible refine side_q ?_ ?_; exact byQ)
      intro t30 e30
      repeat first | (with_reducible refine side_d ?_ ?_; exact byD) | (with_reducible refine side_q ?_ ?_; exact byQ)
      subst e30
      refine cx_if _ rfl (fun h30 => ?_) (fun h30 => no_if h30)
      refine cx_sr ?_
      simp only [go_sem]
      repeat first | (with_reducible refine side_d ?_ ?_; exact byD) | (with_reducible refine side_q ?_ ?_; exact byQ)
      intro t32 e32
      repeat first | (with_reducible refine side_d ?_ ?_; exact byD) | (with_reducible refine side_q ?_ ?_; exact byQ)
      subst e32
      refine cx_ret ?_
      simp only [go_sem]
      refine finw_bool ?_
      simp
end Go.VM.Try
end
section
set_option linter.unusedVariables false
set_option linter.unusedSimpArgs false
open Go Go.VM Go.Proofs Tether
namespace Go.VM.Try
set_option maxRecDepth 100000
set_option maxHeartbeats 4000000
/-- a number out of so many, by whatever number -/
def chooseF (n m : Int) : Int := (if n < 0 then -(n + 1) else n).tmod m
theorem chooseF_range {n m : Int} (h : 0 < m) : 0 ≤ chooseF n m ∧ chooseF n m < m := by
  unfold chooseF
  split
  · exact ⟨Int.tmod_nonneg _ (by omega), Int.tmod_lt_of_pos _ h⟩
  · exact ⟨Int.tmod_nonneg _ (by omega), Int.tmod_lt_of_pos _ h⟩
theorem choose_c (n m : Int) (h1 : -9223372036854775808 ≤ n) (h2 : n ≤ 9223372036854775807) (h : 0 < m) (h' : m < 9223372036854775808) : Meets Try.prog 30 [.int .i64 n, .int .i64 m] (.int .i64 (chooseF n m)) [] := by
  refine meets_x (fn := Try.f30) Try.func30 rfl fb30 (by kernel_rfl) (Nat.le_of_ble_eq_true rfl) ?_
  refine cx_sr ?_
  simp only [go_sem]
  repeat first | (with_reducible refine side_d ?_ ?_; exact byD) | (with_reducible refine side_q ?_ ?_; exact byQ)
  refine cx_seq ?_
  refine cx_sr ?_
  simp only [go_sem]
  repeat first | (with_reducible refine side_d ?_ ?_; exact byD) | (with_reducible refine side_q ?_ ?_; exact byQ)
  intro t6 e6
  repeat first | (with_reducible refine side_d ?_ ?_; exact byD) | (with_reducible refine side_q ?_ ?_; exact byQ)
  subst e6
  refine cx_if _ rfl (fun h6 => ?_) (fun h6 => ?_)
  ·
    (try simp only [go_sem] at h6)
    refine cx_region ?_
    simp only [go_sem]
    repeat first | (with_reducible refine side_d ?_ ?_; exact byD) | (with_reducible refine side_q ?_ ?_; exact byQ)
    intro t8 e8
    (try replace e8 := w64 e8 (by omega) (by omega))
    repeat first | (with_reducible refine side_d ?_ ?_; exact byD) | (with_reducible refine side_q ?_ ?_; exact byQ)
    intro t9 e9
    repeat first | (with_reducible refine side_d ?_ ?_; exact byD) | (with_reducible refine side_q ?_ ?_; exact byQ)
    refine cx_sr ?_
    simp only [go_sem]
    repeat first | (with_reducible refine side_d ?_ ?_; exact byD) | (with_reducible refine side_q ?_ ?_; exact byQ)
    intro t12 e12
    repeat first | (with_reducible refine side_d ?_ ?_; exact byD) | (with_reducible refine side_q ?_ ?_; exact byQ)
    refine cx_ret ?_
    simp only [go_sem]
    refine finw_int ?_
    have e : t9 = -(n + 1) := by rw [e9, e8, wrap64 (by omega) (by omega)]; omega
    rw [e12, e, chooseF, if_pos h6]
  ·
    (try simp only [go_sem] at h6)
    refine cx_skip ?_
    (try simp only [go_sem])
    refine cx_sr ?_
    simp only [go_sem]
    repeat first | (with_reducible refine side_d ?_ ?_; exact byD) | (with_reducible refine side_q ?_ ?_; exact byQ)
    intro t12 e12
    repeat first | (with_reducible refine side_d ?_ ?_; exact byD) | (with_reducible refine side_q ?_ ?_; exact byQ)
    refine cx_ret ?_
    simp only [go_sem]
    refine finw_int ?_
    rw [e12, chooseF, if_neg h6]
end Go.VM.Try
end
section
set_option linter.unusedVariables false
set_option linter.unusedSimpArgs false
open Go Go.VM
namespace Tether
/-- a session under way -/
def stW (who text : Str) (c : Nat) (till : Int) : Uploads := ⟨[⟨7, who, text.take c, (text.length : Int), till⟩], 8, 10, 1000⟩
theorem stW_good {who text : Str} {c : Nat} {till : Int} (hn : isName who = true) (ht : text.length ≤ 300) (h1 : 13 ≤ till) (h2 : till ≤ 14) : GoodU (stW who text c till) where
  lasts := by simp [stW]
  room := by simp [stW]
  next := by simp [stW]
  len := by simp [stW]
  sess := fun s hs => by
    obtain rfl := List.mem_singleton.1 hs
    rw [sessErr_iff]
    have : wrap ((stW who text c till).next - 1) = 7 := by rw [wrap_id] <;> simp [stW]
    refine ⟨⟨by simp, by rw [this]; simp⟩, ⟨by simp, by simp; omega⟩, ⟨by simp; omega, by simp; omega⟩, hn, ?_⟩
    simp only [List.length_take]; omega
  rise := by simp [stW]
  sums := fun s hs => by
    obtain rfl := List.mem_singleton.1 hs
    simp only [stW, sumW, if_true]; omega
theorem stW_begin {who text : Str} {c : Nat} {till now : Int} (hn : isName who = true) (ht : text.length ≤ 300) (h1 : 13 ≤ till) (h2 : till ≤ 14) (h3 : 0 ≤ now) (h4 : now ≤ 1099511627776) : beginErr (stW who text c till) now = 0 := by
  unfold beginErr
  rw [if_neg (by simpa using checkU_iff.2 (stW_good hn ht h1 h2)), if_neg (by simp [within_iff.2 ⟨h3, h4⟩])]
theorem stW_swept {who text : Str} {c : Nat} {till now : Int} (h : now ≤ till) : swept (stW who text c till) now = stW who text c till := by
  have : ¬ till < now := by omega
  simp [swept, stW, this]
theorem stW_ix {who text : Str} {c : Nat} {till now : Int} (h : now ≤ till) : mineIx (stW who text c till) who 7 now = 0 := by
  unfold mineIx
  rw [stW_swept h]
  simp [idxF, stW, isMine, List.findIdx?_cons]
theorem stW_mine {who text : Str} {c : Nat} {till now : Int} (hn : isName who = true) (ht : text.length ≤ 300) (h1 : 13 ≤ till) (h2 : till ≤ 14) (h3 : 0 ≤ now) (h4 : now ≤ 13) : mineErr (stW who text c till) who 7 now = 0 :=
  mineErr_0 (stW_begin hn ht h1 h2 h3 (by omega)) (by simp [hn]) (by rw [stW_ix (by omega)]; omega)
/-- what is sent anew changes nothing -/
theorem stW_again {who text : Str} {a b : Nat} {till : Int} (hn : isName who = true) (ht : text.length ≤ 300) (h1 : 13 ≤ till) (h2 : till ≤ 14) (hab : a ≤ b) (hb : b ≤ text.length) :
    appendU (stW who text b till) who 7 (a : Int) ((text.take b).drop a) 4 = (stW who text b till, (b : Int), 0) := by
  rw [appendU, if_pos (stW_mine hn ht h1 h2 (by omega) (by omega)), stW_ix (by omega), stW_swept (by omega)]
  have e : ((stW who text b till).ss.getD (0 : Int).toNat default).text = text.take b := rfl
  have el : (text.take b).length = b := by simp [Nat.min_eq_left hb]
  simp only [e]
  rw [if_pos ⟨⟨by omega, by rw [el]; omega⟩, by simp⟩, el]
theorem stW_first {who text : Str} {a b : Nat} {till : Int} (hn : isName who = true) (ht : text.length ≤ 300) (h1 : 13 ≤ till) (h2 : till ≤ 14) (hab : a < b) (hb : b ≤ text.length) :
    appendU (stW who text a till) who 7 (a : Int) ((text.take b).drop a) 4 = (stW who text b 14, (b : Int), 0) := by
  rw [appendU, if_pos (stW_mine hn ht h1 h2 (by omega) (by omega)), stW_ix (by omega), stW_swept (by omega)]
  have e : ((stW who text a till).ss.getD (0 : Int).toNat default).text = text.take a := rfl
  have e2 : ((stW who text a till).ss.getD (0 : Int).toNat default).size = (text.length : Int) := rfl
  have el : (text.take a).length = a := by simp [Nat.min_eq_left (Nat.le_trans (Nat.le_of_lt hab) hb)]
  have ep : ((text.take b).drop a).length = b - a := by simp [Nat.min_eq_left hb]
  have ej : text.take a ++ (text.take b).drop a = text.take b := by
    have : (text.take b).take a = text.take a := by rw [List.take_take, Nat.min_eq_left (Nat.le_of_lt hab)]
    rw [← this]; exact List.take_append_drop a _
  simp only [e, e2]
  rw [if_neg, if_neg (by rw [el]; simp), if_neg (by rw [el, ep]; omega), ej]
  · have el2 : (text.take b).length = b := by simp [Nat.min_eq_left hb]
    rw [el2]
    rfl
  · rintro ⟨-, h⟩
    have := congrArg List.length h
    rw [ep] at this
    simp [el] at this
    omega
theorem stW_open {who text : Str} (hn : isName who = true) (ht : text.length ≤ 300) : openU ⟨[], 7, 10, 1000⟩ who (text.length : Int) 3 = (stW who text 0 13, 7, 0) := by
  have hb : beginErr ⟨[], 7, 10, 1000⟩ 3 = 0 := by decide +kernel
  have he : openErr ⟨[], 7, 10, 1000⟩ who (text.length : Int) 3 = 0 := by
    unfold openErr
    rw [if_neg (by simp [hb]), if_neg (by simp [hn]), if_neg, if_neg (by simp [swept]), if_neg]
    · have : openW (swept ⟨[], 7, 10, 1000⟩ 3).ss who = 0 := rfl
      rw [this, wrap_id (by omega) (by omega)]
      show ¬ (1000 : Int) < 0 + (text.length : Int)
      omega
    · simp only [not_or]
      exact ⟨by simp [within]; omega, by decide⟩
  unfold openU
  rw [if_pos he]
  rfl
theorem stW_query {who text : Str} {till : Int} (hn : isName who = true) (ht : text.length ≤ 300) (h1 : 13 ≤ till) (h2 : till ≤ 14) : queryU (stW who text text.length till) who 7 5 = ((text.length : Int), 0) := by
  rw [queryU, if_pos (stW_mine hn ht h1 h2 (by omega) (by omega)), stW_ix (by omega), stW_swept (by omega)]
  have e : ((stW who text text.length till).ss.getD (0 : Int).toNat default).text = text.take text.length := rfl
  rw [e, List.take_length]
theorem stW_finish {who text : Str} {till : Int} (hn : isName who = true) (ht : text.length ≤ 300) (h1 : 13 ≤ till) (h2 : till ≤ 14) : finishU (stW who text text.length till) who 7 5 = (⟨[], 8, 10, 1000⟩, text, 0) := by
  rw [finishU, if_pos (stW_mine hn ht h1 h2 (by omega) (by omega)), stW_ix (by omega), stW_swept (by omega)]
  have e : ((stW who text text.length till).ss.getD (0 : Int).toNat default).text = text.take text.length := rfl
  have e2 : ((stW who text text.length till).ss.getD (0 : Int).toNat default).size = (text.length : Int) := rfl
  simp only [e, e2, List.take_length]
  rw [if_neg (by omega)]
  rfl
end Tether
end
section
set_option linter.unusedVariables false
set_option linter.unusedSimpArgs false
open Go Go.VM Go.Proofs Tether
namespace Go.VM.Try
set_option maxRecDepth 100000
set_option maxHeartbeats 4000000
def intE (n : Int) : List V := [.int .i64 n]
attribute [go_sem] intE
theorem stW_sent {who text : Str} {a b c k : Nat} {till : Int} (hn : isName who = true) (ht : text.length ≤ 300) (h1 : 13 ≤ till) (h2 : till ≤ 14) (hab : a ≤ b) (hb : b ≤ text.length) (hc : (k = 0 ∧ c = a) ∨ (1 ≤ k ∧ c = b)) :
    ∃ t' : Int, 13 ≤ t' ∧ t' ≤ 14 ∧ appendU (stW who text c till) who 7 (a : Int) ((text.take b).drop a) 4 = (stW who text b t', (b : Int), 0) := by
  rcases hc with ⟨-, rfl⟩ | ⟨-, rfl⟩
  · rcases Nat.eq_or_lt_of_le hab with rfl | hlt
    · exact ⟨till, h1, h2, stW_again hn ht h1 h2 (Nat.le_refl _) hb⟩
    · exact ⟨14, by omega, by omega, stW_first hn ht h1 h2 hlt hb⟩
  · exact ⟨till, h1, h2, stW_again hn ht h1 h2 hab hb⟩
theorem UploadWhole_c (who text : Str) (hw : who.length < 4611686018427387904) (ht : text.length < 4611686018427387904) (cuts : List Int) (hcl : cuts.length < 4611686018427387904) (hc : ∀ n ∈ cuts, -9223372036854775808 ≤ n ∧ n ≤ 9223372036854775807) (twice : Int) (ht1 : -9223372036854775808 ≤ twice) (ht2 : twice ≤ 9223372036854775807) :
    Meets Try.prog 7 [.str who, .str text, lstV 1 intE 0 cuts, .int .i64 twice] (.bool true) [] := by
  refine meets_x (fn := Try.f7) Try.func7 rfl fb7 (by kernel_rfl) (Nat.le_of_ble_eq_true rfl) ?_
  refine cx_sr ?_
  simp only [go_sem]
  repeat first | (with_reducible refine side_d ?_ ?_; exact byD) | (with_reducible refine side_q ?_ ?_; exact byQ)
  refine cx_seq ?_
  refine cx_sr ?_
  simp only [go_sem]
  repeat first | (with_reducible refine side_d ?_ ?_; exact byD) | (with_reducible refine side_q ?_ ?_; exact byQ)
  refine cw_m (uploadBegun_c) byW byT ?_
  simp only [go_sem]
  repeat first | (with_reducible refine side_d ?_ ?_; exact byD) | (with_reducible refine side_q ?_ ?_; exact byQ)
  intro t24 e24
  repeat first | (with_reducible refine side_d ?_ ?_; exact byD) | (with_reducible refine side_q ?_ ?_; exact byQ)
  refine ⟨_, fun hp => cw_m (RIsName_c who hw) byW byT ⟨rfl, rfl⟩, ?_⟩
  simp only [go_sem]
  repeat first | (with_reducible refine side_d ?_ ?_; exact byD) | (with_reducible refine side_q ?_ ?_; exact byQ)
  intro t28 e28
  repeat first | (with_reducible refine side_d ?_ ?_; exact byD) | (with_reducible refine side_q ?_ ?_; exact byQ)
  intro t29 e29
  rw [bsel_or] at e29
  repeat first | (with_reducible refine side_d ?_ ?_; exact byD) | (with_reducible refine side_q ?_ ?_; exact byQ)
  intro t33 e33
  repeat first | (with_reducible refine side_d ?_ ?_; exact byD) | (with_reducible refine side_q ?_ ?_; exact byQ)
  intro t34 e34
  rw [bsel_or] at e34
  repeat first | (with_reducible refine side_d ?_ ?_; exact byD) | (with_reducible refine side_q ?_ ?_; exact byQ)
  subst e24 e28 e29 e33 e34
  refine cx_if _ rfl (fun h34 => ?_) (fun h34 => ?_)
  ·
    (try simp only [go_sem] at h34)
    refine cx_sr ?_
    simp only [go_sem]
    repeat first | (with_reducible refine side_d ?_ ?_; exact byD) | (with_reducible refine side_q ?_ ?_; exact byQ)
    refine cw_m (uploadBegun_c) byW byT ?_
    simp only [go_sem]
    repeat first | (with_reducible refine side_d ?_ ?_; exact byD) | (with_reducible refine side_q ?_ ?_; exact byQ)
    refine cx_ret ?_
    simp only [go_sem]
    exact finw_bool rfl
  ·
    (try simp only [go_sem] at h34)
    have hn : isName who = true := by simpa using h34.1
    have hl : text.length ≤ 300 := by have := h34.2; omega
    have hO := Open_c ⟨[], 7, 10, 1000⟩ ⟨by decide, by simp⟩ who hw (text.length : Int) 3
    rw [stW_open hn hl] at hO
    refine cx_skip ?_
    (try simp only [go_sem])
    refine cx_sr ?_
    simp only [go_sem]
    repeat first | (with_reducible refine side_d ?_ ?_; exact byD) | (with_reducible refine side_q ?_ ?_; exact byQ)
    refine cw_m (hO) byW byT ?_
    simp only [go_sem]
    repeat first | (with_reducible refine side_d ?_ ?_; exact byD) | (with_reducible refine side_q ?_ ?_; exact byQ)
    refine cx_seq ?_
    refine cx_sr ?_
    simp only [go_sem]
    repeat first | (with_reducible refine side_d ?_ ?_; exact byD) | (with_reducible refine side_q ?_ ?_; exact byQ)
    intro t46 e46
    repeat first | (with_reducible refine side_d ?_ ?_; exact byD) | (with_reducible refine side_q ?_ ?_; exact byQ)
    intro t49 e49
    repeat first | (with_reducible refine side_d ?_ ?_; exact byD) | (with_reducible refine side_q ?_ ?_; exact byQ)
    intro t50 e50
    rw [bsel_or] at e50
    repeat first | (with_reducible refine side_d ?_ ?_; exact byD) | (with_reducible refine side_q ?_ ?_; exact byQ)
    subst e46 e49 e50
    refine cx_if _ rfl (fun h50 => no_if h50) (fun h50 => ?_)
    refine cx_skip ?_
    (try simp only [go_sem])
    refine cx_sr ?_
    simp only [go_sem]
    repeat first | (with_reducible refine side_d ?_ ?_; exact byD) | (with_reducible refine side_q ?_ ?_; exact byQ)
    refine cx_seq ?_
    refine cx_sr ?_
    simp only [go_sem]
    repeat first | (with_reducible refine side_d ?_ ?_; exact byD) | (with_reducible refine side_q ?_ ?_; exact byQ)
    refine cx_block ?_
    refine cx_loopk (σ := Nat × Nat × Int) (fun q => (q.1 ≤ 30 ∧ q.1 ≤ cuts.length + 1 ∧ q.2.1 ≤ text.length ∧ 13 ≤ q.2.2 ∧ q.2.2 ≤ 14) ∧ (q.1 = 0 ∨ (q.1 ≤ cuts.length ∧ q.1 ≤ 29) ∨ q.2.1 = text.length)) (fun q => [⟨13, 0, [], .int .i64 (q.1 : Nat)⟩, ⟨12, 0, [], .int .i64 (q.2.1 : Nat)⟩]) [0, 1, 2, 3, 9, 10] (fun q => [.box [ssV (stW who text q.2.1 q.2.2).ss, .int .i64 (stW who text q.2.1 q.2.2).next, .int .i64 (stW who text q.2.1 q.2.2).lasts, .int .i64 (stW who text q.2.1 q.2.2).room]]) (fun q => 30 - q.1) (0, 0, 13) ⟨⟨by dsimp only; omega, by dsimp only; omega, by dsimp only; omega, by dsimp only; omega, by dsimp only; omega⟩, Or.inl rfl⟩ (fun _ => (Nat.zero_le _)) byC (fun q hI1 => ?_)
    simp only [go_sem]
    refine cx_seq ?_
    refine cx_sr ?_
    simp only [go_sem]
    repeat first | (with_reducible refine side_d ?_ ?_; exact byD) | (with_reducible refine side_q ?_ ?_; exact byQ)
    intro t54 e54
    repeat first | (with_reducible refine side_d ?_ ?_; exact byD) | (with_reducible refine side_q ?_ ?_; exact byQ)
    intro t57 e57
    repeat first | (with_reducible refine side_d ?_ ?_; exact byD) | (with_reducible refine side_q ?_ ?_; exact byQ)
    intro t58 e58
    rw [bsel_and] at e58
    repeat first | (with_reducible refine side_d ?_ ?_; exact byD) | (with_reducible refine side_q ?_ ?_; exact byQ)
    subst e54 e57 e58
    refine cx_if _ rfl (fun h58 => ?_) (fun h58 => ?_)
    ·
      (try simp only [go_sem] at h58)
      refine cx_skip ?_
      (try simp only [go_sem])
      refine cx_seq (cx_block ?_)
      refine cx_sr ?_
      simp only [go_sem]
      repeat first | (with_reducible refine side_d ?_ ?_; exact byD) | (with_reducible refine side_q ?_ ?_; exact byQ)
      refine cx_seq ?_
      refine cx_sr ?_
      simp only [go_sem]
      repeat first | (with_reducible refine side_d ?_ ?_; exact byD) | (with_reducible refine side_q ?_ ?_; exact byQ)
      intro t66 e66
      repeat first | (with_reducible refine side_d ?_ ?_; exact byD) | (with_reducible refine side_q ?_ ?_; exact byQ)
      intro t69 e69
      repeat first | (with_reducible refine side_d ?_ ?_; exact byD) | (with_reducible refine side_q ?_ ?_; exact byQ)
      intro t70 e70
      rw [bsel_and] at e70
      repeat first | (with_reducible refine side_d ?_ ?_; exact byD) | (with_reducible refine side_q ?_ ?_; exact byQ)
      subst e66 e69 e70
      refine cx_meet0 (σ := Nat) (fun to => q.2.1 ≤ to ∧ to ≤ text.length ∧ (¬ (q.1 < cuts.length ∧ q.1 < 29) → to = text.length)) (fun to => [⟨14, 0, [], .int .i64 (to : Nat)⟩]) [0, 1, 2, 3, 9, 10, 12, 13] (Nat.zero_le _) ?_ (fun to hIM1 => ?_)
      ·
        refine cx_if _ rfl (fun h70 => ?_) (fun h70 => ?_)
        ·
          (try simp only [go_sem] at h70)
          have hci := hc _ (getD_mem (d := 0) (show q.1 < cuts.length by omega))
          have hCh := choose_c (cuts.getD q.1 0) ((text.length : Int) - q.2.1 + 1) hci.1 hci.2 (by omega) (by omega)
          obtain ⟨hr1, hr2⟩ := chooseF_range (n := cuts.getD q.1 0) (m := (text.length : Int) - q.2.1 + 1) (by omega)
          generalize chooseF (cuts.getD q.1 0) ((text.length : Int) - q.2.1 + 1) = z at hCh hr1 hr2
          refine cx_region ?_
          simp only [go_sem]
          repeat first | (with_reducible refine side_d ?_ ?_; exact byD) | (with_reducible refine side_q ?_ ?_; exact byQ)
          intro t79 e79
          (try replace e79 := w64 e79 (by omega) (by omega))
          repeat first | (with_reducible refine side_d ?_ ?_; exact byD) | (with_reducible refine side_q ?_ ?_; exact byQ)
          intro t80 e80
          (try replace e80 := w64 e80 (by omega) (by omega))
          repeat first | (with_reducible refine side_d ?_ ?_; exact byD) | (with_reducible refine side_q ?_ ?_; exact byQ)
          refine cw_m (hCh) byW byT ?_
          simp only [go_sem]
          repeat first | (with_reducible refine side_d ?_ ?_; exact byD) | (with_reducible refine side_q ?_ ?_; exact byQ)
          intro t82 e82
          (try replace e82 := w64 e82 (by omega) (by omega))
          repeat first | (with_reducible refine side_d ?_ ?_; exact byD) | (with_reducible refine side_q ?_ ?_; exact byQ)
          have hx : t82 = ((q.2.1 + z.toNat : Nat) : Int) := by omega
          refine mt_next (q.2.1 + z.toNat) ⟨by omega, by omega, fun h => absurd h (by simp only [Classical.not_not]; exact ⟨by omega, by omega⟩)⟩ byC
        ·
          (try simp only [go_sem] at h70)
          refine cx_skip ?_
          (try simp only [go_sem])
          refine mt_next text.length ⟨by omega, Nat.le_refl _, fun _ => rfl⟩ byC
      simp only [go_sem]
      refine cx_seq ?_
      refine cx_sr ?_
      simp only [go_sem]
      repeat first | (with_reducible refine side_d ?_ ?_; exact byD) | (with_reducible refine side_q ?_ ?_; exact byQ)
      refine cx_block ?_
      refine cx_loopk (σ := Nat × Nat × Int) (fun p => ((p.1 = 0 ∧ p.2.1 = q.2.1) ∨ (1 ≤ p.1 ∧ p.2.1 = to)) ∧ 13 ≤ p.2.2 ∧ p.2.2 ≤ 14 ∧ p.1 ≤ 3) (fun p => [⟨15, 0, [], .int .i64 (p.1 : Nat)⟩]) [0, 1, 2, 3, 9, 10, 12, 13, 14] (fun p => [.box [ssV (stW who text p.2.1 p.2.2).ss, .int .i64 (stW who text p.2.1 p.2.2).next, .int .i64 (stW who text p.2.1 p.2.2).lasts, .int .i64 (stW who text p.2.1 p.2.2).room]]) (fun p => 4 - p.1) (0, q.2.1, q.2.2) ⟨Or.inl ⟨rfl, rfl⟩, by dsimp only; omega, by dsimp only; omega, by dsimp only; omega⟩ (fun _ => (Nat.zero_le _)) byC (fun p hI2 => ?_)
      simp only [go_sem]
      refine cx_seq ?_
      refine cx_sr ?_
      simp only [go_sem]
      repeat first | (with_reducible refine side_d ?_ ?_; exact byD) | (with_reducible refine side_q ?_ ?_; exact byQ)
      refine cw_m (choose_c twice 3 ht1 ht2 (by omega) (by omega)) byW byT ?_
      simp only [go_sem]
      repeat first | (with_reducible refine side_d ?_ ?_; exact byD) | (with_reducible refine side_q ?_ ?_; exact byQ)
      intro t86 e86
      repeat first | (with_reducible refine side_d ?_ ?_; exact byD) | (with_reducible refine side_q ?_ ?_; exact byQ)
      subst e86
      refine cx_if _ rfl (fun h86 => ?_) (fun h86 => ?_)
      ·
        (try simp only [go_sem] at h86)
        obtain ⟨t', ht'1, ht'2, hA0⟩ := stW_sent hn hl hI2.2.1 hI2.2.2.1 hIM1.1 hIM1.2.1 hI2.1
        have hp := stW_good (c := p.2.1) (till := p.2.2) hn hl hI2.2.1 hI2.2.2.1
        have hA := Append_c (stW who text p.2.1 p.2.2) (GoodU_ok hp) who hw 7 (q.2.1 : Int) ((text.take to).drop q.2.1) (by simp; omega) 4
        rw [hA0] at hA
        refine cx_skip ?_
        (try simp only [go_sem])
        refine cx_seq (cx_block ?_)
        refine cx_seq (cx_draw mixed [14] (.first 0 (.first 1 (.first 2 (.first 3 (.first 4 (.first 5 (.first 6 (.first 7 (.alt 8 (.first 9 (.first 10 (.first 11 (.first 12 (.one 13 (.one 14 (.first 15 (.first 16 (.done))))))))) (.one 13 (.one 8 (.first 9 (.first 10 (.first 11 (.first 12 (.one 14 (.first 15 (.first 16 (.done))))))))))))))))))) (by kernel_rfl) ?_)
        simp only [go_sem]
        repeat first | (with_reducible refine side_d ?_ ?_; exact byD) | (with_reducible refine side_q ?_ ?_; exact byQ)
        refine ⟨?_, ?_⟩
        ·
          repeat first | (with_reducible refine side_d ?_ ?_; exact byD) | (with_reducible refine side_q ?_ ?_; exact byQ)
          refine cwE_m (hA) byW byT ?_
          simp only [go_sem]
          repeat first | (with_reducible refine side_d ?_ ?_; exact byD) | (with_reducible refine side_q ?_ ?_; exact byQ)
          refine cx_seq ?_
          refine cx_sr ?_
          simp only [go_sem]
          repeat first | (with_reducible refine side_d ?_ ?_; exact byD) | (with_reducible refine side_q ?_ ?_; exact byQ)
          intro t103 e103
          repeat first | (with_reducible refine side_d ?_ ?_; exact byD) | (with_reducible refine side_q ?_ ?_; exact byQ)
          intro t107 e107
          repeat first | (with_reducible refine side_d ?_ ?_; exact byD) | (with_reducible refine side_q ?_ ?_; exact byQ)
          intro t108 e108
          rw [bsel_or] at e108
          repeat first | (with_reducible refine side_d ?_ ?_; exact byD) | (with_reducible refine side_q ?_ ?_; exact byQ)
          subst e103 e107 e108
          refine cx_if _ rfl (fun h108 => ?_) (fun h108 => ?_)
          ·
            (try simp only [go_sem] at h108)
            refine cx_sr ?_
            simp only [go_sem]
            repeat first | (with_reducible refine side_d ?_ ?_; exact byD) | (with_reducible refine side_q ?_ ?_; exact byQ)
            refine cx_ret ?_
            simp only [go_sem]
            simp at h108
          ·
            (try simp only [go_sem] at h108)
            refine cx_skip ?_
            (try simp only [go_sem])
            refine cx_region ?_
            simp only [go_sem]
            repeat first | (with_reducible refine side_d ?_ ?_; exact byD) | (with_reducible refine side_q ?_ ?_; exact byQ)
            refine cx_region ?_
            simp only [go_sem]
            repeat first | (with_reducible refine side_d ?_ ?_; exact byD) | (with_reducible refine side_q ?_ ?_; exact byQ)
            intro t88 e88
            (try replace e88 := w64 e88 (by omega) (by omega))
            repeat first | (with_reducible refine side_d ?_ ?_; exact byD) | (with_reducible refine side_q ?_ ?_; exact byQ)
            have hz := chooseF_range (n := twice) (m := 3) (by omega)
            refine rnd_next (p.1 + 1, to, t') ⟨Or.inr ⟨by dsimp only; omega, rfl⟩, ht'1, ht'2, by dsimp only; omega⟩ (by first | omega | (dsimp only; omega)) byC
        ·
          repeat first | (with_reducible refine side_d ?_ ?_; exact byD) | (with_reducible refine side_q ?_ ?_; exact byQ)
          refine cwE_m (hA) byW byT ?_
          simp only [go_sem]
          repeat first | (with_reducible refine side_d ?_ ?_; exact byD) | (with_reducible refine side_q ?_ ?_; exact byQ)
          refine cx_seq ?_
          refine cx_sr ?_
          simp only [go_sem]
          repeat first | (with_reducible refine side_d ?_ ?_; exact byD) | (with_reducible refine side_q ?_ ?_; exact byQ)
          intro t103 e103
          repeat first | (with_reducible refine side_d ?_ ?_; exact byD) | (with_reducible refine side_q ?_ ?_; exact byQ)
          intro t107 e107
          repeat first | (with_reducible refine side_d ?_ ?_; exact byD) | (with_reducible refine side_q ?_ ?_; exact byQ)
          intro t108 e108
          rw [bsel_or] at e108
          repeat first | (with_reducible refine side_d ?_ ?_; exact byD) | (with_reducible refine side_q ?_ ?_; exact byQ)
          subst e103 e107 e108
          refine cx_if _ rfl (fun h108 => ?_) (fun h108 => ?_)
          ·
            (try simp only [go_sem] at h108)
            refine cx_sr ?_
            simp only [go_sem]
            repeat first | (with_reducible refine side_d ?_ ?_; exact byD) | (with_reducible refine side_q ?_ ?_; exact byQ)
            refine cx_ret ?_
            simp only [go_sem]
            simp at h108
          ·
            (try simp only [go_sem] at h108)
            refine cx_skip ?_
            (try simp only [go_sem])
            refine cx_region ?_
            simp only [go_sem]
            repeat first | (with_reducible refine side_d ?_ ?_; exact byD) | (with_reducible refine side_q ?_ ?_; exact byQ)
            refine cx_region ?_
            simp only [go_sem]
            repeat first | (with_reducible refine side_d ?_ ?_; exact byD) | (with_reducible refine side_q ?_ ?_; exact byQ)
            intro t88 e88
            (try replace e88 := w64 e88 (by omega) (by omega))
            repeat first | (with_reducible refine side_d ?_ ?_; exact byD) | (with_reducible refine side_q ?_ ?_; exact byQ)
            have hz := chooseF_range (n := twice) (m := 3) (by omega)
            refine rnd_next (p.1 + 1, to, t') ⟨Or.inr ⟨by dsimp only; omega, rfl⟩, ht'1, ht'2, by dsimp only; omega⟩ (by first | omega | (dsimp only; omega)) byC
      ·
        (try simp only [go_sem] at h86)
        have hpe : p.2.1 = to := by
          obtain ⟨hz1, hz2⟩ := chooseF_range (n := twice) (m := 3) (by omega)
          rcases hI2.1 with h | h
          · omega
          · exact h.2
        refine cx_exit ?_
        simp only [go_sem]
        refine cx_region ?_
        simp only [go_sem]
        repeat first | (with_reducible refine side_d ?_ ?_; exact byD) | (with_reducible refine side_q ?_ ?_; exact byQ)
        refine cx_region ?_
        simp only [go_sem]
        repeat first | (with_reducible refine side_d ?_ ?_; exact byD) | (with_reducible refine side_q ?_ ?_; exact byQ)
        intro t60 e60
        (try replace e60 := w64 e60 (by omega) (by omega))
        repeat first | (with_reducible refine side_d ?_ ?_; exact byD) | (with_reducible refine side_q ?_ ?_; exact byQ)
        refine rnd_next (q.1 + 1, p.2.1, p.2.2) ⟨⟨by dsimp only; omega, by dsimp only; omega, by dsimp only; omega, hI2.2.1, hI2.2.2.1⟩, ?_⟩ (by first | omega | (dsimp only; omega)) byC
        dsimp only
        by_cases hq : q.1 < cuts.length ∧ q.1 < 29
        · exact Or.inr (Or.inl ⟨by omega, by omega⟩)
        · exact Or.inr (Or.inr (by rw [hpe]; exact hIM1.2.2 hq))
    ·
      (try simp only [go_sem] at h58)
      have hqe : q.2.1 = text.length := by omega
      have hq0 := hI1.1
      have hQ := Query_c (stW who text q.2.1 q.2.2) (GoodU_ok (stW_good hn hl hq0.2.2.2.1 hq0.2.2.2.2)) who hw 7 5
      have hF := Finish_c (stW who text q.2.1 q.2.2) (GoodU_ok (stW_good hn hl hq0.2.2.2.1 hq0.2.2.2.2)) who hw 7 5
      rw [show queryU (stW who text q.2.1 q.2.2) who 7 5 = ((text.length : Int), 0) by rw [hqe]; exact stW_query hn hl hq0.2.2.2.1 hq0.2.2.2.2] at hQ
      rw [show finishU (stW who text q.2.1 q.2.2) who 7 5 = (⟨[], 8, 10, 1000⟩, text, 0) by rw [hqe]; exact stW_finish hn hl hq0.2.2.2.1 hq0.2.2.2.2] at hF
      refine cx_exit ?_
      simp only [go_sem]
      refine cx_sr ?_
      simp only [go_sem]
      repeat first | (with_reducible refine side_d ?_ ?_; exact byD) | (with_reducible refine side_q ?_ ?_; exact byQ)
      refine cw_m (hQ) byW byT ?_
      simp only [go_sem]
      repeat first | (with_reducible refine side_d ?_ ?_; exact byD) | (with_reducible refine side_q ?_ ?_; exact byQ)
      refine cx_sr ?_
      simp only [go_sem]
      repeat first | (with_reducible refine side_d ?_ ?_; exact byD) | (with_reducible refine side_q ?_ ?_; exact byQ)
      refine cw_m (hF) byW byT ?_
      simp only [go_sem]
      repeat first | (with_reducible refine side_d ?_ ?_; exact byD) | (with_reducible refine side_q ?_ ?_; exact byQ)
      refine cx_sr ?_
      simp only [go_sem]
      repeat first | (with_reducible refine side_d ?_ ?_; exact byD) | (with_reducible refine side_q ?_ ?_; exact byQ)
      intro t127 e127
      repeat first | (with_reducible refine side_d ?_ ?_; exact byD) | (with_reducible refine side_q ?_ ?_; exact byQ)
      intro t130 e130
      repeat first | (with_reducible refine side_d ?_ ?_; exact byD) | (with_reducible refine side_q ?_ ?_; exact byQ)
      intro t131 e131
      rw [bsel_and] at e131
      repeat first | (with_reducible refine side_d ?_ ?_; exact byD) | (with_reducible refine side_q ?_ ?_; exact byQ)
      intro t136 e136
      repeat first | (with_reducible refine side_d ?_ ?_; exact byD) | (with_reducible refine side_q ?_ ?_; exact byQ)
      intro t137 e137
      rw [bsel_and] at e137
      repeat first | (with_reducible refine side_d ?_ ?_; exact byD) | (with_reducible refine side_q ?_ ?_; exact byQ)
      intro t141 e141
      repeat first | (with_reducible refine side_d ?_ ?_; exact byD) | (with_reducible refine side_q ?_ ?_; exact byQ)
      intro t142 e142
      rw [bsel_and] at e142
      repeat first | (with_reducible refine side_d ?_ ?_; exact byD) | (with_reducible refine side_q ?_ ?_; exact byQ)
      subst e127 e130 e131 e136 e137 e141 e142
      refine cx_ret ?_
      simp only [go_sem]
      exact finw_bool (by simp)
end Go.VM.Try
end
