import Derived.Test.YtbmgjdklflaboaaDoorEW5
import Derived.Test.YtbmgjdklflaboaaDoorEV7
set_option maxHeartbeats 4000000
set_option linter.unusedVariables false
set_option linter.unusedSimpArgs false
open Go Go.VM Go.Proofs Tether
namespace Go.VM.Tryd
set_option maxRecDepth 100000
theorem opRun_num : ∀ (l : List Commit) (t : List Entry) (n : Int), (opRun t n l).2 = 0 → ∀ i, i < l.length → (l.getD i default).number = n + i
  | [], t, n, h, i, hi => by simp at hi
  | c :: r, t, n, h, i, hi => by
    rw [opRun] at h
    by_cases h1 : comErr n c ≠ 0
    · rw [if_pos h1] at h; exact absurd h h1
    · rw [if_neg h1] at h
      by_cases h2 : (allP t c.changes n).2.2 ≠ 0
      · rw [if_pos h2] at h; exact absurd h h2
      · rw [if_neg h2] at h
        cases i with
        | zero =>
          have : comErr n c = 0 := Classical.not_not.1 h1
          unfold comErr at this
          have : c.number = n := by grind
          simp [this]
        | succ i =>
          have := opRun_num r _ _ h i (by simpa using hi)
          simp only [List.getD_cons_succ]
          omega
theorem openP_num {j : Journal} (h : (openP j).2 = 0) : ∀ i, i < j.commits.length → (j.commits.getD i default).number = j.first + i := by
  refine opRun_num j.commits j.base j.first ?_
  unfold openP at h
  grind
def gotP (j : Journal) (cur : Int) (i : Nat) : List Commit := (j.commits.take i).drop (cur - j.first + 1).toNat
theorem got_next {j : Journal} {cur : Int} {i : Nat} (hi : i < j.commits.length) : gotP j cur (i + 1) = if (cur - j.first + 1).toNat ≤ i then gotP j cur i ++ [j.commits.getD i default] else gotP j cur i := by
  have hd : j.commits.getD i default = j.commits[i] := by simp [List.getD, hi]
  have ht : j.commits.take (i + 1) = j.commits.take i ++ [j.commits.getD i default] := by rw [hd, List.take_add_one, List.getElem?_eq_getElem hi]; rfl
  unfold gotP
  rw [ht]
  split
  · rw [List.drop_append_of_le_length (by simp; omega)]
  · rw [List.drop_eq_nil_of_le (by simp; omega), List.drop_eq_nil_of_le (by simp; omega)]
theorem got_zero (j : Journal) (cur : Int) : gotP j cur 0 = [] := by simp [gotP]
attribute [go_sem] got_zero
theorem got_len {j : Journal} {cur : Int} {i : Nat} (hi : i ≤ j.commits.length) : (gotP j cur i).length = i - (cur - j.first + 1).toNat := by
  simp [gotP]; omega
theorem got_rest {j : Journal} {cur most : Int} {i : Nat} (hi : i ≤ j.commits.length) (h1 : (gotP j cur i).length ≤ most.toNat) (h2 : i = j.commits.length ∨ most.toNat ≤ (gotP j cur i).length) : gotP j cur i = restP j cur most := by
  have hl := got_len (j := j) (cur := cur) hi
  unfold gotP restP at *
  rw [List.drop_take] at *
  rcases h2 with h2 | h2
  · subst h2
    rw [List.take_of_length_le (by simp), List.take_of_length_le (by simp at h1 ⊢; omega)]
  · rw [hl] at h1 h2
    rw [show i - (cur - j.first + 1).toNat = most.toNat by omega]
set_option maxHeartbeats 4000000 in
theorem ReadOf_c (j : Journal) (cur most : Int) (ok : okJ j) (h0 : (openP j).2 = 0) : Meets Tryd.prog 18 [.agg (jnE j), .int .i64 cur, .int .i64 most] (.tup [.agg (pgE (readP j cur most).1), .int .i64 (readP j cur most).2]) [] := by
  refine meets_x (fn := Tryd.f18) Tryd.func18 rfl fb18 (by kernel_rfl) (Nat.le_of_ble_eq_true rfl) ?_
  have hbl := ok.1.1
  have hcl := ok.2.1
  obtain ⟨hr1, hr2, hr3⟩ := openP_rng h0
  have hfl := (openP_ok ok h0).len
  have hnum := openP_num h0
  have hR : readP j cur most = if most < 1 ∨ 10 < most ∨ cur < 0 then (noG, 3) else if j.first + j.commits.length - 1 < cur then (noG, 5)
      else if cur < j.first - 1 then (⟨true, (openP j).1, [], j.first + j.commits.length - 1, false⟩, 0)
      else (⟨false, [], restP j cur most, cur + (restP j cur most).length, decide (cur + (restP j cur most).length < j.first + j.commits.length - 1)⟩, 0) := by
    rw [readP, if_neg (by simpa using h0)]
  refine cx_sr ?_
  simp only [go_sem]
  repeat first | (with_reducible refine side_d ?_ ?_; exact byD) | (with_reducible refine side_q ?_ ?_; exact byQ)
  refine cx_sr ?_
  simp only [go_sem]
  intro t16 e16
  (try replace e16 := w64 e16 (by omega) (by omega))
  intro t17 e17
  (try replace e17 := w64 e17 (by omega) (by omega))
  obtain rfl : t17 = j.first + j.commits.length - 1 := by omega
  refine cx_seq ?_
  refine cx_sr ?_
  simp only [go_sem]
  intro t19 e19
  intro t22 e22
  intro t23 e23
  rw [bsel_or] at e23
  intro t26 e26
  intro t27 e27
  rw [bsel_or] at e27
  subst e19 e22 e23 e26 e27
  refine cx_if _ rfl (fun h27 => ?_) (fun h27 => ?_)
  ·
   (try simp only [go_sem] at h27)
   refine cx_sr ?_
   simp only [go_sem]
   refine cx_ret ?_
   simp only [go_sem]
   rw [hR, if_pos (by omega)]
   exact finx_of 2 [] rfl byC byC byC byC
  ·
   (try simp only [go_sem] at h27)
   refine cx_skip ?_
   (try simp only [go_sem])
   refine cx_seq ?_
   refine cx_sr ?_
   simp only [go_sem]
   intro t31 e31
   subst e31
   refine cx_if _ rfl (fun h31 => ?_) (fun h31 => ?_)
   ·
    (try simp only [go_sem] at h31)
    refine cx_sr ?_
    simp only [go_sem]
    refine cx_ret ?_
    simp only [go_sem]
    rw [hR, if_neg (by omega), if_pos h31]
    exact finx_of 2 [] rfl byC byC byC byC
   ·
    (try simp only [go_sem] at h31)
    refine cx_skip ?_
    (try simp only [go_sem])
    refine cx_seq ?_
    refine cx_sr ?_
    simp only [go_sem]
    intro t34 e34
    (try replace e34 := w64 e34 (by omega) (by omega))
    intro t37 e37
    subst e37
    refine cx_if _ rfl (fun h37 => ?_) (fun h37 => ?_)
    ·
     (try simp only [go_sem] at h37)
     refine cx_sr ?_
     simp only [go_sem]
     refine cw_m (TreeOf_c j ok h0) byW byT ?_
     simp only [go_sem]
     refine cx_ret ?_
     simp only [go_sem]
     rw [hR, if_neg (by omega), if_neg h31, if_pos (by omega)]
     exact finx_of 2 [] rfl byC byC byC byC
    ·
     (try simp only [go_sem] at h37)
     refine cx_skip ?_
     (try simp only [go_sem])
     refine cx_sr ?_
     simp only [go_sem]
     refine cx_virtB 2 2 3 (En cmE default []) _ rfl rfl ?_
     simp only [go_sem]
     refine cx_seq ?_
     refine cx_sr ?_
     simp only [go_sem]
     refine cx_block ?_
     refine cx_loopk (σ := Nat) (fun i => i ≤ j.commits.length ∧ (gotP j cur i).length ≤ most.toNat) (fun i => [⟨10, 0, [], .int .i64 (i : Nat)⟩]) [1, 2, 3, 6, 7, 8, 9] (fun i => [.box (jnE j), .box [.bad, .bad, .bad, .bad, .bad], .box [.bool false, .nil, .own none 3 3 0 (gotP j cur i).length .loose, .int .i64 (cur + (gotP j cur i).length), .bool false], .arr 3 (gotP j cur i).length (En cmE default (gotP j cur i))]) (fun i => j.commits.length - i) 0 ⟨Nat.zero_le _, by simp [gotP]⟩ (fun _ => (Nat.zero_le _)) byC (fun i hI1 => ?_)
     simp only [go_sem]
     refine cx_seq ?_
     refine cx_sr ?_
     simp only [go_sem]
     repeat first | (with_reducible refine side_d ?_ ?_; exact byD) | (with_reducible refine side_q ?_ ?_; exact byQ)
     intro t48 e48
     intro t54 e54
     intro t55 e55
     rw [bsel_and] at e55
     subst e48 e54 e55
     refine cx_if _ rfl (fun h55 => ?_) (fun h55 => ?_)
     ·
      (try simp only [go_sem] at h55)
      have hgn := got_next (j := j) (cur := cur) (i := i) (by omega)
      have hni := hnum i (by omega)
      have hgl := got_len (j := j) (cur := cur) (i := i) (by omega)
      refine cx_skip ?_
      (try simp only [go_sem])
      refine cx_seq (cx_block ?_)
      refine cx_sr ?_
      simp only [go_sem]
      repeat first | (with_reducible refine side_d ?_ ?_; exact byD) | (with_reducible refine side_q ?_ ?_; exact byQ)
      intro t65 e65
      subst e65
      refine cx_if _ rfl (fun h65 => ?_) (fun h65 => ?_)
      ·
       (try simp only [go_sem] at h65)
       refine cx_seq (cx_drawZ mixed [0] [8, 10] (.firstZ 0 (.firstZ 2 (.firstZ 3 (.firstZ 4 (.firstZ 5 (.firstZ 6 (.first 1 (.one 7 (.one 8 (.firstZ 9 (.one 10 (.done)))))))))))) (by kernel_rfl) ?_)
       simp only [go_sem]
       repeat first | (with_reducible refine side_d ?_ ?_; exact byD) | (with_reducible refine side_q ?_ ?_; exact byQ)
       refine cx_region ?_
       simp only [go_sem]
       repeat first | (with_reducible refine side_d ?_ ?_; exact byD) | (with_reducible refine side_q ?_ ?_; exact byQ)
       refine cx_region ?_
       simp only [go_sem]
       intro t57 e57
       (try replace e57 := w64 e57 (by omega) (by omega))
       rw [if_pos (by omega)] at hgn
       have hgl2 : (gotP j cur (i + 1)).length = (gotP j cur i).length + 1 := by rw [hgn]; simp
       refine rnd_nextr (i + 1) [0, 1, 2, 5] ⟨by omega, by omega⟩ (by first | omega | (dsimp only; omega)) ⟨rfl, rfl, ?_, ?_⟩
       · (try rw [hgn]); exact byC
       · rw [hgn]; skip
         simp only [go_sem, wk, wks, wkB, wkH, List.length_append, List.length_cons, List.length_nil]
         first | exact fun q hq => wks_mp_snoc (fun x => rnVs_no _ rfl) (by rfl) hq | (and_intros <;> first | trivial | rfl | omega | (exact fun q hq => wks_mp_snoc (fun x => rnVs_no _ rfl) (by rfl) hq) | exact wks_refl _ | exact byC)
      ·
       (try simp only [go_sem] at h65)
       refine cx_skip ?_
       (try simp only [go_sem])
       refine cx_region ?_
       simp only [go_sem]
       intro t57 e57
       (try replace e57 := w64 e57 (by omega) (by omega))
       rw [if_neg (by omega)] at hgn
       refine rnd_next (i + 1) ⟨by omega, by rw [hgn]; exact hI1.2⟩ (by first | omega | (dsimp only; omega)) ?_
       rw [hgn]
       exact byC
     ·
      (try simp only [go_sem] at h55)
      refine cx_exit ?_
      simp only [go_sem]
      refine cx_sr ?_
      simp only [go_sem]
      intro t86 e86
      subst e86
      refine cx_sr ?_
      simp only [go_sem]
      refine cx_ret ?_
      simp only [go_sem]
      have hrest := got_rest (j := j) (cur := cur) (most := most) hI1.1 hI1.2 (by omega)
      rw [hR, if_neg (by omega), if_neg h31, if_neg (by omega), ← hrest]
      exact finx_of 2 [] rfl byC byC byC byC
theorem cm_ext {a b : Commit} (h1 : a.number = b.number) (h2 : a.key = b.key) (h3 : a.changes = b.changes) : a = b := by
  cases a; cases b
  simp only at h1 h2 h3
  rw [h1, h2, h3]
theorem SameCommits_c (a b : List Commit) (oka : okMs a) (okb : okMs b) : Meets Tryd.prog 44 [cmsV a, cmsV b] (.bool (sameL a b)) [] := by
  refine meets_x (fn := Tryd.f44) Tryd.func44 rfl fb44 (by kernel_rfl) (Nat.le_of_ble_eq_true rfl) ?_
  have hal := oka.1
  have hbl := okb.1
  refine cx_sr ?_
  simp only [go_sem]
  repeat first | (with_reducible refine side_d ?_ ?_; exact byD) | (with_reducible refine side_q ?_ ?_; exact byQ)
  refine cx_seq ?_
  refine cx_sr ?_
  simp only [go_sem]
  intro t10 e10
  subst e10
  refine cx_if _ rfl (fun h10 => ?_) (fun h10 => ?_)
  ·
   (try simp only [go_sem] at h10)
   refine cx_sr ?_
   simp only [go_sem]
   refine cx_ret ?_
   simp only [go_sem]
   refine finw_bool ?_
   have : a ≠ b := fun e => by subst e; exact h10 rfl
   simp [sameL, this]
  ·
   (try simp only [go_sem] at h10)
   refine cx_skip ?_
   (try simp only [go_sem])
   refine cx_seq ?_
   refine cx_sr ?_
   simp only [go_sem]
   refine cx_block ?_
   refine cx_loop0 (σ := Nat) (fun i => i ≤ a.length ∧ ∀ j, j < i → a.getD j default = b.getD j default) (fun i => [⟨5, 0, [], .int .i64 (i : Nat)⟩]) [0, 1] (fun i => a.length - i) 0 ⟨Nat.zero_le _, fun j hj => absurd hj (Nat.not_lt_zero j)⟩ (Nat.zero_le _) byC (fun i hI1 => ?_)
   simp only [go_sem]
   refine cx_seq ?_
   refine cx_sr ?_
   simp only [go_sem]
   repeat first | (with_reducible refine side_d ?_ ?_; exact byD) | (with_reducible refine side_q ?_ ?_; exact byQ)
   intro t14 e14
   subst e14
   refine cx_if _ rfl (fun h14 => ?_) (fun h14 => ?_)
   ·
    (try simp only [go_sem] at h14)
    have hca := (oka.2 _ (getD_mem (l := a) (i := i) (d := default) (by omega))).2.1
    have hcb := (okb.2 _ (getD_mem (l := b) (i := i) (d := default) (by omega))).2.1
    refine cx_skip ?_
    (try simp only [go_sem])
    refine cx_seq (cx_block ?_)
    refine cx_seq (cx_draw mixed [] (.first 0 (.first 1 (.first 2 (.first 3 (.first 4 (.first 5 (.first 6 (.first 7 (.first 8 (.first 9 (.first 10 (.first 11 (.first 12 (.first 13 (.first 14 (.first 15 (.first 16 (.first 17 (.first 18 (.first 19 (.first 20 (.first 21 (.first 22 (.first 23 (.first 24 (.first 25 (.first 26 (.first 27 (.first 28 (.first 29 (.first 30 (.first 31 (.first 32 (.first 33 (.first 34 (.one 35 (.first 36 (.first 37 (.done))))))))))))))))))))))))))))))))))))))) (by kernel_rfl) ?_)
    simp only [go_sem]
    repeat first | (with_reducible refine side_d ?_ ?_; exact byD) | (with_reducible refine side_q ?_ ?_; exact byQ)
    intro t27 e27
    repeat first | (with_reducible refine side_d ?_ ?_; exact byD) | (with_reducible refine side_q ?_ ?_; exact byQ)
    intro t39 e39
    intro t40 e40
    rw [bsel_or] at e40
    repeat first | (with_reducible refine side_d ?_ ?_; exact byD) | (with_reducible refine side_q ?_ ?_; exact byQ)
    refine ⟨_, fun hp => cwE_m (SameChanges_c (a.getD i default).changes (b.getD i default).changes (by omega) (by omega)) byW byT ⟨rfl, rfl⟩, ?_⟩
    simp only [go_sem]
    intro t53 e53
    intro t54 e54
    rw [bsel_or] at e54
    subst e27 e39 e40 e53 e54
    refine cx_if _ rfl (fun h54 => ?_) (fun h54 => ?_)
    ·
     (try simp only [go_sem] at h54)
     refine cx_sr ?_
     simp only [go_sem]
     refine cx_ret ?_
     simp only [go_sem]
     refine finw_bool ?_
     have : a ≠ b := fun e => by
       subst e
       simp [sameL] at h54
     simp [sameL, this]
    ·
     (try simp only [go_sem] at h54)
     refine cx_skip ?_
     (try simp only [go_sem])
     refine cx_region ?_
     simp only [go_sem]
     intro t16 e16
     (try replace e16 := w64 e16 (by omega) (by omega))
     have hk : a.getD i default = b.getD i default := by
       simp only [sameL] at h54
       refine cm_ext ?_ ?_ ?_ <;> simp_all
     refine rnd_next (i + 1) ⟨by omega, all_next hI1.2 hk⟩ (by first | omega | (dsimp only; omega)) byC
   ·
    (try simp only [go_sem] at h14)
    refine cx_exit ?_
    simp only [go_sem]
    refine cx_sr ?_
    simp only [go_sem]
    refine cx_ret ?_
    simp only [go_sem]
    refine finw_bool ?_
    have : a = b := list_eq_of (d := default) (by omega) (fun j hj => hI1.2 j (by omega))
    simp [sameL, this]
theorem SameJournal_c (a b : Journal) (oka : okJ a) (okb : okJ b) : Meets Tryd.prog 16 [.agg (jnE a), .agg (jnE b)] (.bool (decide (a = b))) [] := by
  refine meets_x (fn := Tryd.f16) Tryd.func16 rfl fb16 (by kernel_rfl) (Nat.le_of_ble_eq_true rfl) ?_
  have hal := oka.1.1
  have hbl := okb.1.1
  refine cx_sr ?_
  simp only [go_sem]
  repeat first | (with_reducible refine side_d ?_ ?_; exact byD) | (with_reducible refine side_q ?_ ?_; exact byQ)
  refine cx_sr ?_
  simp only [go_sem]
  refine cw_m (SameEntries_c a.base b.base (by omega) (by omega)) byW byT ?_
  simp only [go_sem]
  intro t15 e15
  intro t16 e16
  rw [bsel_and] at e16
  refine ⟨_, fun hp => cw_m (SameCommits_c a.commits b.commits oka.2 okb.2) byW byT ⟨rfl, rfl⟩, ?_⟩
  simp only [go_sem]
  intro t23 e23
  rw [bsel_and] at e23
  subst e15 e16 e23
  refine cx_ret ?_
  simp only [go_sem]
  refine finw_bool ?_
  rcases a with ⟨a1, a2, a3⟩
  rcases b with ⟨b1, b2, b3⟩
  simp [sameL, Bool.and_assoc]
theorem SamePage_c (a b : Page) (oka : okG a) (okb : okG b) : Meets Tryd.prog 19 [.agg (pgE a), .agg (pgE b)] (.bool (decide (a = b))) [] := by
  refine meets_x (fn := Tryd.f19) Tryd.func19 rfl fb19 (by kernel_rfl) (Nat.le_of_ble_eq_true rfl) ?_
  have hal := oka.1.1
  have hbl := okb.1.1
  refine cx_sr ?_
  simp only [go_sem]
  repeat first | (with_reducible refine side_d ?_ ?_; exact byD) | (with_reducible refine side_q ?_ ?_; exact byQ)
  refine cx_sr ?_
  simp only [go_sem]
  intro t9 e9
  refine ⟨_, fun hp => cw_m (SameEntries_c a.tree b.tree (by omega) (by omega)) byW byT ⟨rfl, rfl⟩, ?_⟩
  simp only [go_sem]
  intro t16 e16
  rw [bsel_and] at e16
  refine ⟨_, fun hp => cw_m (SameCommits_c a.commits b.commits oka.2 okb.2) byW byT ⟨rfl, rfl⟩, ?_⟩
  simp only [go_sem]
  intro t23 e23
  rw [bsel_and] at e23
  intro t29 e29
  intro t30 e30
  rw [bsel_and] at e30
  intro t36 e36
  intro t37 e37
  rw [bsel_and] at e37
  subst e9 e16 e23 e29 e30 e36 e37
  refine cx_ret ?_
  simp only [go_sem]
  refine finw_bool ?_
  rcases a with ⟨a1, a2, a3, a4, a5⟩
  rcases b with ⟨b1, b2, b3, b4, b5⟩
  simp [sameL, Bool.and_assoc]
end Go.VM.Tryd
