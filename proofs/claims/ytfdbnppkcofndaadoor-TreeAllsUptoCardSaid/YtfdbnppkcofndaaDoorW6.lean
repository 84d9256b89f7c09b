import Derived.Test.YtfdbnppkcofndaaDoorW5
section
set_option linter.unusedVariables false
set_option linter.unusedSimpArgs false
open Go Go.VM Go.Proofs Tether
namespace Go.VM.Tryd
set_option maxRecDepth 100000
/-- the same, of a tree that nobody writes any more -/
theorem ChangeOfF_c (l : List Entry) (c : Change) (v : Int) (g : GoodT l) (ok : okC c) : Meets Tryd.prog 25 [esV l, .agg c.enc, .int .i64 v] (.tup [esV (rawP l c v), .int .i64 (rawErr l c v)]) [] :=
  ((ChangeOf_c l c v g ok).freeze 1 byC).wk (wks_refl _) byC byC
def allR (l : List Entry) (cs : List Change) (v : Int) : List Entry × Int × Int :=
  if 20 < (cs.length : Int) then ([], 0, 2) else if verB v = false ∧ 0 < (cs.length : Int) then ([], 0, 3) else allRun v l cs 0
theorem AllOf_c (l : List Entry) (cs : List Change) (v : Int) (g : GoodT l) (ok : okCs cs) : Meets Tryd.prog 29 [esV l, csV cs, .int .i64 v]
    (.tup [esV (allR l cs v).1, .int .i64 (allR l cs v).2.1, .int .i64 (allR l cs v).2.2]) [] := by
  refine meets_x (fn := Tryd.f29) Tryd.func29 rfl fb29 (by kernel_rfl) (Nat.le_of_ble_eq_true rfl) ?_
  have hcl := ok.1
  refine cx_sr ?_
  simp only [go_sem]
  repeat first | (with_reducible refine side_d ?_ ?_; exact byD) | (with_reducible refine side_q ?_ ?_; exact byQ)
  refine cx_seq ?_
  refine cx_sr ?_
  simp only [go_sem]
  repeat first | (with_reducible refine side_d ?_ ?_; exact byD) | (with_reducible refine side_q ?_ ?_; exact byQ)
  intro t14 e14
  repeat first | (with_reducible refine side_d ?_ ?_; exact byD) | (with_reducible refine side_q ?_ ?_; exact byQ)
  subst e14
  refine cx_if _ rfl (fun h14 => ?_) (fun h14 => ?_)
  ·
    (try simp only [go_sem] at h14)
    refine cx_sr ?_
    simp only [go_sem]
    repeat first | (with_reducible refine side_d ?_ ?_; exact byD) | (with_reducible refine side_q ?_ ?_; exact byQ)
    refine cx_ret ?_
    simp only [go_sem]
    have he : allR l cs v = ([], 0, 2) := by rw [allR, if_pos (by omega)]
    rw [he]
    exact finx_of 1 [] rfl byC byC byC byC
  ·
    (try simp only [go_sem] at h14)
    refine cx_skip ?_
    (try simp only [go_sem])
    refine cx_seq ?_
    refine cx_sr ?_
    simp only [go_sem]
    repeat first | (with_reducible refine side_d ?_ ?_; exact byD) | (with_reducible refine side_q ?_ ?_; exact byQ)
    intro t17 e17
    repeat first | (with_reducible refine side_d ?_ ?_; exact byD) | (with_reducible refine side_q ?_ ?_; exact byQ)
    refine ⟨_, fun hp => cw_m (RIsVersion_c v) byW byT ⟨rfl, rfl⟩, ?_⟩
    simp only [go_sem]
    repeat first | (with_reducible refine side_d ?_ ?_; exact byD) | (with_reducible refine side_q ?_ ?_; exact byQ)
    intro t21 e21
    repeat first | (with_reducible refine side_d ?_ ?_; exact byD) | (with_reducible refine side_q ?_ ?_; exact byQ)
    intro t22 e22
    rw [bsel_and] at e22
    repeat first | (with_reducible refine side_d ?_ ?_; exact byD) | (with_reducible refine side_q ?_ ?_; exact byQ)
    subst e17 e21 e22
    refine cx_if _ rfl (fun h22 => ?_) (fun h22 => ?_)
    ·
      (try simp only [go_sem] at h22)
      refine cx_sr ?_
      simp only [go_sem]
      repeat first | (with_reducible refine side_d ?_ ?_; exact byD) | (with_reducible refine side_q ?_ ?_; exact byQ)
      refine cx_ret ?_
      simp only [go_sem]
      have hv : verB v = false ∧ 0 < (cs.length : Int) := by unfold verB; grind
      have he : allR l cs v = ([], 0, 3) := by rw [allR, if_neg (by omega), if_pos hv]
      rw [he]
      exact finx_of 1 [] rfl byC byC byC byC
    ·
      (try simp only [go_sem] at h22)
      have hv : ¬ (verB v = false ∧ 0 < (cs.length : Int)) := by unfold verB; grind
      have he : allR l cs v = allRun v l cs 0 := by rw [allR, if_neg (by omega), if_neg hv]
      refine cx_skip ?_
      (try simp only [go_sem])
      refine cx_seq ?_
      refine cx_sr ?_
      simp only [go_sem]
      repeat first | (with_reducible refine side_d ?_ ?_; exact byD) | (with_reducible refine side_q ?_ ?_; exact byQ)
      refine cx_block ?_
      refine cx_loop0 (σ := Nat × List Entry) (fun s => s.1 ≤ cs.length ∧ GoodT s.2 ∧ allRun v l cs 0 = allRun v s.2 (cs.drop s.1) (s.1 : Int)) (fun s => [⟨9, 0, [], .int .i64 (s.1 : Nat)⟩, ⟨0, 0, [], esV s.2⟩]) [1, 2] (fun s => cs.length - s.1) (0, l) ⟨Nat.zero_le _, g, rfl⟩ (Nat.zero_le _) byC (fun s hI1 => ?_)
      simp only [go_sem]
      obtain ⟨i1, i2, i3⟩ := hI1
      refine cx_seq ?_
      refine cx_sr ?_
      simp only [go_sem]
      repeat first | (with_reducible refine side_d ?_ ?_; exact byD) | (with_reducible refine side_q ?_ ?_; exact byQ)
      intro t26 e26
      repeat first | (with_reducible refine side_d ?_ ?_; exact byD) | (with_reducible refine side_q ?_ ?_; exact byQ)
      subst e26
      refine cx_if _ rfl (fun h26 => ?_) (fun h26 => ?_)
      ·
        (try simp only [go_sem] at h26)
        have hcm : cs.getD s.1 default ∈ cs := getD_mem (by omega)
        have hdr : cs.drop s.1 = cs.getD s.1 default :: cs.drop (s.1 + 1) := by
          rw [List.drop_eq_getElem_cons (by omega)]
          simp [List.getD, show s.1 < cs.length by omega]
        refine cx_skip ?_
        (try simp only [go_sem])
        refine cx_seq (cx_block ?_)
        refine cx_sr ?_
        simp only [go_sem]
        repeat first | (with_reducible refine side_d ?_ ?_; exact byD) | (with_reducible refine side_q ?_ ?_; exact byQ)
        refine cw_m (ChangeOfF_c s.2 (cs.getD s.1 default) v i2 (ok.2 _ hcm)) byW byT ?_
        simp only [go_sem]
        repeat first | (with_reducible refine side_d ?_ ?_; exact byD) | (with_reducible refine side_q ?_ ?_; exact byQ)
        refine cx_seq ?_
        refine cx_sr ?_
        simp only [go_sem]
        repeat first | (with_reducible refine side_d ?_ ?_; exact byD) | (with_reducible refine side_q ?_ ?_; exact byQ)
        intro t40 e40
        repeat first | (with_reducible refine side_d ?_ ?_; exact byD) | (with_reducible refine side_q ?_ ?_; exact byQ)
        subst e40
        refine cx_if _ rfl (fun h40 => ?_) (fun h40 => ?_)
        ·
          (try simp only [go_sem] at h40)
          refine cx_sr ?_
          simp only [go_sem]
          repeat first | (with_reducible refine side_d ?_ ?_; exact byD) | (with_reducible refine side_q ?_ ?_; exact byQ)
          refine cx_ret ?_
          simp only [go_sem]
          have he2 : allR l cs v = ([], (s.1 : Int), rawErr s.2 (cs.getD s.1 default) v) := by rw [he, i3, hdr, allRun, if_pos (by simpa using h40)]
          rw [he2]
          exact finx_of 1 [] rfl byC byC byC byC
        ·
          (try simp only [go_sem] at h40)
          refine cx_skip ?_
          (try simp only [go_sem])
          refine cx_region ?_
          simp only [go_sem]
          repeat first | (with_reducible refine side_d ?_ ?_; exact byD) | (with_reducible refine side_q ?_ ?_; exact byQ)
          refine cx_region ?_
          simp only [go_sem]
          repeat first | (with_reducible refine side_d ?_ ?_; exact byD) | (with_reducible refine side_q ?_ ?_; exact byQ)
          intro t28 e28
          (try replace e28 := w64 e28 (by omega) (by omega))
          repeat first | (with_reducible refine side_d ?_ ?_; exact byD) | (with_reducible refine side_q ?_ ?_; exact byQ)
          have h48' : rawErr s.2 (cs.getD s.1 default) v = 0 := by simpa using h40
          have hr : rawP s.2 (cs.getD s.1 default) v = madeP s.2 (cs.getD s.1 default) v := by rw [rawP, if_pos h48']
          refine rnd_next (s.1 + 1, madeP s.2 (cs.getD s.1 default) v) ⟨by dsimp only; omega, made_good i2 (ok.2 _ hcm) h48', ?_⟩ (by first | omega | (dsimp only; omega)) ?_
          · rw [i3, hdr, allRun, if_neg (by simpa using h48')]
            rfl
          · rw [hr]; exact byC
      ·
        (try simp only [go_sem] at h26)
        refine cx_exit ?_
        simp only [go_sem]
        refine cx_sr ?_
        simp only [go_sem]
        repeat first | (with_reducible refine side_d ?_ ?_; exact byD) | (with_reducible refine side_q ?_ ?_; exact byQ)
        refine cx_ret ?_
        simp only [go_sem]
        have hi : s.1 = cs.length := by omega
        have he2 : allR l cs v = (s.2, (cs.length : Int), 0) := by rw [he, i3, hi, List.drop_length, allRun]
        rw [he2]
        exact finx_of 1 [] rfl byC byC byC byC
theorem apply_len (l : List Entry) (c : Change) (v : Int) : (applyP l c v).length < 4611686018427387904 ∨ 1048576 < l.length := by
  unfold applyP
  split
  · have := madeP_len l c v
    omega
  · simp
theorem rawP_len (l : List Entry) (c : Change) (v : Int) : (rawP l c v).length ≤ 2 * l.length + 1 := by
  have := madeP_len l c v
  unfold rawP
  split
  · omega
  · simp
theorem applyP_len (l : List Entry) (c : Change) (v : Int) : (applyP l c v).length ≤ 2 * l.length + 1 := by
  have := madeP_len l c v
  unfold applyP
  split
  · omega
  · simp
theorem TreeApplies_c (l : List Entry) (c : Change) (v : Int) (okl : okE l) (ok : okC c) : Meets Tryd.prog 5 [esV l, .agg c.enc, .int .i64 v] (.bool true) [] := by
  refine meets_x (fn := Tryd.f5) Tryd.func5 rfl fb5 (by kernel_rfl) (Nat.le_of_ble_eq_true rfl) ?_
  have hl := okl.1
  have hal := applyP_len l c v
  have hrl := rawP_len l c v
  refine cx_sr ?_
  simp only [go_sem]
  repeat first | (with_reducible refine side_d ?_ ?_; exact byD) | (with_reducible refine side_q ?_ ?_; exact byQ)
  refine cx_sr ?_
  simp only [go_sem]
  repeat first | (with_reducible refine side_d ?_ ?_; exact byD) | (with_reducible refine side_q ?_ ?_; exact byQ)
  refine cw_m (Apply_c l c v okl ok) byW byT ?_
  simp only [go_sem]
  repeat first | (with_reducible refine side_d ?_ ?_; exact byD) | (with_reducible refine side_q ?_ ?_; exact byQ)
  refine cx_sr ?_
  simp only [go_sem]
  repeat first | (with_reducible refine side_d ?_ ?_; exact byD) | (with_reducible refine side_q ?_ ?_; exact byQ)
  refine cw_m (RCheckTree_c l okl) byW byT ?_
  simp only [go_sem]
  repeat first | (with_reducible refine side_d ?_ ?_; exact byD) | (with_reducible refine side_q ?_ ?_; exact byQ)
  refine cx_seq ?_
  refine cx_sr ?_
  simp only [go_sem]
  repeat first | (with_reducible refine side_d ?_ ?_; exact byD) | (with_reducible refine side_q ?_ ?_; exact byQ)
  intro t21 e21
  repeat first | (with_reducible refine side_d ?_ ?_; exact byD) | (with_reducible refine side_q ?_ ?_; exact byQ)
  refine ⟨_, fun hp => cw_m (RIsVersion_c v) byW byT ⟨rfl, rfl⟩, ?_⟩
  simp only [go_sem]
  repeat first | (with_reducible refine side_d ?_ ?_; exact byD) | (with_reducible refine side_q ?_ ?_; exact byQ)
  intro t25 e25
  repeat first | (with_reducible refine side_d ?_ ?_; exact byD) | (with_reducible refine side_q ?_ ?_; exact byQ)
  intro t26 e26
  rw [bsel_and] at e26
  repeat first | (with_reducible refine side_d ?_ ?_; exact byD) | (with_reducible refine side_q ?_ ?_; exact byQ)
  subst e21 e25 e26
  refine cx_if _ rfl (fun h26 => ?_) (fun h26 => ?_)
  ·
    (try simp only [go_sem] at h26)
    refine cx_region ?_
    simp only [go_sem]
    repeat first | (with_reducible refine side_d ?_ ?_; exact byD) | (with_reducible refine side_q ?_ ?_; exact byQ)
    refine cx_sr ?_
    simp only [go_sem]
    repeat first | (with_reducible refine side_d ?_ ?_; exact byD) | (with_reducible refine side_q ?_ ?_; exact byQ)
    refine cx_seq ?_
    refine cx_sr ?_
    simp only [go_sem]
    repeat first | (with_reducible refine side_d ?_ ?_; exact byD) | (with_reducible refine side_q ?_ ?_; exact byQ)
    intro t28 e28
    repeat first | (with_reducible refine side_d ?_ ?_; exact byD) | (with_reducible refine side_q ?_ ?_; exact byQ)
    subst e28
    refine cx_meet0 (σ := List Entry × Int) (fun m => applyErr l c v = m.2 ∧ applyP l c v = (if m.2 = 0 then m.1 else []) ∧ m.1.length ≤ 2 * l.length + 1) (fun m => [⟨10, 0, [], esV m.1⟩, ⟨9, 0, [], .int .i64 m.2⟩]) [6, 7, 8] (Nat.zero_le _) ?_ (fun m hIM1 => ?_)
    ·
      refine cx_if _ rfl (fun h28 => no_if h28) (fun h28 => ?_)
      refine cx_skip ?_
      (try simp only [go_sem])
      have h1 : checkT l = 0 := by grind
      have h2 : verB v = false := by unfold verB; grind
      have he : applyErr l c v = 3 := by rw [applyErr, if_neg (by simpa using h1), if_pos h2]
      have hp : applyP l c v = [] := by rw [applyP, he, if_neg (by decide)]
      refine mt_next ([], 3) ⟨he, by rw [hp]; rfl, by simp⟩ byC
    simp only [go_sem]
    refine cx_sr ?_
    simp only [go_sem]
    repeat first | (with_reducible refine side_d ?_ ?_; exact byD) | (with_reducible refine side_q ?_ ?_; exact byQ)
    refine cw_m (treeBegun_c) byW byT ?_
    simp only [go_sem]
    repeat first | (with_reducible refine side_d ?_ ?_; exact byD) | (with_reducible refine side_q ?_ ?_; exact byQ)
    refine ⟨_, fun hp => cw_v 2 (treeIs_c (applyP l c v) (applyErr l c v) m.2 m.1 (by omega) (by omega)) byV byC rfl ⟨rfl, rfl⟩, ?_⟩
    simp only [go_sem]
    repeat first | (with_reducible refine side_d ?_ ?_; exact byD) | (with_reducible refine side_q ?_ ?_; exact byQ)
    intro t43 e43
    rw [bsel_and] at e43
    repeat first | (with_reducible refine side_d ?_ ?_; exact byD) | (with_reducible refine side_q ?_ ?_; exact byQ)
    subst e43
    refine cx_ret ?_
    simp only [go_sem]
    refine finw_bool ?_
    first | simp [hIM1.1, hIM1.2.1] | simp [hIM2.1, hIM2.2.1]
  ·
    (try simp only [go_sem] at h26)
    refine cx_skip ?_
    (try simp only [go_sem])
    refine cx_sr ?_
    simp only [go_sem]
    repeat first | (with_reducible refine side_d ?_ ?_; exact byD) | (with_reducible refine side_q ?_ ?_; exact byQ)
    refine cx_seq ?_
    refine cx_sr ?_
    simp only [go_sem]
    repeat first | (with_reducible refine side_d ?_ ?_; exact byD) | (with_reducible refine side_q ?_ ?_; exact byQ)
    intro t28 e28
    repeat first | (with_reducible refine side_d ?_ ?_; exact byD) | (with_reducible refine side_q ?_ ?_; exact byQ)
    subst e28
    refine cx_meet0 (σ := List Entry × Int) (fun m => applyErr l c v = m.2 ∧ applyP l c v = (if m.2 = 0 then m.1 else []) ∧ m.1.length ≤ 2 * l.length + 1) (fun m => [⟨10, 0, [], esV m.1⟩, ⟨9, 0, [], .int .i64 m.2⟩]) [6, 7, 8] (Nat.zero_le _) ?_ (fun m hIM2 => ?_)
    ·
      refine cx_if _ rfl (fun h28 => ?_) (fun h28 => ?_)
      ·
        (try simp only [go_sem] at h28)
        have hck : checkT l = 0 := by simpa using h28
        have hg := checkT_good okl hck
        refine cx_region ?_
        simp only [go_sem]
        repeat first | (with_reducible refine side_d ?_ ?_; exact byD) | (with_reducible refine side_q ?_ ?_; exact byQ)
        refine cw_m (ChangeOfF_c l c v hg ok) byW byT ?_
        simp only [go_sem]
        repeat first | (with_reducible refine side_d ?_ ?_; exact byD) | (with_reducible refine side_q ?_ ?_; exact byQ)
        have h2 : ¬ verB v = false := by unfold verB; grind
        have he : applyErr l c v = rawErr l c v := by rw [applyErr, if_neg (by simpa using hck), if_neg h2]
        have hp : applyP l c v = if rawErr l c v = 0 then rawP l c v else [] := by rw [applyP, he]; unfold rawP; split <;> rfl
        refine mt_next (rawP l c v, rawErr l c v) ⟨he, hp, hrl⟩ byC
      ·
        (try simp only [go_sem] at h28)
        refine cx_skip ?_
        (try simp only [go_sem])
        have h1 : ¬ checkT l = 0 := by simpa using h28
        have he : applyErr l c v = checkT l := by rw [applyErr, if_pos h1]
        have hp : applyP l c v = [] := by rw [applyP, he, if_neg h1]
        refine mt_next ([], checkT l) ⟨he, by rw [hp, if_neg h1], by simp⟩ byC
    simp only [go_sem]
    refine cx_sr ?_
    simp only [go_sem]
    repeat first | (with_reducible refine side_d ?_ ?_; exact byD) | (with_reducible refine side_q ?_ ?_; exact byQ)
    refine cw_m (treeBegun_c) byW byT ?_
    simp only [go_sem]
    repeat first | (with_reducible refine side_d ?_ ?_; exact byD) | (with_reducible refine side_q ?_ ?_; exact byQ)
    refine ⟨_, fun hp => cw_v 2 (treeIs_c (applyP l c v) (applyErr l c v) m.2 m.1 (by omega) (by omega)) byV byC rfl ⟨rfl, rfl⟩, ?_⟩
    simp only [go_sem]
    repeat first | (with_reducible refine side_d ?_ ?_; exact byD) | (with_reducible refine side_q ?_ ?_; exact byQ)
    intro t43 e43
    rw [bsel_and] at e43
    repeat first | (with_reducible refine side_d ?_ ?_; exact byD) | (with_reducible refine side_q ?_ ?_; exact byQ)
    subst e43
    refine cx_ret ?_
    simp only [go_sem]
    refine finw_bool ?_
    first | simp [hIM1.1, hIM1.2.1] | simp [hIM2.1, hIM2.2.1]
/-- many changes: the program's and the document's -/
theorem allP_R (l : List Entry) (cs : List Change) (v : Int) : allP l cs v = if checkT l ≠ 0 then ([], 0, checkT l) else allR l cs v := rfl
theorem allRun_err : ∀ (cs : List Change) (t : List Entry) (v k : Int), (allRun v t cs k).2.2 ≠ 0 → (allRun v t cs k).1 = []
  | [], t, v, k, h => absurd rfl h
  | c :: cs, t, v, k, h => by
    unfold allRun at h ⊢
    split
    · rfl
    · rename_i hc
      rw [if_neg hc] at h
      exact allRun_err cs _ v _ h
theorem allR_err {l : List Entry} {cs : List Change} {v : Int} (h : (allR l cs v).2.2 ≠ 0) : (allR l cs v).1 = [] := by
  unfold allR at h ⊢
  split
  · rfl
  · rename_i h1
    rw [if_neg h1] at h
    split
    · rfl
    · rename_i h2
      rw [if_neg h2] at h
      exact allRun_err cs l v 0 h
theorem allRun_len : ∀ (cs : List Change) (t : List Entry) (v k : Int), (allRun v t cs k).1.length ≤ max 60 t.length
  | [], t, v, k => by unfold allRun; show t.length ≤ _; omega
  | c :: cs, t, v, k => by
    unfold allRun
    split
    · simp
    · rename_i hc
      have := allRun_len cs (madeP t c v) v (k + 1)
      have h2 := (done_0 (raw_0 (by simpa using hc)).2.2).2
      omega
theorem allR_len (l : List Entry) (cs : List Change) (v : Int) : (allR l cs v).1.length ≤ max 60 l.length := by
  unfold allR
  split
  · simp
  · split
    · simp
    · exact allRun_len cs l v 0
theorem allP_len (l : List Entry) (cs : List Change) (v : Int) : (allP l cs v).1.length ≤ max 60 l.length := by
  rw [allP_R]
  split
  · simp
  · exact allR_len l cs v
theorem TreeAlls_c (l : List Entry) (cs : List Change) (v : Int) (okl : okE l) (ok : okCs cs) : Meets Tryd.prog 6 [esV l, csV cs, .int .i64 v] (.bool true) [] := by
  refine meets_x (fn := Tryd.f6) Tryd.func6 rfl fb6 (by kernel_rfl) (Nat.le_of_ble_eq_true rfl) ?_
  have hl := okl.1
  have hal := allP_len l cs v
  have hrl := allR_len l cs v
  refine cx_sr ?_
  simp only [go_sem]
  repeat first | (with_reducible refine side_d ?_ ?_; exact byD) | (with_reducible refine side_q ?_ ?_; exact byQ)
  refine cx_sr ?_
  simp only [go_sem]
  repeat first | (with_reducible refine side_d ?_ ?_; exact byD) | (with_reducible refine side_q ?_ ?_; exact byQ)
  refine cw_m (All_c l cs v okl ok) byW byT ?_
  simp only [go_sem]
  repeat first | (with_reducible refine side_d ?_ ?_; exact byD) | (with_reducible refine side_q ?_ ?_; exact byQ)
  refine cx_sr ?_
  simp only [go_sem]
  repeat first | (with_reducible refine side_d ?_ ?_; exact byD) | (with_reducible refine side_q ?_ ?_; exact byQ)
  refine cw_m (RCheckTree_c l okl) byW byT ?_
  simp only [go_sem]
  repeat first | (with_reducible refine side_d ?_ ?_; exact byD) | (with_reducible refine side_q ?_ ?_; exact byQ)
  refine cx_sr ?_
  simp only [go_sem]
  repeat first | (with_reducible refine side_d ?_ ?_; exact byD) | (with_reducible refine side_q ?_ ?_; exact byQ)
  refine cx_seq ?_
  refine cx_sr ?_
  simp only [go_sem]
  repeat first | (with_reducible refine side_d ?_ ?_; exact byD) | (with_reducible refine side_q ?_ ?_; exact byQ)
  intro t24 e24
  repeat first | (with_reducible refine side_d ?_ ?_; exact byD) | (with_reducible refine side_q ?_ ?_; exact byQ)
  subst e24
  refine cx_meet0 (σ := List Entry × Int × Int) (fun m => allP l cs v = m ∧ m.1.length ≤ max 60 l.length ∧ (m.2.2 ≠ 0 → m.1 = [])) (fun m => [⟨12, 0, [], esV m.1⟩, ⟨11, 0, [], .int .i64 m.2.1⟩, ⟨10, 0, [], .int .i64 m.2.2⟩]) [6, 7, 8, 9] (Nat.zero_le _) ?_ (fun m hIM1 => ?_)
  ·
    refine cx_if _ rfl (fun h24 => ?_) (fun h24 => ?_)
    ·
      (try simp only [go_sem] at h24)
      have hck : checkT l = 0 := by simpa using h24
      have hg := checkT_good okl hck
      refine cx_region ?_
      simp only [go_sem]
      repeat first | (with_reducible refine side_d ?_ ?_; exact byD) | (with_reducible refine side_q ?_ ?_; exact byQ)
      refine cw_m (AllOf_c l cs v hg ok) byW byT ?_
      simp only [go_sem]
      repeat first | (with_reducible refine side_d ?_ ?_; exact byD) | (with_reducible refine side_q ?_ ?_; exact byQ)
      refine mt_next (allR l cs v) ⟨by rw [allP_R, if_neg (by simpa using hck)], hrl, allR_err⟩ byC
    ·
      (try simp only [go_sem] at h24)
      refine cx_skip ?_
      (try simp only [go_sem])
      have h1 : ¬ checkT l = 0 := by simpa using h24
      refine mt_next ([], 0, checkT l) ⟨by rw [allP_R, if_pos h1], by simp, fun _ => rfl⟩ byC
  simp only [go_sem]
  refine cx_sr ?_
  simp only [go_sem]
  repeat first | (with_reducible refine side_d ?_ ?_; exact byD) | (with_reducible refine side_q ?_ ?_; exact byQ)
  refine cw_m (treeBegun_c) byW byT ?_
  simp only [go_sem]
  repeat first | (with_reducible refine side_d ?_ ?_; exact byD) | (with_reducible refine side_q ?_ ?_; exact byQ)
  intro t37 e37
  repeat first | (with_reducible refine side_d ?_ ?_; exact byD) | (with_reducible refine side_q ?_ ?_; exact byQ)
  intro t38 e38
  rw [bsel_and] at e38
  repeat first | (with_reducible refine side_d ?_ ?_; exact byD) | (with_reducible refine side_q ?_ ?_; exact byQ)
  refine ⟨_, fun hp => cw_v 2 (treeIs_c (allP l cs v).1 (allP l cs v).2.2 m.2.2 m.1 (by omega) (by omega)) byV byC rfl ⟨rfl, rfl⟩, ?_⟩
  simp only [go_sem]
  repeat first | (with_reducible refine side_d ?_ ?_; exact byD) | (with_reducible refine side_q ?_ ?_; exact byQ)
  intro t45 e45
  rw [bsel_and] at e45
  repeat first | (with_reducible refine side_d ?_ ?_; exact byD) | (with_reducible refine side_q ?_ ?_; exact byQ)
  subst e37 e38 e45
  refine cx_ret ?_
  simp only [go_sem]
  refine finw_bool ?_
  obtain ⟨q1, q2, q3⟩ := hIM1
  rw [q1]
  by_cases h0 : m.2.2 = 0
  · simp [h0]
  · simp [h0, q3 h0]
end Go.VM.Tryd
end
section
set_option linter.unusedVariables false
set_option linter.unusedSimpArgs false
open Go Go.VM Go.Proofs Tether
namespace Go.VM.Tryd
set_option maxRecDepth 100000
theorem findP_idx {l : List Entry} {p : Str} (h1 : checkT l = 0) (h2 : checkP [p] = 0) : findP l p = match findE l p with | none => (noE, 5) | some x => (x, 0) := by
  rw [findP, if_neg (by simpa using h1), if_neg (by simpa using h2)]
  cases findE l p <;> rfl
theorem TreeFinds_c (l : List Entry) (p : Str) (ok : okE l) (hp : p.length ≤ 1048576) : Meets Tryd.prog 10 [esV l, .str p] (.bool true) [] := by
  refine meets_x (fn := Tryd.f10) Tryd.func10 rfl fb10 (by kernel_rfl) (Nat.le_of_ble_eq_true rfl) ?_
  have hl := ok.1
  refine cx_sr ?_
  simp only [go_sem]
  repeat first | (with_reducible refine side_d ?_ ?_; exact byD) | (with_reducible refine side_q ?_ ?_; exact byQ)
  refine cx_sr ?_
  simp only [go_sem]
  repeat first | (with_reducible refine side_d ?_ ?_; exact byD) | (with_reducible refine side_q ?_ ?_; exact byQ)
  refine cw_m (Find_c l p ok hp) byW byT ?_
  simp only [go_sem]
  repeat first | (with_reducible refine side_d ?_ ?_; exact byD) | (with_reducible refine side_q ?_ ?_; exact byQ)
  refine cx_sr ?_
  simp only [go_sem]
  repeat first | (with_reducible refine side_d ?_ ?_; exact byD) | (with_reducible refine side_q ?_ ?_; exact byQ)
  refine cw_m (RCheckTree_c l ok) byW byT ?_
  simp only [go_sem]
  repeat first | (with_reducible refine side_d ?_ ?_; exact byD) | (with_reducible refine side_q ?_ ?_; exact byQ)
  refine cx_seq ?_
  refine cx_sr ?_
  simp only [go_sem]
  repeat first | (with_reducible refine side_d ?_ ?_; exact byD) | (with_reducible refine side_q ?_ ?_; exact byQ)
  intro t20 e20
  repeat first | (with_reducible refine side_d ?_ ?_; exact byD) | (with_reducible refine side_q ?_ ?_; exact byQ)
  subst e20
  refine cx_if _ rfl (fun h20 => ?_) (fun h20 => ?_)
  ·
    (try simp only [go_sem] at h20)
    refine cx_region ?_
    simp only [go_sem]
    repeat first | (with_reducible refine side_d ?_ ?_; exact byD) | (with_reducible refine side_q ?_ ?_; exact byQ)
    refine cw_m (CheckPath_c p (by omega)) byW byT ?_
    simp only [go_sem]
    repeat first | (with_reducible refine side_d ?_ ?_; exact byD) | (with_reducible refine side_q ?_ ?_; exact byQ)
    refine cx_seq ?_
    refine cx_sr ?_
    simp only [go_sem]
    repeat first | (with_reducible refine side_d ?_ ?_; exact byD) | (with_reducible refine side_q ?_ ?_; exact byQ)
    intro t24 e24
    repeat first | (with_reducible refine side_d ?_ ?_; exact byD) | (with_reducible refine side_q ?_ ?_; exact byQ)
    subst e24
    refine cx_if _ rfl (fun h24 => ?_) (fun h24 => ?_)
    ·
      (try simp only [go_sem] at h24)
      refine cx_sr ?_
      simp only [go_sem]
      repeat first | (with_reducible refine side_d ?_ ?_; exact byD) | (with_reducible refine side_q ?_ ?_; exact byQ)
      refine cw_m (EntryAt_c l p (by omega)) byW byT ?_
      simp only [go_sem]
      repeat first | (with_reducible refine side_d ?_ ?_; exact byD) | (with_reducible refine side_q ?_ ?_; exact byQ)
      refine cx_sr ?_
      simp only [go_sem]
      repeat first | (with_reducible refine side_d ?_ ?_; exact byD) | (with_reducible refine side_q ?_ ?_; exact byQ)
      intro t29 e29
      repeat first | (with_reducible refine side_d ?_ ?_; exact byD) | (with_reducible refine side_q ?_ ?_; exact byQ)
      subst e29
      refine cx_if _ rfl (fun h29 => ?_) (fun h29 => ?_)
      ·
        (try simp only [go_sem] at h29)
        have hix : ∃ i : Nat, idxF (isAt p) l = (i : Int) ∧ i < l.length ∧ findE l p = some (l.getD i default) := by
          rcases find_idx l p with ⟨h1, _⟩ | h
          · omega
          · exact h
        obtain ⟨i, hi1, hi2, hi3⟩ := hix
        refine cx_region ?_
        simp only [go_sem]
        repeat first | (with_reducible refine side_d ?_ ?_; exact byD) | (with_reducible refine side_q ?_ ?_; exact byQ)
        refine cx_sr ?_
        simp only [go_sem]
        repeat first | (with_reducible refine side_d ?_ ?_; exact byD) | (with_reducible refine side_q ?_ ?_; exact byQ)
        refine cw_m (treeBegun_c) byW byT ?_
        simp only [go_sem]
        repeat first | (with_reducible refine side_d ?_ ?_; exact byD) | (with_reducible refine side_q ?_ ?_; exact byQ)
        intro t38 e38
        repeat first | (with_reducible refine side_d ?_ ?_; exact byD) | (with_reducible refine side_q ?_ ?_; exact byQ)
        intro t39 e39
        rw [bsel_and] at e39
        repeat first | (with_reducible refine side_d ?_ ?_; exact byD) | (with_reducible refine side_q ?_ ?_; exact byQ)
        intro t43 e43
        repeat first | (with_reducible refine side_d ?_ ?_; exact byD) | (with_reducible refine side_q ?_ ?_; exact byQ)
        intro t44 e44
        rw [bsel_and] at e44
        repeat first | (with_reducible refine side_d ?_ ?_; exact byD) | (with_reducible refine side_q ?_ ?_; exact byQ)
        subst e38 e39 e43 e44
        refine cx_ret ?_
        simp only [go_sem]
        refine finw_bool ?_
        have hf : findP l p = (l.getD i default, 0) := by rw [findP_idx (by simpa using h20) (by simpa using h24), hi3]
        have h24' : checkP [p] = 0 := by simpa using h24
        simp [hf, hi1, h24']
      ·
        (try simp only [go_sem] at h29)
        refine cx_region ?_
        simp only [go_sem]
        repeat first | (with_reducible refine side_d ?_ ?_; exact byD) | (with_reducible refine side_q ?_ ?_; exact byQ)
        refine cx_sr ?_
        simp only [go_sem]
        repeat first | (with_reducible refine side_d ?_ ?_; exact byD) | (with_reducible refine side_q ?_ ?_; exact byQ)
        refine cw_m (treeBegun_c) byW byT ?_
        simp only [go_sem]
        repeat first | (with_reducible refine side_d ?_ ?_; exact byD) | (with_reducible refine side_q ?_ ?_; exact byQ)
        intro t38 e38
        repeat first | (with_reducible refine side_d ?_ ?_; exact byD) | (with_reducible refine side_q ?_ ?_; exact byQ)
        intro t39 e39
        rw [bsel_and] at e39
        repeat first | (with_reducible refine side_d ?_ ?_; exact byD) | (with_reducible refine side_q ?_ ?_; exact byQ)
        intro t43 e43
        repeat first | (with_reducible refine side_d ?_ ?_; exact byD) | (with_reducible refine side_q ?_ ?_; exact byQ)
        intro t44 e44
        rw [bsel_and] at e44
        repeat first | (with_reducible refine side_d ?_ ?_; exact byD) | (with_reducible refine side_q ?_ ?_; exact byQ)
        subst e38 e39 e43 e44
        refine cx_ret ?_
        simp only [go_sem]
        refine finw_bool ?_
        have hn : findE l p = none := by
          rcases find_idx l p with ⟨_, h2⟩ | ⟨i, h1, _⟩
          · exact h2
          · omega
        have hf : findP l p = (noE, 5) := by rw [findP_idx (by simpa using h20) (by simpa using h24), hn]
        simp [hf, noE]
    ·
      (try simp only [go_sem] at h24)
      refine cx_skip ?_
      (try simp only [go_sem])
      refine cx_sr ?_
      simp only [go_sem]
      repeat first | (with_reducible refine side_d ?_ ?_; exact byD) | (with_reducible refine side_q ?_ ?_; exact byQ)
      refine cw_m (treeBegun_c) byW byT ?_
      simp only [go_sem]
      repeat first | (with_reducible refine side_d ?_ ?_; exact byD) | (with_reducible refine side_q ?_ ?_; exact byQ)
      intro t38 e38
      repeat first | (with_reducible refine side_d ?_ ?_; exact byD) | (with_reducible refine side_q ?_ ?_; exact byQ)
      intro t39 e39
      rw [bsel_and] at e39
      repeat first | (with_reducible refine side_d ?_ ?_; exact byD) | (with_reducible refine side_q ?_ ?_; exact byQ)
      intro t43 e43
      repeat first | (with_reducible refine side_d ?_ ?_; exact byD) | (with_reducible refine side_q ?_ ?_; exact byQ)
      intro t44 e44
      rw [bsel_and] at e44
      repeat first | (with_reducible refine side_d ?_ ?_; exact byD) | (with_reducible refine side_q ?_ ?_; exact byQ)
      subst e38 e39 e43 e44
      refine cx_ret ?_
      simp only [go_sem]
      refine finw_bool ?_
      have hf : findP l p = (noE, checkP [p]) := by rw [findP, if_neg (by simpa using h20), if_pos (by simpa using h24)]
      simp [hf, noE]
  ·
    (try simp only [go_sem] at h20)
    refine cx_skip ?_
    (try simp only [go_sem])
    refine cx_seq ?_
    refine cx_sr ?_
    simp only [go_sem]
    repeat first | (with_reducible refine side_d ?_ ?_; exact byD) | (with_reducible refine side_q ?_ ?_; exact byQ)
    intro t24 e24
    repeat first | (with_reducible refine side_d ?_ ?_; exact byD) | (with_reducible refine side_q ?_ ?_; exact byQ)
    subst e24
    refine cx_if _ rfl (fun h24 => ?_) (fun h24 => ?_)
    ·
      (try simp only [go_sem] at h24)
      refine cx_sr ?_
      simp only [go_sem]
      repeat first | (with_reducible refine side_d ?_ ?_; exact byD) | (with_reducible refine side_q ?_ ?_; exact byQ)
      refine cw_m (EntryAt_c l p (by omega)) byW byT ?_
      simp only [go_sem]
      repeat first | (with_reducible refine side_d ?_ ?_; exact byD) | (with_reducible refine side_q ?_ ?_; exact byQ)
      refine cx_sr ?_
      simp only [go_sem]
      repeat first | (with_reducible refine side_d ?_ ?_; exact byD) | (with_reducible refine side_q ?_ ?_; exact byQ)
      intro t29 e29
      repeat first | (with_reducible refine side_d ?_ ?_; exact byD) | (with_reducible refine side_q ?_ ?_; exact byQ)
      subst e29
      refine cx_if _ rfl (fun h29 => ?_) (fun h29 => ?_)
      ·
        (try simp only [go_sem] at h29)
        have hix : ∃ i : Nat, idxF (isAt p) l = (i : Int) ∧ i < l.length ∧ findE l p = some (l.getD i default) := by
          rcases find_idx l p with ⟨h1, _⟩ | h
          · omega
          · exact h
        obtain ⟨i, hi1, hi2, hi3⟩ := hix
        refine cx_region ?_
        simp only [go_sem]
        repeat first | (with_reducible refine side_d ?_ ?_; exact byD) | (with_reducible refine side_q ?_ ?_; exact byQ)
        refine cx_sr ?_
        simp only [go_sem]
        repeat first | (with_reducible refine side_d ?_ ?_; exact byD) | (with_reducible refine side_q ?_ ?_; exact byQ)
        refine cw_m (treeBegun_c) byW byT ?_
        simp only [go_sem]
        repeat first | (with_reducible refine side_d ?_ ?_; exact byD) | (with_reducible refine side_q ?_ ?_; exact byQ)
        intro t38 e38
        repeat first | (with_reducible refine side_d ?_ ?_; exact byD) | (with_reducible refine side_q ?_ ?_; exact byQ)
        intro t39 e39
        rw [bsel_and] at e39
        repeat first | (with_reducible refine side_d ?_ ?_; exact byD) | (with_reducible refine side_q ?_ ?_; exact byQ)
        intro t43 e43
        repeat first | (with_reducible refine side_d ?_ ?_; exact byD) | (with_reducible refine side_q ?_ ?_; exact byQ)
        intro t44 e44
        rw [bsel_and] at e44
        repeat first | (with_reducible refine side_d ?_ ?_; exact byD) | (with_reducible refine side_q ?_ ?_; exact byQ)
        subst e38 e39 e43 e44
        refine cx_ret ?_
        simp only [go_sem]
        exact absurd h24 (by simpa using h20)
      ·
        (try simp only [go_sem] at h29)
        refine cx_region ?_
        simp only [go_sem]
        repeat first | (with_reducible refine side_d ?_ ?_; exact byD) | (with_reducible refine side_q ?_ ?_; exact byQ)
        refine cx_sr ?_
        simp only [go_sem]
        repeat first | (with_reducible refine side_d ?_ ?_; exact byD) | (with_reducible refine side_q ?_ ?_; exact byQ)
        refine cw_m (treeBegun_c) byW byT ?_
        simp only [go_sem]
        repeat first | (with_reducible refine side_d ?_ ?_; exact byD) | (with_reducible refine side_q ?_ ?_; exact byQ)
        intro t38 e38
        repeat first | (with_reducible refine side_d ?_ ?_; exact byD) | (with_reducible refine side_q ?_ ?_; exact byQ)
        intro t39 e39
        rw [bsel_and] at e39
        repeat first | (with_reducible refine side_d ?_ ?_; exact byD) | (with_reducible refine side_q ?_ ?_; exact byQ)
        intro t43 e43
        repeat first | (with_reducible refine side_d ?_ ?_; exact byD) | (with_reducible refine side_q ?_ ?_; exact byQ)
        intro t44 e44
        rw [bsel_and] at e44
        repeat first | (with_reducible refine side_d ?_ ?_; exact byD) | (with_reducible refine side_q ?_ ?_; exact byQ)
        subst e38 e39 e43 e44
        refine cx_ret ?_
        simp only [go_sem]
        exact absurd h24 (by simpa using h20)
    ·
      (try simp only [go_sem] at h24)
      refine cx_skip ?_
      (try simp only [go_sem])
      refine cx_sr ?_
      simp only [go_sem]
      repeat first | (with_reducible refine side_d ?_ ?_; exact byD) | (with_reducible refine side_q ?_ ?_; exact byQ)
      refine cw_m (treeBegun_c) byW byT ?_
      simp only [go_sem]
      repeat first | (with_reducible refine side_d ?_ ?_; exact byD) | (with_reducible refine side_q ?_ ?_; exact byQ)
      intro t38 e38
      repeat first | (with_reducible refine side_d ?_ ?_; exact byD) | (with_reducible refine side_q ?_ ?_; exact byQ)
      intro t39 e39
      rw [bsel_and] at e39
      repeat first | (with_reducible refine side_d ?_ ?_; exact byD) | (with_reducible refine side_q ?_ ?_; exact byQ)
      intro t43 e43
      repeat first | (with_reducible refine side_d ?_ ?_; exact byD) | (with_reducible refine side_q ?_ ?_; exact byQ)
      intro t44 e44
      rw [bsel_and] at e44
      repeat first | (with_reducible refine side_d ?_ ?_; exact byD) | (with_reducible refine side_q ?_ ?_; exact byQ)
      subst e38 e39 e43 e44
      refine cx_ret ?_
      simp only [go_sem]
      refine finw_bool ?_
      have hf : findP l p = (noE, checkT l) := by rw [findP, if_pos (by simpa using h20)]
      simp [hf, noE]
def chooseP (c n : Int) : Int := (if c < 0 then -(c + 1) else c) % n
theorem choose_c (c : Int) (h0 : -9223372036854775808 ≤ c) (h1 : c ≤ 9223372036854775807) (n : Int) (hn : 0 < n) (hn2 : n ≤ 1000001) : Meets Tryd.prog 32 [.int .i64 c, .int .i64 n] (.int .i64 (chooseP c n)) [] := by
  refine meets_x (fn := Tryd.f32) Tryd.func32 rfl fb32 (by kernel_rfl) (Nat.le_of_ble_eq_true rfl) ?_
  have h2c : -(c + 1) = -c - 1 := by omega
  refine cx_sr ?_
  simp only [go_sem]
  repeat first | (with_reducible refine side_d ?_ ?_; exact byD) | (with_reducible refine side_q ?_ ?_; exact byQ)
  refine cx_seq ?_
  refine cx_sr ?_
  simp only [go_sem]
  repeat first | (with_reducible refine side_d ?_ ?_; exact byD) | (with_reducible refine side_q ?_ ?_; exact byQ)
  intro t6 e6
  repeat first | (with_reducible refine side_d ?_ ?_; exact byD) | (with_reducible refine side_q ?_ ?_; exact byQ)
  subst e6
  refine cx_if _ rfl (fun h6 => ?_) (fun h6 => ?_)
  ·
    (try simp only [go_sem] at h6)
    refine cx_region ?_
    simp only [go_sem]
    repeat first | (with_reducible refine side_d ?_ ?_; exact byD) | (with_reducible refine side_q ?_ ?_; exact byQ)
    intro t8 e8
    (try replace e8 := w64 e8 (by omega) (by omega))
    repeat first | (with_reducible refine side_d ?_ ?_; exact byD) | (with_reducible refine side_q ?_ ?_; exact byQ)
    intro t9 e9
    repeat first | (with_reducible refine side_d ?_ ?_; exact byD) | (with_reducible refine side_q ?_ ?_; exact byQ)
    refine cx_sr ?_
    simp only [go_sem]
    repeat first | (with_reducible refine side_d ?_ ?_; exact byD) | (with_reducible refine side_q ?_ ?_; exact byQ)
    intro t12 e12
    repeat first | (with_reducible refine side_d ?_ ?_; exact byD) | (with_reducible refine side_q ?_ ?_; exact byQ)
    refine cx_ret ?_
    simp only [go_sem]
    refine finw_int ?_
    have h6' : c < 0 := by simpa using h6
    have e9' : t9 = -(c + 1) := by rw [e9]; simp [IntKind.wrap, IntKind.bits, IntKind.signed]; omega
    rw [chooseP, if_pos h6', ← e9', e12, Int.tmod_eq_emod_of_nonneg (by omega)]
  ·
    (try simp only [go_sem] at h6)
    refine cx_skip ?_
    (try simp only [go_sem])
    refine cx_sr ?_
    simp only [go_sem]
    repeat first | (with_reducible refine side_d ?_ ?_; exact byD) | (with_reducible refine side_q ?_ ?_; exact byQ)
    intro t12 e12
    repeat first | (with_reducible refine side_d ?_ ?_; exact byD) | (with_reducible refine side_q ?_ ?_; exact byQ)
    refine cx_ret ?_
    simp only [go_sem]
    refine finw_int ?_
    have h6' : ¬ c < 0 := by simpa using h6
    rw [chooseP, if_neg h6', e12, Int.tmod_eq_emod_of_nonneg (by omega)]
/-! ### Elder bases -/
def newestP (p : Str) (l : List Entry) : Int := l.foldl (fun n x => if isIn x.path p = true then (if x.version > n then x.version else n) else n) 0
theorem newest_snoc {p : Str} {l : List Entry} {i : Nat} (h : i < l.length) : newestP p (l.take (i + 1)) = if isIn (l.getD i default).path p = true then (if (l.getD i default).version > newestP p (l.take i) then (l.getD i default).version else newestP p (l.take i)) else newestP p (l.take i) := by
  have hd : l.getD i default = l[i] := by simp [List.getD, h]
  rw [hd, List.take_add_one, List.getElem?_eq_getElem h]
  simp only [newestP, List.foldl_append, Option.toList, List.foldl_cons, List.foldl_nil]
  rfl
theorem newest_lt {p : Str} {b : Int} (hb : 0 ≤ b) (l : List Entry) : b < newestP p l ↔ ∃ x ∈ l, isIn x.path p = true ∧ b < x.version := by
  have key : ∀ (l : List Entry) (n : Int), b < l.foldl (fun n x => if isIn x.path p = true then (if x.version > n then x.version else n) else n) n ↔ b < n ∨ ∃ x ∈ l, isIn x.path p = true ∧ b < x.version := by
    intro l
    induction l with
    | nil => intro n; simp
    | cons y l ih =>
      intro n
      rw [List.foldl_cons, ih]
      simp only [List.mem_cons, exists_eq_or_imp]
      by_cases h1 : isIn y.path p = true
      · rw [if_pos h1]
        by_cases h2 : y.version > n
        · rw [if_pos h2]
          constructor
          · rintro (h | h)
            · exact .inr (.inl ⟨h1, h⟩)
            · exact .inr (.inr h)
          · rintro (h | ⟨_, h⟩ | h)
            · exact .inl (by omega)
            · exact .inl h
            · exact .inr h
        · rw [if_neg h2]
          constructor
          · rintro (h | h)
            · exact .inl h
            · exact .inr (.inr h)
          · rintro (h | ⟨_, h⟩ | h)
            · exact .inl h
            · exact .inl (by omega)
            · exact .inr h
      · rw [if_neg h1]
        simp [h1]
  have := key l 0
  unfold newestP
  rw [this]
  constructor
  · rintro (h | h)
    · omega
    · exact h
  · exact .inr
/-- of the same change, by another base -/
def reb (c : Change) (b : Int) : Change := ⟨c.kind, c.path, c.to, c.text, b⟩
theorem form_reb {c : Change} {b : Int} (h0 : 0 ≤ b) (h1 : b ≤ 1000000) : formP (reb c b) = formP (reb c (-1)) := by
  simp only [formP, reb]
  grind
theorem may_reb {l : List Entry} {c : Change} {b : Int} (h0 : 0 ≤ b) : mayP l (reb c b) = if mayP l (reb c (-1)) = 0 then (if l.any (staleB (reb c b)) = true then 8 else 0) else mayP l (reb c (-1)) := by
  simp only [mayP, reb, goalP]
  grind
theorem stale_reb {l : List Entry} {c : Change} {b : Int} (h0 : 0 ≤ b) : l.any (staleB (reb c b)) = true ↔ b < newestP c.path l := by
  rw [newest_lt h0, List.any_eq_true]
  constructor
  · rintro ⟨x, h1, h2⟩
    unfold staleB reb at h2
    rw [Bool.and_eq_true, decide_eq_true_eq] at h2
    exact ⟨x, h1, h2.2, h2.1⟩
  · rintro ⟨x, h1, h2, h3⟩
    refine ⟨x, h1, ?_⟩
    unfold staleB reb
    rw [Bool.and_eq_true, decide_eq_true_eq]
    exact ⟨h3, h2⟩
theorem apply_reb {l : List Entry} {c : Change} {v b : Int} (h0 : 0 ≤ b) (h1 : b ≤ 1000000) :
    (applyErr l (reb c (-1)) v ≠ 0 → applyErr l (reb c b) v ≠ 0) ∧ (applyErr l (reb c (-1)) v = 0 → applyErr l (reb c b) v = if b < newestP c.path l then 8 else 0) := by
  have hd : doneErr l (reb c b) v = doneErr l (reb c (-1)) v := rfl
  have hf := form_reb (c := c) h0 h1
  have hm := may_reb (l := l) (c := c) h0
  have hs := stale_reb (l := l) (c := c) h0
  constructor
  · intro h
    unfold applyErr rawErr at h ⊢
    rw [hd, hf, hm]
    grind
  · intro h
    unfold applyErr rawErr at h ⊢
    rw [hd, hf, hm]
    grind
theorem TreeStale_c (l : List Entry) (c : Change) (v base : Int) (okl : okE l) (ok : okC c) (h0 : -9223372036854775808 ≤ base) (h1 : base ≤ 9223372036854775807) : Meets Tryd.prog 8 [esV l, .agg c.enc, .int .i64 v, .int .i64 base] (.bool true) [] := by
  refine meets_x (fn := Tryd.f8) Tryd.func8 rfl fb8 (by kernel_rfl) (Nat.le_of_ble_eq_true rfl) ?_
  have hl := okl.1
  have hb0 : 0 ≤ chooseP base 1000001 := Int.emod_nonneg _ (by decide)
  have hb1 : chooseP base 1000001 < 1000001 := Int.emod_lt_of_pos _ (by decide)
  have hap := apply_reb (l := l) (c := c) (v := v) hb0 (by omega)
  refine cx_sr ?_
  simp only [go_sem]
  repeat first | (with_reducible refine side_d ?_ ?_; exact byD) | (with_reducible refine side_q ?_ ?_; exact byQ)
  refine cx_seq ?_
  refine cx_sr ?_
  simp only [go_sem]
  repeat first | (with_reducible refine side_d ?_ ?_; exact byD) | (with_reducible refine side_q ?_ ?_; exact byQ)
  refine cw_m (treeBegun_c) byW byT ?_
  simp only [go_sem]
  repeat first | (with_reducible refine side_d ?_ ?_; exact byD) | (with_reducible refine side_q ?_ ?_; exact byQ)
  intro t16 e16
  repeat first | (with_reducible refine side_d ?_ ?_; exact byD) | (with_reducible refine side_q ?_ ?_; exact byQ)
  subst e16
  refine cx_if _ rfl (fun h16 => ?_) (fun h16 => ?_)
  ·
    (try simp only [go_sem] at h16)
    refine cx_sr ?_
    simp only [go_sem]
    repeat first | (with_reducible refine side_d ?_ ?_; exact byD) | (with_reducible refine side_q ?_ ?_; exact byQ)
    refine cx_ret ?_
    simp only [go_sem]
    exact absurd h16 (by simp)
  ·
    (try simp only [go_sem] at h16)
    refine cx_skip ?_
    (try simp only [go_sem])
    refine cx_sr ?_
    simp only [go_sem]
    repeat first | (with_reducible refine side_d ?_ ?_; exact byD) | (with_reducible refine side_q ?_ ?_; exact byQ)
    refine cx_sr ?_
    simp only [go_sem]
    repeat first | (with_reducible refine side_d ?_ ?_; exact byD) | (with_reducible refine side_q ?_ ?_; exact byQ)
    refine cw_m (Apply_c l (reb c (-1)) v okl ok) byW byT ?_
    simp only [go_sem]
    repeat first | (with_reducible refine side_d ?_ ?_; exact byD) | (with_reducible refine side_q ?_ ?_; exact byQ)
    refine cx_sr ?_
    simp only [go_sem]
    repeat first | (with_reducible refine side_d ?_ ?_; exact byD) | (with_reducible refine side_q ?_ ?_; exact byQ)
    refine cx_seq ?_
    refine cx_sr ?_
    simp only [go_sem]
    repeat first | (with_reducible refine side_d ?_ ?_; exact byD) | (with_reducible refine side_q ?_ ?_; exact byQ)
    refine cx_block ?_
    refine cx_loop0 (σ := Nat) (fun i => i ≤ l.length) (fun i => [⟨12, 0, [], .int .i64 (i : Nat)⟩, ⟨11, 0, [], .int .i64 (newestP c.path (l.take i))⟩]) [0, 2, 3, 5, 8, 10] (fun i => l.length - i) 0 (by first | trivial | omega | simp) (Nat.zero_le _) byC (fun i hI1 => ?_)
    simp only [go_sem]
    refine cx_seq ?_
    refine cx_sr ?_
    simp only [go_sem]
    repeat first | (with_reducible refine side_d ?_ ?_; exact byD) | (with_reducible refine side_q ?_ ?_; exact byQ)
    intro t28 e28
    repeat first | (with_reducible refine side_d ?_ ?_; exact byD) | (with_reducible refine side_q ?_ ?_; exact byQ)
    subst e28
    refine cx_if _ rfl (fun h28 => ?_) (fun h28 => ?_)
    ·
      (try simp only [go_sem] at h28)
      refine cx_skip ?_
      (try simp only [go_sem])
      refine cx_seq (cx_block ?_)
      refine cx_seq (cx_draw mixed [] (.first 0 (.first 1 (.first 2 (.first 3 (.first 4 (.first 5 (.first 6 (.one 7 (.done))))))))) (by kernel_rfl) ?_)
      simp only [go_sem]
      repeat first | (with_reducible refine side_d ?_ ?_; exact byD) | (with_reducible refine side_q ?_ ?_; exact byQ)
      refine cwE_m (IsIn2_c (l.getD i default).path c.path (by have := okl.at (i := i) (by omega); omega) (by have := ok.1; omega)) byW byT ?_
      simp only [go_sem]
      repeat first | (with_reducible refine side_d ?_ ?_; exact byD) | (with_reducible refine side_q ?_ ?_; exact byQ)
      refine cx_if _ rfl (fun h38 => ?_) (fun h38 => ?_)
      ·
        (try simp only [go_sem] at h38)
        refine cx_region ?_
        simp only [go_sem]
        repeat first | (with_reducible refine side_d ?_ ?_; exact byD) | (with_reducible refine side_q ?_ ?_; exact byQ)
        refine cx_region ?_
        simp only [go_sem]
        repeat first | (with_reducible refine side_d ?_ ?_; exact byD) | (with_reducible refine side_q ?_ ?_; exact byQ)
        intro t30 e30
        (try replace e30 := w64 e30 (by omega) (by omega))
        repeat first | (with_reducible refine side_d ?_ ?_; exact byD) | (with_reducible refine side_q ?_ ?_; exact byQ)
        have hn : newestP c.path (l.take (i + 1)) = if (l.getD i default).version > newestP c.path (l.take i) then (l.getD i default).version else newestP c.path (l.take i) := by rw [newest_snoc (by omega), if_pos h38]
        refine rnd_next (i + 1) (by omega) (by first | omega | (dsimp only; omega)) ?_
        rw [hn]
        exact byC
      ·
        (try simp only [go_sem] at h38)
        refine cx_skip ?_
        (try simp only [go_sem])
        refine cx_region ?_
        simp only [go_sem]
        repeat first | (with_reducible refine side_d ?_ ?_; exact byD) | (with_reducible refine side_q ?_ ?_; exact byQ)
        intro t30 e30
        (try replace e30 := w64 e30 (by omega) (by omega))
        repeat first | (with_reducible refine side_d ?_ ?_; exact byD) | (with_reducible refine side_q ?_ ?_; exact byQ)
        have hn : newestP c.path (l.take (i + 1)) = newestP c.path (l.take i) := by rw [newest_snoc (by omega), if_neg (by simpa using h38)]
        refine rnd_next (i + 1) (by omega) (by first | omega | (dsimp only; omega)) ?_
        rw [hn]
        exact byC
    ·
      (try simp only [go_sem] at h28)
      have hi : l.take i = l := List.take_of_length_le (by omega)
      rw [hi]
      refine cx_exit ?_
      simp only [go_sem]
      refine cx_sr ?_
      simp only [go_sem]
      repeat first | (with_reducible refine side_d ?_ ?_; exact byD) | (with_reducible refine side_q ?_ ?_; exact byQ)
      refine cw_m (choose_c base h0 h1 1000001 (by decide) (by decide)) byW byT ?_
      simp only [go_sem]
      repeat first | (with_reducible refine side_d ?_ ?_; exact byD) | (with_reducible refine side_q ?_ ?_; exact byQ)
      refine cx_sr ?_
      simp only [go_sem]
      repeat first | (with_reducible refine side_d ?_ ?_; exact byD) | (with_reducible refine side_q ?_ ?_; exact byQ)
      refine cw_m (Apply_c l (reb c (chooseP base 1000001)) v okl ok) byW byT ?_
      simp only [go_sem]
      repeat first | (with_reducible refine side_d ?_ ?_; exact byD) | (with_reducible refine side_q ?_ ?_; exact byQ)
      refine cx_seq ?_
      refine cx_sr ?_
      simp only [go_sem]
      repeat first | (with_reducible refine side_d ?_ ?_; exact byD) | (with_reducible refine side_q ?_ ?_; exact byQ)
      intro t57 e57
      repeat first | (with_reducible refine side_d ?_ ?_; exact byD) | (with_reducible refine side_q ?_ ?_; exact byQ)
      subst e57
      refine cx_if _ rfl (fun h57 => ?_) (fun h57 => ?_)
      ·
        (try simp only [go_sem] at h57)
        refine cx_sr ?_
        simp only [go_sem]
        repeat first | (with_reducible refine side_d ?_ ?_; exact byD) | (with_reducible refine side_q ?_ ?_; exact byQ)
        intro t59 e59
        repeat first | (with_reducible refine side_d ?_ ?_; exact byD) | (with_reducible refine side_q ?_ ?_; exact byQ)
        subst e59
        refine cx_ret ?_
        simp only [go_sem]
        refine finw_bool ?_
        have := hap.1 (by simpa using h57)
        simp [this]
      ·
        (try simp only [go_sem] at h57)
        refine cx_skip ?_
        (try simp only [go_sem])
        refine cx_sr ?_
        simp only [go_sem]
        repeat first | (with_reducible refine side_d ?_ ?_; exact byD) | (with_reducible refine side_q ?_ ?_; exact byQ)
        intro t61 e61
        repeat first | (with_reducible refine side_d ?_ ?_; exact byD) | (with_reducible refine side_q ?_ ?_; exact byQ)
        intro t65 e65
        repeat first | (with_reducible refine side_d ?_ ?_; exact byD) | (with_reducible refine side_q ?_ ?_; exact byQ)
        intro t66 e66
        repeat first | (with_reducible refine side_d ?_ ?_; exact byD) | (with_reducible refine side_q ?_ ?_; exact byQ)
        intro t69 e69
        repeat first | (with_reducible refine side_d ?_ ?_; exact byD) | (with_reducible refine side_q ?_ ?_; exact byQ)
        intro t72 e72
        repeat first | (with_reducible refine side_d ?_ ?_; exact byD) | (with_reducible refine side_q ?_ ?_; exact byQ)
        intro t73 e73
        rw [bsel_or] at e73
        repeat first | (with_reducible refine side_d ?_ ?_; exact byD) | (with_reducible refine side_q ?_ ?_; exact byQ)
        intro t74 e74
        rw [bsel_and] at e74
        repeat first | (with_reducible refine side_d ?_ ?_; exact byD) | (with_reducible refine side_q ?_ ?_; exact byQ)
        subst e61 e65 e66 e69 e72 e73 e74
        refine cx_ret ?_
        simp only [go_sem]
        refine finw_bool ?_
        have := hap.2 (by simpa using h57)
        rw [this]
        by_cases hlt : chooseP base 1000001 < newestP c.path l
        · simp [hlt]
        · simp [hlt]; omega
end Go.VM.Tryd
end
