import Derived.Test.YtfdbnppkcofndaaDoorW5
section
set_option linter.unusedVariables false
set_option linter.unusedSimpArgs false
open Go Go.VM Go.Proofs Tether
namespace Go.VM.Tryd
set_option maxRecDepth 100000
/-- the same, of a tree that nobody writes any more -/
theorem ChangeOfF_c (l : List Entry) (c : Change) (v : Int) (g : GoodT l) (ok : okC c) : Meets Tryd.prog 25 [esV l, .agg c.enc, .int .i64 v] (.tup [esV (rawP l c v), .int .i64 (rawErr l c v)]) [] :=
  ((ChangeOf_c l c v g ok).freeze 1 byC).wk (wks_refl _) byC byC
def allR (l : List Entry) (cs : List Change) (v : Int) : List Entry × Int × Int :=
  if 20 < (cs.length : Int) then ([], 0, 2) else if verB v = false ∧ 0 < (cs.length : Int) then ([], 0, 3) else allRun v l cs 0
theorem AllOf_c (l : List Entry) (cs : List Change) (v : Int) (g : GoodT l) (ok : okCs cs) : Meets Tryd.prog 29 [esV l, csV cs, .int .i64 v]
    (.tup [esV (allR l cs v).1, .int .i64 (allR l cs v).2.1, .int .i64 (allR l cs v).2.2]) [] := by
  refine meets_x (fn := Tryd.f29) Tryd.func29 rfl fb29 (by kernel_rfl) (Nat.le_of_ble_eq_true rfl) ?_
  have hcl := ok.1
  refine cx_sr ?_
  simp only [go_sem]
  repeat first | (with_reducible refine side_d ?_ ?_; exact byD) | (with_reducible refine side_q ?_ ?_; exact byQ)
  refine cx_seq ?_
  refine cx_sr ?_
  simp only [go_sem]
  repeat first | (with_reducible refine side_d ?_ ?_; exact byD) | (with_reducible refine side_q ?_ ?_; exact byQ)
  intro t14 e14
  repeat first | (with_reducible refine side_d ?_ ?_; exact byD) | (with_reducible refine side_q ?_ ?_; exact byQ)
  subst e14
  refine cx_if _ rfl (fun h14 => ?_) (fun h14 => ?_)
  ·
    (try simp only [go_sem] at h14)
    refine cx_sr ?_
    simp only [go_sem]
    repeat first | (with_reducible refine side_d ?_ ?_; exact byD) | (with_reducible refine side_q ?_ ?_; exact byQ)
    refine cx_ret ?_
    simp only [go_sem]
    have he : allR l cs v = ([], 0, 2) := by rw [allR, if_pos (by omega)]
    rw [he]
    exact finx_of 1 [] rfl byC byC byC byC
  ·
    (try simp only [go_sem] at h14)
    refine cx_skip ?_
    (try simp only [go_sem])
    refine cx_seq ?_
    refine cx_sr ?_
    simp only [go_sem]
    repeat first | (with_reducible refine side_d ?_ ?_; exact byD) | (with_reducible refine side_q ?_ ?_; exact byQ)
    intro t17 e17
    repeat first | (with_reducible refine side_d ?_ ?_; exact byD) | (with_reducible refine side_q ?_ ?_; exact byQ)
    refine ⟨_, fun hp => cw_m (RIsVersion_c v) byW byT ⟨rfl, rfl⟩, ?_⟩
    simp only [go_sem]
    repeat first | (with_reducible refine side_d ?_ ?_; exact byD) | (with_reducible refine side_q ?_ ?_; exact byQ)
    intro t21 e21
    repeat first | (with_reducible refine side_d ?_ ?_; exact byD) | (with_reducible refine side_q ?_ ?_; exact byQ)
    intro t22 e22
    rw [bsel_and] at e22
    repeat first | (with_reducible refine side_d ?_ ?_; exact byD) | (with_reducible refine side_q ?_ ?_; exact byQ)
    subst e17 e21 e22
    refine cx_if _ rfl (fun h22 => ?_) (fun h22 => ?_)
    ·
      (try simp only [go_sem] at h22)
      refine cx_sr ?_
      simp only [go_sem]
      repeat first | (with_reducible refine side_d ?_ ?_; exact byD) | (with_reducible refine side_q ?_ ?_; exact byQ)
      refine cx_ret ?_
      simp only [go_sem]
      have hv : verB v = false ∧ 0 < (cs.length : Int) := by unfold verB; grind
      have he : allR l cs v = ([], 0, 3) := by rw [allR, if_neg (by omega), if_pos hv]
      rw [he]
      exact finx_of 1 [] rfl byC byC byC byC
    ·
      (try simp only [go_sem] at h22)
      have hv : ¬ (verB v = false ∧ 0 < (cs.length : Int)) := by unfold verB; grind
      have he : allR l cs v = allRun v l cs 0 := by rw [allR, if_neg (by omega), if_neg hv]
      refine cx_skip ?_
      (try simp only [go_sem])
      refine cx_seq ?_
      refine cx_sr ?_
      simp only [go_sem]
      repeat first | (with_reducible refine side_d ?_ ?_; exact byD) | (with_reducible refine side_q ?_ ?_; exact byQ)
      refine cx_block ?_
      refine cx_loop0 (σ := Nat × List Entry) (fun s => s.1 ≤ cs.length ∧ GoodT s.2 ∧ allRun v l cs 0 = allRun v s.2 (cs.drop s.1) (s.1 : Int)) (fun s => [⟨9, 0, [], .int .i64 (s.1 : Nat)⟩, ⟨0, 0, [], esV s.2⟩]) [1, 2] (fun s => cs.length - s.1) (0, l) ⟨Nat.zero_le _, g, rfl⟩ (Nat.zero_le _) byC (fun s hI1 => ?_)
      simp only [go_sem]
      obtain ⟨i1, i2, i3⟩ := hI1
      refine cx_seq ?_
      refine cx_sr ?_
      simp only [go_sem]
      repeat first | (with_reducible refine side_d ?_ ?_; exact byD) | (with_reducible refine side_q ?_ ?_; exact byQ)
      intro t26 e26
      repeat first | (with_reducible refine side_d ?_ ?_; exact byD) | (with_reducible refine side_q ?_ ?_; exact byQ)
      subst e26
      refine cx_if _ rfl (fun h26 => ?_) (fun h26 => ?_)
      ·
        (try simp only [go_sem] at h26)
        have hcm : cs.getD s.1 default ∈ cs := getD_mem (by omega)
        have hdr : cs.drop s.1 = cs.getD s.1 default :: cs.drop (s.1 + 1) := by
          rw [List.drop_eq_getElem_cons (by omega)]
          simp [List.getD, show s.1 < cs.length by omega]
        refine cx_skip ?_
        (try simp only [go_sem])
        refine cx_seq (cx_block ?_)
        refine cx_sr ?_
        simp only [go_sem]
        repeat first | (with_reducible refine side_d ?_ ?_; exact byD) | (with_reducible refine side_q ?_ ?_; exact byQ)
        refine cw_m (ChangeOfF_c s.2 (cs.getD s.1 default) v i2 (ok.2 _ hcm)) byW byT ?_
        simp only [go_sem]
        repeat first | (with_reducible refine side_d ?_ ?_; exact byD) | (with_reducible refine side_q ?_ ?_; exact byQ)
        refine cx_seq ?_
        refine cx_sr ?_
        simp only [go_sem]
        repeat first | (with_reducible refine side_d ?_ ?_; exact byD) | (with_reducible refine side_q ?_ ?_; exact byQ)
        intro t40 e40
        repeat first | (with_reducible refine side_d ?_ ?_; exact byD) | (with_reducible refine side_q ?_ ?_; exact byQ)
        subst e40
        refine cx_if _ rfl (fun h40 => ?_) (fun h40 => ?_)
        ·
          (try simp only [go_sem] at h40)
          refine cx_sr ?_
          simp only [go_sem]
          repeat first | (with_reducible refine side_d ?_ ?_; exact byD) | (with_reducible refine side_q ?_ ?_; exact byQ)
          refine cx_ret ?_
          simp only [go_sem]
          have he2 : allR l cs v = ([], (s.1 : Int), rawErr s.2 (cs.getD s.1 default) v) := by rw [he, i3, hdr, allRun, if_pos (by simpa using h40)]
          rw [he2]
          exact finx_of 1 [] rfl byC byC byC byC
        ·
          (try simp only [go_sem] at h40)
          refine cx_skip ?_
          (try simp only [go_sem])
          refine cx_region ?_
          simp only [go_sem]
          repeat first | (with_reducible refine side_d ?_ ?_; exact byD) | (with_reducible refine side_q ?_ ?_; exact byQ)
          refine cx_region ?_
          simp only [go_sem]
          repeat first | (with_reducible refine side_d ?_ ?_; exact byD) | (with_reducible refine side_q ?_ ?_; exact byQ)
          intro t28 e28
          (try replace e28 := w64 e28 (by omega) (by omega))
          repeat first | (with_reducible refine side_d ?_ ?_; exact byD) | (with_reducible refine side_q ?_ ?_; exact byQ)
          have h48' : rawErr s.2 (cs.getD s.1 default) v = 0 := by simpa using h40
          have hr : rawP s.2 (cs.getD s.1 default) v = madeP s.2 (cs.getD s.1 default) v := by rw [rawP, if_pos h48']
          refine rnd_next (s.1 + 1, madeP s.2 (cs.getD s.1 default) v) ⟨by dsimp only; omega, made_good i2 (ok.2 _ hcm) h48', ?_⟩ (by first | omega | (dsimp only; omega)) ?_
          · rw [i3, hdr, allRun, if_neg (by simpa using h48')]
            rfl
          · rw [hr]; exact byC
      ·
        (try simp only [go_sem] at h26)
        refine cx_exit ?_
        simp only [go_sem]
        refine cx_sr ?_
        simp only [go_sem]
        repeat first | (with_reducible refine side_d ?_ ?_; exact byD) | (with_reducible refine side_q ?_ ?_; exact byQ)
        refine cx_ret ?_
        simp only [go_sem]
        have hi : s.1 = cs.length := by omega
        have he2 : allR l cs v = (s.2, (cs.length : Int), 0) := by rw [he, i3, hi, List.drop_length, allRun]
        rw [he2]
        exact finx_of 1 [] rfl byC byC byC byC
theorem apply_len (l : List Entry) (c : Change) (v : Int) : (applyP l c v).length < 4611686018427387904 ∨ 1048576 < l.length := by
  unfold applyP
  split
  · have := madeP_len l c v
    omega
  · simp
theorem rawP_len (l : List Entry) (c : Change) (v : Int) : (rawP l c v).length ≤ 2 * l.length + 1 := by
  have := madeP_len l c v
  unfold rawP
  split
  · omega
  · simp
theorem applyP_len (l : List Entry) (c : Change) (v : Int) : (applyP l c v).length ≤ 2 * l.length + 1 := by
  have := madeP_len l c v
  unfold applyP
  split
  · omega
  · simp
theorem TreeApplies_c (l : List Entry) (c : Change) (v : Int) (okl : okE l) (ok : okC c) : Meets Tryd.prog 5 [esV l, .agg c.enc, .int .i64 v] (.bool true) [] := by
  refine meets_x (fn := Tryd.f5) Tryd.func5 rfl fb5 (by kernel_rfl) (Nat.le_of_ble_eq_true rfl) ?_
  have hl := okl.1
  have hal := applyP_len l c v
  have hrl := rawP_len l c v
  refine cx_sr ?_
  simp only [go_sem]
  repeat first | (with_reducible refine side_d ?_ ?_; exact byD) | (with_reducible refine side_q ?_ ?_; exact byQ)
  refine cx_sr ?_
  simp only [go_sem]
  repeat first | (with_reducible refine side_d ?_ ?_; exact byD) | (with_reducible refine side_q ?_ ?_; exact byQ)
  refine cw_m (Apply_c l c v okl ok) byW byT ?_
  simp only [go_sem]
  repeat first | (with_reducible refine side_d ?_ ?_; exact byD) | (with_reducible refine side_q ?_ ?_; exact byQ)
  refine cx_sr ?_
  simp only [go_sem]
  repeat first | (with_reducible refine side_d ?_ ?_; exact byD) | (with_reducible refine side_q ?_ ?_; exact byQ)
  refine cw_m (RCheckTree_c l okl) byW byT ?_
  simp only [go_sem]
  repeat first | (with_reducible refine side_d ?_ ?_; exact byD) | (with_reducible refine side_q ?_ ?_; exact byQ)
  refine cx_seq ?_
  refine cx_sr ?_
  simp only [go_sem]
  repeat first | (with_reducible refine side_d ?_ ?_; exact byD) | (with_reducible refine side_q ?_ ?_; exact byQ)
  intro t21 e21
  repeat first | (with_reducible refine side_d ?_ ?_; exact byD) | (with_reducible refine side_q ?_ ?_; exact byQ)
  refine ⟨_, fun hp => cw_m (RIsVersion_c v) byW byT ⟨rfl, rfl⟩, ?_⟩
  simp only [go_sem]
  repeat first | (with_reducible refine side_d ?_ ?_; exact byD) | (with_reducible refine side_q ?_ ?_; exact byQ)
  intro t25 e25
  repeat first | (with_reducible refine side_d ?_ ?_; exact byD) | (with_reducible refine side_q ?_ ?_; exact byQ)
  intro t26 e26
  rw [bsel_and] at e26
  repeat first | (with_reducible refine side_d ?_ ?_; exact byD) | (with_reducible refine side_q ?_ ?_; exact byQ)
  subst e21 e25 e26
  refine cx_if _ rfl (fun h26 => ?_) (fun h26 => ?_)
  ·
    (try simp only [go_sem] at h26)
    refine cx_region ?_
    simp only [go_sem]
    repeat first | (with_reducible refine side_d ?_ ?_; exact byD) | (with_reducible refine side_q ?_ ?_; exact byQ)
    refine cx_sr ?_
    simp only [go_sem]
    repeat first | (with_reducible refine side_d ?_ ?_; exact byD) | (with_reducible refine side_q ?_ ?_; exact byQ)
    refine cx_seq ?_
    refine cx_sr ?_
    simp only [go_sem]
    repeat first | (with_reducible refine side_d ?_ ?_; exact byD) | (with_reducible refine side_q ?_ ?_; exact byQ)
    intro t28 e28
    repeat first | (with_reducible refine side_d ?_ ?_; exact byD) | (with_reducible refine side_q ?_ ?_; exact byQ)
    subst e28
    refine cx_meet0 (σ := List Entry × Int) (fun m => applyErr l c v = m.2 ∧ applyP l c v = (if m.2 = 0 then m.1 else []) ∧ m.1.length ≤ 2 * l.length + 1) (fun m => [⟨10, 0, [], esV m.1⟩, ⟨9, 0, [], .int .i64 m.2⟩]) [6, 7, 8] (Nat.zero_le _) ?_ (fun m hIM1 => ?_)
    ·
      refine cx_if _ rfl (fun h28 => no_if h28) (fun h28 => ?_)
      refine cx_skip ?_
      (try simp only [go_sem])
      have h1 : checkT l = 0 := by grind
      have h2 : verB v = false := by unfold verB; grind
      have he : applyErr l c v = 3 := by rw [applyErr, if_neg (by simpa using h1), if_pos h2]
      have hp : applyP l c v = [] := by rw [applyP, he, if_neg (by decide)]
      refine mt_next ([], 3) ⟨he, by rw [hp]; rfl, by simp⟩ byC
    simp only [go_sem]
    refine cx_sr ?_
    simp only [go_sem]
    repeat first | (with_reducible refine side_d ?_ ?_; exact byD) | (with_reducible refine side_q ?_ ?_; exact byQ)
    refine cw_m (treeBegun_c) byW byT ?_
    simp only [go_sem]
    repeat first | (with_reducible refine side_d ?_ ?_; exact byD) | (with_reducible refine side_q ?_ ?_; exact byQ)
    refine ⟨_, fun hp => cw_v 2 (treeIs_c (applyP l c v) (applyErr l c v) m.2 m.1 (by omega) (by omega)) byV byC rfl ⟨rfl, rfl⟩, ?_⟩
    simp only [go_sem]
    repeat first | (with_reducible refine side_d ?_ ?_; exact byD) | (with_reducible refine side_q ?_ ?_; exact byQ)
    intro t43 e43
    rw [bsel_and] at e43
    repeat first | (with_reducible refine side_d ?_ ?_; exact byD) | (with_reducible refine side_q ?_ ?_; exact byQ)
    subst e43
    refine cx_ret ?_
    simp only [go_sem]
    refine finw_bool ?_
    first | simp [hIM1.1, hIM1.2.1] | simp [hIM2.1, hIM2.2.1]
  ·
    (try simp only [go_sem] at h26)
    refine cx_skip ?_
    (try simp only [go_sem])
    refine cx_sr ?_
    simp only [go_sem]
    repeat first | (with_reducible refine side_d ?_ ?_; exact byD) | (with_reducible refine side_q ?_ ?_; exact byQ)
    refine cx_seq ?_
    refine cx_sr ?_
    simp only [go_sem]
    repeat first | (with_reducible refine side_d ?_ ?_; exact byD) | (with_reducible refine side_q ?_ ?_; exact byQ)
    intro t28 e28
    repeat first | (with_reducible refine side_d ?_ ?_; exact byD) | (with_reducible refine side_q ?_ ?_; exact byQ)
    subst e28
    refine cx_meet0 (σ := List Entry × Int) (fun m => applyErr l c v = m.2 ∧ applyP l c v = (if m.2 = 0 then m.1 else []) ∧ m.1.length ≤ 2 * l.length + 1) (fun m => [⟨10, 0, [], esV m.1⟩, ⟨9, 0, [], .int .i64 m.2⟩]) [6, 7, 8] (Nat.zero_le _) ?_ (fun m hIM2 => ?_)
    ·
      refine cx_if _ rfl (fun h28 => ?_) (fun h28 => ?_)
      ·
        (try simp only [go_sem] at h28)
        have hck : checkT l = 0 := by simpa using h28
        have hg := checkT_good okl hck
        refine cx_region ?_
        simp only [go_sem]
        repeat first | (with_reducible refine side_d ?_ ?_; exact byD) | (with_reducible refine side_q ?_ ?_; exact byQ)
        refine cw_m (ChangeOfF_c l c v hg ok) byW byT ?_
        simp only [go_sem]
        repeat first | (with_reducible refine side_d ?_ ?_; exact byD) | (with_reducible refine side_q ?_ ?_; exact byQ)
        have h2 : ¬ verB v = false := by unfold verB; grind
        have he : applyErr l c v = rawErr l c v := by rw [applyErr, if_neg (by simpa using hck), if_neg h2]
        have hp : applyP l c v = if rawErr l c v = 0 then rawP l c v else [] := by rw [applyP, he]; unfold rawP; split <;> rfl
        refine mt_next (rawP l c v, rawErr l c v) ⟨he, hp, hrl⟩ byC
      ·
        (try simp only [go_sem] at h28)
        refine cx_skip ?_
        (try simp only [go_sem])
        have h1 : ¬ checkT l = 0 := by simpa using h28
        have he : applyErr l c v = checkT l := by rw [applyErr, if_pos h1]
        have hp : applyP l c v = [] := by rw [applyP, he, if_neg h1]
        refine mt_next ([], checkT l) ⟨he, by rw [hp, if_neg h1], by simp⟩ byC
    simp only [go_sem]
    refine cx_sr ?_
    simp only [go_sem]
    repeat first | (with_reducible refine side_d ?_ ?_; exact byD) | (with_reducible refine side_q ?_ ?_; exact byQ)
    refine cw_m (treeBegun_c) byW byT ?_
    simp only [go_sem]
    repeat first | (with_reducible refine side_d ?_ ?_; exact byD) | (with_reducible refine side_q ?_ ?_; exact byQ)
    refine ⟨_, fun hp => cw_v 2 (treeIs_c (applyP l c v) (applyErr l c v) m.2 m.1 (by omega) (by omega)) byV byC rfl ⟨rfl, rfl⟩, ?_⟩
    simp only [go_sem]
    repeat first | (with_reducible refine side_d ?_ ?_; exact byD) | (with_reducible refine side_q ?_ ?_; exact byQ)
    intro t43 e43
    rw [bsel_and] at e43
    repeat first | (with_reducible refine side_d ?_ ?_; exact byD) | (with_reducible refine side_q ?_ ?_; exact byQ)
    subst e43
    refine cx_ret ?_
    simp only [go_sem]
    refine finw_bool ?_
    first | simp [hIM1.1, hIM1.2.1] | simp [hIM2.1, hIM2.2.1]
/-- many changes: the program's and the document's -/
theorem allP_R (l : List Entry) (cs : List Change) (v : Int) : allP l cs v = if checkT l ≠ 0 then ([], 0, checkT l) else allR l cs v := rfl
theorem allRun_err : ∀ (cs : List Change) (t : List Entry) (v k : Int), (allRun v t cs k).2.2 ≠ 0 → (allRun v t cs k).1 = []
  | [], t, v, k, h => absurd rfl h
  | c :: cs, t, v, k, h => by
    unfold allRun at h ⊢
    split
    · rfl
    · rename_i hc
      rw [if_neg hc] at h
      exact allRun_err cs _ v _ h
theorem allR_err {l : List Entry} {cs : List Change} {v : Int} (h : (allR l cs v).2.2 ≠ 0) : (allR l cs v).1 = [] := by
  unfold allR at h ⊢
  split
  · rfl
  · rename_i h1
    rw [if_neg h1] at h
    split
    · rfl
    · rename_i h2
      rw [if_neg h2] at h
      exact allRun_err cs l v 0 h
theorem allRun_len : ∀ (cs : List Change) (t : List Entry) (v k : Int), (allRun v t cs k).1.length ≤ max 60 t.length
  | [], t, v, k => by unfold allRun; show t.length ≤ _; omega
  | c :: cs, t, v, k => by
    unfold allRun
    split
    · simp
    · rename_i hc
      have := allRun_len cs (madeP t c v) v (k + 1)
      have h2 := (done_0 (raw_0 (by simpa using hc)).2.2).2
      omega
theorem allR_len (l : List Entry) (cs : List Change) (v : Int) : (allR l cs v).1.length ≤ max 60 l.length := by
  unfold allR
  split
  · simp
  · split
    · simp
    · exact allRun_len cs l v 0
theorem allP_len (l : List Entry) (cs : List Change) (v : Int) : (allP l cs v).1.length ≤ max 60 l.length := by
  rw [allP_R]
  split
  · simp
  · exact allR_len l cs v
theorem TreeAlls_c (l : List Entry) (cs : List Change) (v : Int) (okl : okE l) (ok : okCs cs) : Meets Tryd.prog 6 [esV l, csV cs, .int .i64 v] (.bool true) [] := by
  refine meets_x (fn := Tryd.f6) Tryd.func6 rfl fb6 (by kernel_rfl) (Nat.le_of_ble_eq_true rfl) ?_
  have hl := okl.1
  have hal := allP_len l cs v
  have hrl := allR_len l cs v
  refine cx_sr ?_
  simp only [go_sem]
  repeat first | (with_reducible refine side_d ?_ ?_; exact byD) | (with_reducible refine side_q ?_ ?_; exact byQ)
  refine cx_sr ?_
  simp only [go_sem]
  repeat first | (with_reducible refine side_d ?_ ?_; exact byD) | (with_reducible refine side_q ?_ ?_; exact byQ)
  refine cw_m (All_c l cs v okl ok) byW byT ?_
  simp only [go_sem]
  repeat first | (with_reducible refine side_d ?_ ?_; exact byD) | (with_reducible refine side_q ?_ ?_; exact byQ)
  refine cx_sr ?_
  simp only [go_sem]
  repeat first | (with_reducible refine side_d ?_ ?_; exact byD) | (with_reducible refine side_q ?_ ?_; exact byQ)
  refine cw_m (RCheckTree_c l okl) byW byT ?_
  simp only [go_sem]
  repeat first | (with_reducible refine side_d ?_ ?_; exact byD) | (with_reducible refine side_q ?_ ?_; exact byQ)
  refine cx_sr ?_
  simp only [go_sem]
  repeat first | (with_reducible refine side_d ?_ ?_; exact byD) | (with_reducible refine side_q ?_ ?_; exact byQ)
  refine cx_seq ?_
  refine cx_sr ?_
  simp only [go_sem]
  repeat first | (with_reducible refine side_d ?_ ?_; exact byD) | (with_reducible refine side_q ?_ ?_; exact byQ)
  intro t24 e24
  repeat first | (with_reducible refine side_d ?_ ?_; exact byD) | (with_reducible refine side_q ?_ ?_; exact byQ)
  subst e24
  refine cx_meet0 (σ := List Entry × Int × Int) (fun m => allP l cs v = m ∧ m.1.length ≤ max 60 l.length ∧ (m.2.2 ≠ 0 → m.1 = [])) (fun m => [⟨12, 0, [], esV m.1⟩, ⟨11, 0, [], .int .i64 m.2.1⟩, ⟨10, 0, [], .int .i64 m.2.2⟩]) [6, 7, 8, 9] (Nat.zero_le _) ?_ (fun m hIM1 => ?_)
  ·
    refine cx_if _ rfl (fun h24 => ?_) (fun h24 => ?_)
    ·
      (try simp only [go_sem] at h24)
      have hck : checkT l = 0 := by simpa using h24
      have hg := checkT_good okl hck
      refine cx_region ?_
      simp only [go_sem]
      repeat first | (with_reducible refine side_d ?_ ?_; exact byD) | (with_reducible refine side_q ?_ ?_; exact byQ)
      refine cw_m (AllOf_c l cs v hg ok) byW byT ?_
      simp only [go_sem]
      repeat first | (with_reducible refine side_d ?_ ?_; exact byD) | (with_reducible refine side_q ?_ ?_; exact byQ)
      refine mt_next (allR l cs v) ⟨by rw [allP_R, if_neg (by simpa using hck)], hrl, allR_err⟩ byC
    ·
      (try simp only [go_sem] at h24)
      refine cx_skip ?_
      (try simp only [go_sem])
      have h1 : ¬ checkT l = 0 := by simpa using h24
      refine mt_next ([], 0, checkT l) ⟨by rw [allP_R, if_pos h1], by simp, fun _ => rfl⟩ byC
  simp only [go_sem]
  refine cx_sr ?_
  simp only [go_sem]
  repeat first | (with_reducible refine side_d ?_ ?_; exact byD) | (with_reducible refine side_q ?_ ?_; exact byQ)
  refine cw_m (treeBegun_c) byW byT ?_
  simp only [go_sem]
  repeat first | (with_reducible refine side_d ?_ ?_; exact byD) | (with_reducible refine side_q ?_ ?_; exact byQ)
  intro t37 e37
  repeat first | (with_reducible refine side_d ?_ ?_; exact byD) | (with_reducible refine side_q ?_ ?_; exact byQ)
  intro t38 e38
  rw [bsel_and] at e38
  repeat first | (with_reducible refine side_d ?_ ?_; exact byD) | (with_reducible refine side_q ?_ ?_; exact byQ)
  refine ⟨_, fun hp => cw_v 2 (treeIs_c (allP l cs v).1 (allP l cs v).2.2 m.2.2 m.1 (by omega) (by omega)) byV byC rfl ⟨rfl, rfl⟩, ?_⟩
  simp only [go_sem]
  repeat first | (with_reducible refine side_d ?_ ?_; exact byD) | (with_reducible refine side_q ?_ ?_; exact byQ)
  intro t45 e45
  rw [bsel_and] at e45
  repeat first | (with_reducible refine side_d ?_ ?_; exact byD) | (with_reducible refine side_q ?_ ?_; exact byQ)
  subst e37 e38 e45
  refine cx_ret ?_
  simp only [go_sem]
  refine finw_bool ?_
  obtain ⟨q1, q2, q3⟩ := hIM1
  rw [q1]
  by_cases h0 : m.2.2 = 0
  · simp [h0]
  · simp [h0, q3 h0]
end Go.VM.Tryd
end
section
set_option linter.unusedVariables false
set_option linter.unusedSimpArgs false
open Go Go.VM Go.Proofs Tether
namespace Go.VM.Tryd
set_option maxRecDepth 100000
theorem findP_idx {l : List Entry} {p : Str} (h1 : checkT l = 0) (h2 : checkP [p] = 0) : findP l p = match findE l p with | none => (noE, 5) | some x => (x, 0) := by
  rw [findP, if_neg (by simpa using h1), if_neg (by simpa using h2)]
  cases findE l p <;> rfl
theorem TreeFinds_c (l : List Entry) (p : Str) (ok : okE l) (hp : p.length ≤ 1048576) : Meets Tryd.prog 10 [esV l, .str p] (.bool true) [] := by
  refine meets_x (fn := Tryd.f10) Tryd.func10 rfl fb10 (by kernel_rfl) (Nat.le_of_ble_eq_true rfl) ?_
  have hl := ok.1
  refine cx_sr ?_
  simp only [go_sem]
  repeat first | (with_reducible refine side_d ?_ ?_; exact byD) | (with_reducible refine side_q ?_ ?_; exact byQ)
  refine cx_sr ?_
  simp only [go_sem]
  repeat first | (with_reducible refine side_d ?_ ?_; exact byD) | (with_reducible refine side_q ?_ ?_; exact byQ)
  refine cw_m (Find_c l p ok hp) byW byT ?_
  simp only [go_sem]
  repeat first | (with_reducible refine side_d ?_ ?_; exact byD) | (with_reducible refine side_q ?_ ?_; exact byQ)
  refine cx_sr ?_
  simp only [go_sem]
  repeat first | (with_reducible refine side_d ?_ ?_; exact byD) | (with_reducible refine side_q ?_ ?_; exact byQ)
  refine cw_m (RCheckTree_c l ok) byW byT ?_
  simp only [go_sem]
  repeat first | (with_reducible refine side_d ?_ ?_; exact byD) | (with_reducible refine side_q ?_ ?_; exact byQ)
  refine cx_seq ?_
  refine cx_sr ?_
  simp only [go_sem]
  repeat first | (with_reducible refine side_d ?_ ?_; exact byD) | (with_reducible refine side_q ?_ ?_; exact byQ)
  intro t20 e20
  repeat first | (with_reducible refine side_d ?_ ?_; exact byD) | (with_reducible refine side_q ?_ ?_; exact byQ)
  subst e20
  refine cx_if _ rfl (fun h20 => ?_) (fun h20 => ?_)
  ·
    (try simp only [go_sem] at h20)
    refine cx_region ?_
    simp only [go_sem]
    repeat first | (with_reducible refine side_d ?_ ?_; exact byD) | (with_reducible refine side_q ?_ ?_; exact byQ)
    refine cw_m (CheckPath_c p (by omega)) byW byT ?_
    simp only [go_sem]
    repeat first | (with_reducible refine side_d ?_ ?_; exact byD) | (with_reducible refine side_q ?_ ?_; exact byQ)
    refine cx_seq ?_
    refine cx_sr ?_
    simp only [go_sem]
    repeat first | (with_reducible refine side_d ?_ ?_; exact byD) | (with_reducible refine side_q ?_ ?_; exact byQ)
    intro t24 e24
    repeat first | (with_reducible refine side_d ?_ ?_; exact byD) | (with_reducible refine side_q ?_ ?_; exact byQ)
    subst e24
    refine cx_if _ rfl (fun h24 => ?_) (fun h24 => ?_)
    ·
      (try simp only [go_sem] at h24)
      refine cx_sr ?_
      simp only [go_sem]
      repeat first | (with_reducible refine side_d ?_ ?_; exact byD) | (with_reducible refine side_q ?_ ?_; exact byQ)
      refine cw_m (EntryAt_c l p (by omega)) byW byT ?_
      simp only [go_sem]
      repeat first | (with_reducible refine side_d ?_ ?_; exact byD) | (with_reducible refine side_q ?_ ?_; exact byQ)
      refine cx_sr ?_
      simp only [go_sem]
      repeat first | (with_reducible refine side_d ?_ ?_; exact byD) | (with_reducible refine side_q ?_ ?_; exact byQ)
      intro t29 e29
      repeat first | (with_reducible refine side_d ?_ ?_; exact byD) | (with_reducible refine side_q ?_ ?_; exact byQ)
      subst e29
      refine cx_if _ rfl (fun h29 => ?_) (fun h29 => ?_)
      ·
        (try simp only [go_sem] at h29)
        have hix : ∃ i : Nat, idxF (isAt p) l = (i : Int) ∧ i < l.length ∧ findE l p = some (l.getD i default) := by
          rcases find_idx l p with ⟨h1, _⟩ | h
          · omega
          · exact h
        obtain ⟨i, hi1, hi2, hi3⟩ := hix
        refine cx_region ?_
        simp only [go_sem]
        repeat first | (with_reducible refine side_d ?_ ?_; exact byD) | (with_reducible refine side_q ?_ ?_; exact byQ)
        refine cx_sr ?_
        simp only [go_sem]
        repeat first | (with_reducible refine side_d ?_ ?_; exact byD) | (with_reducible refine side_q ?_ ?_; exact byQ)
        refine cw_m (treeBegun_c) byW byT ?_
        simp only [go_sem]
        repeat first | (with_reducible refine side_d ?_ ?_; exact byD) | (with_reducible refine side_q ?_ ?_; exact byQ)
        intro t38 e38
        repeat first | (with_reducible refine side_d ?_ ?_; exact byD) | (with_reducible refine side_q ?_ ?_; exact byQ)
        intro t39 e39
        rw [bsel_and] at e39
        repeat first | (with_reducible refine side_d ?_ ?_; exact byD) | (with_reducible refine side_q ?_ ?_; exact byQ)
        intro t43 e43
        repeat first | (with_reducible refine side_d ?_ ?_; exact byD) | (with_reducible refine side_q ?_ ?_; exact byQ)
        intro t44 e44
        rw [bsel_and] at e44
        repeat first | (with_reducible refine side_d ?_ ?_; exact byD) | (with_reducible refine side_q ?_ ?_; exact byQ)
        subst e38 e39 e43 e44
        refine cx_ret ?_
        simp only [go_sem]
        refine finw_bool ?_
        have hf : findP l p = (l.getD i default, 0) := by rw [findP_idx (by simpa using h20) (by simpa using h24), hi3]
        have h24' : checkP [p] = 0 := by simpa using h24
        simp [hf, hi1, h24']
      ·
        (try simp only [go_sem] at h29)
        refine cx_region ?_
        simp only [go_sem]
        repeat first | (with_reducible refine side_d ?_ ?_; exact byD) | (with_reducible refine side_q ?_ ?_; exact byQ)
        refine cx_sr ?_
        simp only [go_sem]
        repeat first | (with_reducible refine side_d ?_ ?_; exact byD) | (with_reducible refine side_q ?_ ?_; exact byQ)
        refine cw_m (treeBegun_c) byW byT ?_
        simp only [go_sem]
        repeat first | (with_reducible refine side_d ?_ ?_; exact byD) | (with_reducible refine side_q ?_ ?_; exact byQ)
        intro t38 e38
        repeat first | (with_reducible refine side_d ?_ ?_; exact byD) | (with_reducible refine side_q ?_ ?_; exact byQ)
        intro t39 e39
        rw [bsel_and] at e39
        repeat first | (with_reducible refine side_d ?_ ?_; exact byD) | (with_reducible refine side_q ?_ ?_; exact byQ)
        intro t43 e43
        repeat first | (with_reducible refine side_d ?_ ?_; exact byD) | (with_reducible refine side_q ?_ ?_; exact byQ)
        intro t44 e44
        rw [bsel_and] at e44
        repeat first | (with_reducible refine side_d ?_ ?_; exact byD) | (with_reducible refine side_q ?_ ?_; exact byQ)
        subst e38 e39 e43 e44
        refine cx_ret ?_
        simp only [go_sem]
        refine finw_bool ?_
        have hn : findE l p = none := by
          rcases find_idx l p with ⟨_, h2⟩ | ⟨i, h1, _⟩
          · exact h2
          · omega
        have hf : findP l p = (noE, 5) := by rw [findP_idx (by simpa using h20) (by simpa using h24), hn]
        simp [hf, noE]
    ·
      (try simp only [go_sem] at h24)
      refine cx_skip ?_
      (try simp only [go_sem])
      refine cx_sr ?_
      simp only [go_sem]
      repeat first | (with_reducible refine side_d ?_ ?_; exact byD) | (with_reducible refine side_q ?_ ?_; exact byQ)
      refine cw_m (treeBegun_c) byW byT ?_
      simp only [go_sem]
      repeat first | (with_reducible refine side_d ?_ ?_; exact byD) | (with_reducible refine side_q ?_ ?_; exact byQ)
      intro t38 e38
      repeat first | (with_reducible refine side_d ?_ ?_; exact byD) | (with_reducible refine side_q ?_ ?_; exact byQ)
      intro t39 e39
      rw [bsel_and] at e39
      repeat first | (with_reducible refine side_d ?_ ?_; exact byD) | (with_reducible refine side_q ?_ ?_; exact byQ)
      intro t43 e43
      repeat first | (with_reducible refine side_d ?_ ?_; exact byD) | (with_reducible refine side_q ?_ ?_; exact byQ)
      intro t44 e44
      rw [bsel_and] at e44
      repeat first | (with_reducible refine side_d ?_ ?_; exact byD) | (with_reducible refine side_q ?_ ?_; exact byQ)
      subst e38 e39 e43 e44
      refine cx_ret ?_
      simp only [go_sem]
      refine finw_bool ?_
      have hf : findP l p = (noE, checkP [p]) := by rw [findP, if_neg (by simpa using h20), if_pos (by simpa using h24)]
      simp [hf, noE]
  ·
    (try simp only [go_sem] at h20)
    refine cx_skip ?_
    (try simp only [go_sem])
    refine cx_seq ?_
    refine cx_sr ?_
    simp only [go_sem]
    repeat first | (with_reducible refine side_d ?_ ?_; exact byD) | (with_reducible refine side_q ?_ ?_; exact byQ)
    intro t24 e24
    repeat first | (with_reducible refine side_d ?_ ?_; exact byD) | (with_reducible refine side_q ?_ ?_; exact byQ)
    subst e24
    refine cx_if _ rfl (fun h24 => ?_) (fun h24 => ?_)
    ·
      (try simp only [go_sem] at h24)
      refine cx_sr ?_
      simp only [go_sem]
      repeat first | (with_reducible refine side_d ?_ ?_; exact byD) | (with_reducible refine side_q ?_ ?_; exact byQ)
      refine cw_m (EntryAt_c l p (by omega)) byW byT ?_
      simp only [go_sem]
      repeat first | (with_reducible refine side_d ?_ ?_; exact byD) | (with_reducible refine side_q ?_ ?_; exact byQ)
      refine cx_sr ?_
      simp only [go_sem]
      repeat first | (with_reducible refine side_d ?_ ?_; exact byD) | (with_reducible refine side_q ?_ ?_; exact byQ)
      intro t29 e29
      repeat first | (with_reducible refine side_d ?_ ?_; exact byD) | (with_reducible refine side_q ?_ ?_; exact byQ)
      subst e29
      refine cx_if _ rfl (fun h29 => ?_) (fun h29 => ?_)
      ·
        (try simp only [go_sem] at h29)
        have hix : ∃ i : Nat, idxF (isAt p) l = (i : Int) ∧ i < l.length ∧ findE l p = some (l.getD i default) := by
          rcases find_idx l p with ⟨h1, _⟩ | h
          · omega
          · exact h
        obtain ⟨i, hi1, hi2, hi3⟩ := hix
        refine cx_region ?_
        simp only [go_sem]
        repeat first | (with_reducible refine side_d ?_ ?_; exact byD) | (with_reducible refine side_q ?_ ?_; exact byQ)
        refine cx_sr ?_
        simp only [go_sem]
        repeat first | (with_reducible refine side_d ?_ ?_; exact byD) | (with_reducible refine side_q ?_ ?_; exact byQ)
        refine cw_m (treeBegun_c) byW byT ?_
        simp only [go_sem]
        repeat first | (with_reducible refine side_d ?_ ?_; exact byD) | (with_reducible refine side_q ?_ ?_; exact byQ)
        intro t38 e38
        repeat first | (with_reducible refine side_d ?_ ?_; exact byD) | (with_reducible refine side_q ?_ ?_; exact byQ)
        intro t39 e39
        rw [bsel_and] at e39
        repeat first | (with_reducible refine side_d ?_ ?_; exact byD) | (with_reducible refine side_q ?_ ?_; exact byQ)
        intro t43 e43
        repeat first | (with_reducible refine side_d ?_ ?_; exact byD) | (with_reducible refine side_q ?_ ?_; exact byQ)
        intro t44 e44
        rw [bsel_and] at e44
        repeat first | (with_reducible refine side_d ?_ ?_; exact byD) | (with_reducible refine side_q ?_ ?_; exact byQ)
        subst e38 e39 e43 e44
        refine cx_ret ?_
        simp only [go_sem]
        exact absurd h24 (by simpa using h20)
      ·
        (try simp only [go_sem] at h29)
        refine cx_region ?_
        simp only [go_sem]
        repeat first | (with_reducible refine side_d ?_ ?_; exact byD) | (with_reducible refine side_q ?_ ?_; exact byQ)
        refine cx_sr ?_
        simp only [go_sem]
        repeat first | (with_reducible refine side_d ?_ ?_; exact byD) | (with_reducible refine side_q ?_ ?_; exact byQ)
        refine cw_m (treeBegun_c) byW byT ?_
        simp only [go_sem]
        repeat first | (with_reducible refine side_d ?_ ?_; exact byD) | (with_reducible refine side_q ?_ ?_; exact byQ)
        intro t38 e38
        repeat first | (with_reducible refine side_d ?_ ?_; exact byD) | (with_reducible refine side_q ?_ ?_; exact byQ)
        intro t39 e39
        rw [bsel_and] at e39
        repeat first | (with_reducible refine side_d ?_ ?_; exact byD) | (with_reducible refine side_q ?_ ?_; exact byQ)
        intro t43 e43
        repeat first | (with_reducible refine side_d ?_ ?_; exact byD) | (with_reducible refine side_q ?_ ?_; exact byQ)
        intro t44 e44
        rw [bsel_and] at e44
        repeat first | (with_reducible refine side_d ?_ ?_; exact byD) | (with_reducible refine side_q ?_ ?_; exact byQ)
        subst e38 e39 e43 e44
        refine cx_ret ?_
        simp only [go_sem]
        exact absurd h24 (by simpa using h20)
    ·
      (try simp only [go_sem] at h24)
      refine cx_skip ?_
      (try simp only [go_sem])
      refine cx_sr ?_
      simp only [go_sem]
      repeat first | (with_reducible refine side_d ?_ ?_; exact byD) | (with_reducible refine side_q ?_ ?_; exact byQ)
      refine cw_m (treeBegun_c) byW byT ?_
      simp only [go_sem]
      repeat first | (with_reducible refine side_d ?_ ?_; exact byD) | (with_reducible refine side_q ?_ ?_; exact byQ)
      intro t38 e38
      repeat first | (with_reducible refine side_d ?_ ?_; exact byD) | (with_reducible refine side_q ?_ ?_; exact byQ)
      intro t39 e39
      rw [bsel_and] at e39
      repeat first | (with_reducible refine side_d ?_ ?_; exact byD) | (with_reducible refine side_q ?_ ?_; exact byQ)
      intro t43 e43
      repeat first | (with_reducible refine side_d ?_ ?_; exact byD) | (with_reducible refine side_q ?_ ?_; exact byQ)
      intro t44 e44
      rw [bsel_and] at e44
      repeat first | (with_reducible refine side_d ?_ ?_; exact byD) | (with_reducible refine side_q ?_ ?_; exact byQ)
      subst e38 e39 e43 e44
      refine cx_ret ?_
      simp only [go_sem]
      refine finw_bool ?_
      have hf : findP l p = (noE, checkT l) := by rw [findP, if_pos (by simpa using h20)]
      simp [hf, noE]
def chooseP (c n : Int) : Int := (if c < 0 then -(c + 1) else c) % n
theorem choose_c (c : Int) (h0 : -9223372036854775808 ≤ c) (h1 : c ≤ 9223372036854775807) (n : Int) (hn : 0 < n) (hn2 : n ≤ 1000001) : Meets Tryd.prog 32 [.int .i64 c, .int .i64 n] (.int .i64 (chooseP c n)) [] := by
  refine meets_x (fn := Tryd.f32) Tryd.func32 rfl fb32 (by kernel_rfl) (Nat.le_of_ble_eq_true rfl) ?_
  have h2c : -(c + 1) = -c - 1 := by omega
  refine cx_sr ?_
  simp only [go_sem]
  repeat first | (with_reducible refine side_d ?_ ?_; exact byD) | (with_reducible refine side_q ?_ ?_; exact byQ)
  refine cx_seq ?_
  refine cx_sr ?_
  simp only [go_sem]
  repeat first | (with_reducible refine side_d ?_ ?_; exact byD) | (with_reducible refine side_q ?_ ?_; exact byQ)
  intro t6 e6
  repeat first | (with_reducible refine side_d ?_ ?_; exact byD) | (with_reducible refine side_q ?_ ?_; exact byQ)
  subst e6
  refine cx_if _ rfl (fun h6 => ?_) (fun h6 => ?_)
  ·
    (try simp only [go_sem] at h6)
    refine cx_region ?_
    simp only [go_sem]
    repeat first | (with_reducible refine side_d ?_ ?_; exact byD) | (with_reducible refine side_q ?_ ?_; exact byQ)
    intro t8 e8
    (try replace e8 := w64 e8 (by omega) (by omega))
    repeat first | (with_reducible refine side_d ?_ ?_; exact byD) | (with_reducible refine side_q ?_ ?_; exact byQ)
    intro t9 e9
    repeat first | (with_reducible refine side_d ?_ ?_; exact byD) | (with_reducible refine side_q ?_ ?_; exact byQ)
    refine cx_sr ?_
    simp only [go_sem]
    repeat first | (with_reducible refine side_d ?_ ?_; exact byD) | (with_reducible refine side_q ?_ ?_; exact byQ)
    intro t12 e12
    repeat first | (with_reducible refine side_d ?_ ?_; exact byD) | (with_reducible refine side_q ?_ ?_; exact byQ)
    refine cx_ret ?_
    simp only [go_sem]
    refine finw_int ?_
    have h6' : c < 0 := by simpa using h6
    have e9' : t9 = -(c + 1) := by rw [e9]; simp [IntKind.wrap, IntKind.bits, IntKind.signed]; omega
    rw [chooseP, if_pos h6', ← e9', e12, Int.tmod_eq_emod_of_nonneg (by omega)]
  ·
    (try simp only [go_sem] at h6)
    refine cx_skip ?_
    (try simp only [go_sem])
    refine cx_sr ?_
    simp only [go_sem]
    repeat first | (with_reducible refine side_d ?_ ?_; exact byD) | (with_reducible refine side_q ?_ ?_; exact byQ)
    intro t12 e12
    repeat first | (with_reducible refine side_d ?_ ?_; exact byD) | (with_reducible refine side_q ?_ ?_; exact byQ)
    refine cx_ret ?_
    simp only [go_sem]
    refine finw_int ?_
    have h6' : ¬ c < 0 := by simpa using h6
    rw [chooseP, if_neg h6', e12, Int.tmod_eq_emod_of_nonneg (by omega)]
/-! ### Elder bases -/
def newestP (p : Str) (l : List Entry) : Int := l.foldl (fun n x => if isIn x.path p = true then (if x.version > n then x.version else n) else n) 0
theorem newest_snoc {p : Str} {l : List Entry} {i : Nat} (h : i < l.length) : newestP p (l.take (i + 1)) = if isIn (l.getD i default).path p = true then (if (l.getD i default).version > newestP p (l.take i) then (l.getD i default).version else newestP p (l.take i)) else newestP p (l.take i) := by
  have hd : l.getD i default = l[i] := by simp [List.getD, h]
  rw [hd, List.take_add_one, List.getElem?_eq_getElem h]
  simp only [newestP, List.foldl_append, Option.toList, List.foldl_cons, List.foldl_nil]
  rfl
theorem newest_lt {p : Str} {b : Int} (hb : 0 ≤ b) (l : List Entry) : b < newestP p l ↔ ∃ x ∈ l, isIn x.path p = true ∧ b < x.version := by
  have key : ∀ (l : List Entry) (n : Int), b < l.foldl (fun n x => if isIn x.path p = true then (if x.version > n then x.version else n) else n) n ↔ b < n ∨ ∃ x ∈ l, isIn x.path p = true ∧ b < x.version := by
    intro l
    induction l with
    | nil => intro n; simp
    | cons y l ih =>
      intro n
      rw [List.foldl_cons, ih]
      simp only [List.mem_cons, exists_eq_or_imp]
      by_cases h1 : isIn y.path p = true
      · rw [if_pos h1]
        by_cases h2 : y.version > n
        · rw [if_pos h2]
          constructor
          · rintro (h | h)
            · exact .inr (.inl ⟨h1, h⟩)
            · exact .inr (.inr h)
          · rintro (h | ⟨_, h⟩ | h)
            · exact .inl (by omega)
            · exact .inl h
            · exact .inr h
        · rw [if_neg h2]
          constructor
          · rintro (h | h)
            · exact .inl h
            · exact .inr (.inr h)
          · rintro (h | ⟨_, h⟩ | h)
            · exact .inl h
            · exact .inl (by omega)
            · exact .inr h
      · rw [if_neg h1]
        simp [h1]
  have := key l 0
  unfold newestP
  rw [this]
  constructor
  · rintro (h | h)
    · omega
    · exact h
  · exact .inr
/-- of the same change, by another base -/
def reb (c : Change) (b : Int) : Change := ⟨c.kind, c.path, c.to, c.text, b⟩
theorem form_reb {c : Change} {b : Int} (h0 : 0 ≤ b) (h1 : b ≤ 1000000) : formP (reb c b) = formP (reb c (-1)) := by
  simp only [formP, reb]
  grind
theorem may_reb {l : List Entry} {c : Change} {b : Int} (h0 : 0 ≤ b) : mayP l (reb c b) = if mayP l (reb c (-1)) = 0 then (if l.any (staleB (reb c b)) = true then 8 else 0) else mayP l (reb c (-1)) := by
  simp only [mayP, reb, goalP]
  grind
theorem stale_reb {l : List Entry} {c : Change} {b : Int} (h0 : 0 ≤ b) : l.any (staleB (reb c b)) = true ↔ b < newestP c.path l := by
  rw [newest_lt h0, List.any_eq_true]
  constructor
  · rintro ⟨x, h1, h2⟩
    unfold staleB reb at h2
    rw [Bool.and_eq_true, decide_eq_true_eq] at h2
    exact ⟨x, h1, h2.2, h2.1⟩
  · rintro ⟨x, h1, h2, h3⟩
    refine ⟨x, h1, ?_⟩
    unfold staleB reb
    rw [Bool.and_eq_true, decide_eq_true_eq]
    exact ⟨h3, h2⟩
theorem apply_reb {l : List Entry} {c : Change} {v b : Int} (h0 : 0 ≤ b) (h1 : b ≤ 1000000) :
    (applyErr l (reb c (-1)) v ≠ 0 → applyErr l (reb c b) v ≠ 0) ∧ (applyErr l (reb c (-1)) v = 0 → applyErr l (reb c b) v = if b < newestP c.path l then 8 else 0) := by
  have hd : doneErr l (reb c b) v = doneErr l (reb c (-1)) v := rfl
  have hf := form_reb (c := c) h0 h1
  have hm := may_reb (l := l) (c := c) h0
  have hs := stale_reb (l := l) (c := c) h0
  constructor
  · intro h
    unfold applyErr rawErr at h ⊢
    rw [hd, hf, hm]
    grind
  · intro h
    unfold applyErr rawErr at h ⊢
    rw [hd, hf, hm]
    grind
theorem TreeStale_c (l : List Entry) (c : Change) (v base : Int) (okl : okE l) (ok : okC c) (h0 : -9223372036854775808 ≤ base) (h1 : base ≤ 9223372036854775807) : Meets Tryd.prog 8 [esV l, .agg c.enc, .int .i64 v, .int .i64 base] (.bool true) [] := by
  refine meets_x (fn := Tryd.f8) Tryd.func8 rfl fb8 (by kernel_rfl) (Nat.le_of_ble_eq_true rfl) ?_
  have hl := okl.1
  have hb0 : 0 ≤ chooseP base 1000001 := Int.emod_nonneg _ (by decide)
  have hb1 : chooseP base 1000001 < 1000001 := Int.emod_lt_of_pos _ (by decide)
  have hap := apply_reb (l := l) (c := c) (v := v) hb0 (by omega)
  refine cx_sr ?_
  simp only [go_sem]
  repeat first | (with_reducible refine side_d ?_ ?_; exact byD) | (with_reducible refine side_q ?_ ?_; exact byQ)
  refine cx_seq ?_
  refine cx_sr ?_
  simp only [go_sem]
  repeat first | (with_reducible refine side_d ?_ ?_; exact byD) | (with_reducible refine side_q ?_ ?_; exact byQ)
  refine cw_m (treeBegun_c) byW byT ?_
  simp only [go_sem]
  repeat first | (with_reducible refine side_d ?_ ?_; exact byD) | (with_reducible refine side_q ?_ ?_; exact byQ)
  intro t16 e16
  repeat first | (with_reducible refine side_d ?_ ?_; exact byD) | (with_reducible refine side_q ?_ ?_; exact byQ)
  subst e16
  refine cx_if _ rfl (fun h16 => ?_) (fun h16 => ?_)
  ·
    (try simp only [go_sem] at h16)
    refine cx_sr ?_
    simp only [go_sem]
    repeat first | (with_reducible refine side_d ?_ ?_; exact byD) | (with_reducible refine side_q ?_ ?_; exact byQ)
    refine cx_ret ?_
    simp only [go_sem]
    exact absurd h16 (by simp)
  ·
    (try simp only [go_sem] at h16)
    refine cx_skip ?_
    (try simp only [go_sem])
    refine cx_sr ?_
    simp only [go_sem]
    repeat first | (with_reducible refine side_d ?_ ?_; exact byD) | (with_reducible refine side_q ?_ ?_; exact byQ)
    refine cx_sr ?_
    simp only [go_sem]
    repeat first | (with_reducible refine side_d ?_ ?_; exact byD) | (with_reducible refine side_q ?_ ?_; exact byQ)
    refine cw_m (Apply_c l (reb c (-1)) v okl ok) byW byT ?_
    simp only [go_sem]
    repeat first | (with_reducible refine side_d ?_ ?_; exact byD) | (with_reducible refine side_q ?_ ?_; exact byQ)
    refine cx_sr ?_
    simp only [go_sem]
    repeat first | (with_reducible refine side_d ?_ ?_; exact byD) | (with_reducible refine side_q ?_ ?_; exact byQ)
    refine cx_seq ?_
    refine cx_sr ?_
    simp only [go_sem]
    repeat first | (with_reducible refine side_d ?_ ?_; exact byD) | (with_reducible refine side_q ?_ ?_; exact byQ)
    refine cx_block ?_
    refine cx_loop0 (σ := Nat) (fun i => i ≤ l.length) (fun i => [⟨12, 0, [], .int .i64 (i : Nat)⟩, ⟨11, 0, [], .int .i64 (newestP c.path (l.take i))⟩]) [0, 2, 3, 5, 8, 10] (fun i => l.length - i) 0 (by first | trivial | omega | simp) (Nat.zero_le _) byC (fun i hI1 => ?_)
    simp only [go_sem]
    refine cx_seq ?_
    refine cx_sr ?_
    simp only [go_sem]
    repeat first | (with_reducible refine side_d ?_ ?_; exact byD) | (with_reducible refine side_q ?_ ?_; exact byQ)
    intro t28 e28
    repeat first | (with_reducible refine side_d ?_ ?_; exact byD) | (with_reducible refine side_q ?_ ?_; exact byQ)
    subst e28
    refine cx_if _ rfl (fun h28 => ?_) (fun h28 => ?_)
    ·
      (try simp only [go_sem] at h28)
      refine cx_skip ?_
      (try simp only [go_sem])
      refine cx_seq (cx_block ?_)
      refine cx_seq (cx_draw mixed [] (.first 0 (.first 1 (.first 2 (.first 3 (.first 4 (.first 5 (.first 6 (.one 7 (.done))))))))) (by kernel_rfl) ?_)
      simp only [go_sem]
      repeat first | (with_reducible refine side_d ?_ ?_; exact byD) | (with_reducible refine side_q ?_ ?_; exact byQ)
      refine cwE_m (IsIn2_c (l.getD i default).path c.path (by have := okl.at (i := i) (by omega); omega) (by have := ok.1; omega)) byW byT ?_
      simp only [go_sem]
      repeat first | (with_reducible refine side_d ?_ ?_; exact byD) | (with_reducible refine side_q ?_ ?_; exact byQ)
      refine cx_if _ rfl (fun h38 => ?_) (fun h38 => ?_)
      ·
        (try simp only [go_sem] at h38)
        refine cx_region ?_
        simp only [go_sem]
        repeat first | (with_reducible refine side_d ?_ ?_; exact byD) | (with_reducible refine side_q ?_ ?_; exact byQ)
        refine cx_region ?_
        simp only [go_sem]
        repeat first | (with_reducible refine side_d ?_ ?_; exact byD) | (with_reducible refine side_q ?_ ?_; exact byQ)
        intro t30 e30
        (try replace e30 := w64 e30 (by omega) (by omega))
        repeat first | (with_reducible refine side_d ?_ ?_; exact byD) | (with_reducible refine side_q ?_ ?_; exact byQ)
        have hn : newestP c.path (l.take (i + 1)) = if (l.getD i default).version > newestP c.path (l.take i) then (l.getD i default).version else newestP c.path (l.take i) := by rw [newest_snoc (by omega), if_pos h38]
        refine rnd_next (i + 1) (by omega) (by first | omega | (dsimp only; omega)) ?_
        rw [hn]
        exact byC
      ·
        (try simp only [go_sem] at h38)
        refine cx_skip ?_
        (try simp only [go_sem])
        refine cx_region ?_
        simp only [go_sem]
        repeat first | (with_reducible refine side_d ?_ ?_; exact byD) | (with_reducible refine side_q ?_ ?_; exact byQ)
        intro t30 e30
        (try replace e30 := w64 e30 (by omega) (by omega))
        repeat first | (with_reducible refine side_d ?_ ?_; exact byD) | (with_reducible refine side_q ?_ ?_; exact byQ)
        have hn : newestP c.path (l.take (i + 1)) = newestP c.path (l.take i) := by rw [newest_snoc (by omega), if_neg (by simpa using h38)]
        refine rnd_next (i + 1) (by omega) (by first | omega | (dsimp only; omega)) ?_
        rw [hn]
        exact byC
    ·
      (try simp only [go_sem] at h28)
      have hi : l.take i = l := List.take_of_length_le (by omega)
      rw [hi]
      refine cx_exit ?_
      simp only [go_sem]
      refine cx_sr ?_
      simp only [go_sem]
      repeat first | (with_reducible refine side_d ?_ ?_; exact byD) | (with_reducible refine side_q ?_ ?_; exact byQ)
      refine cw_m (choose_c base h0 h1 1000001 (by decide) (by decide)) byW byT ?_
      simp only [go_sem]
      repeat first | (with_reducible refine side_d ?_ ?_; exact byD) | (with_reducible refine side_q ?_ ?_; exact byQ)
      refine cx_sr ?_
      simp only [go_sem]
      repeat first | (with_reducible refine side_d ?_ ?_; exact byD) | (with_reducible refine side_q ?_ ?_; exact byQ)
      refine cw_m (Apply_c l (reb c (chooseP base 1000001)) v okl ok) byW byT ?_
      simp only [go_sem]
      repeat first | (with_reducible refine side_d ?_ ?_; exact byD) | (with_reducible refine side_q ?_ ?_; exact byQ)
      refine cx_seq ?_
      refine cx_sr ?_
      simp only [go_sem]
      repeat first | (with_reducible refine side_d ?_ ?_; exact byD) | (with_reducible refine side_q ?_ ?_; exact byQ)
      intro t57 e57
      repeat first | (with_reducible refine side_d ?_ ?_; exact byD) | (with_reducible refine side_q ?_ ?_; exact byQ)
      subst e57
      refine cx_if _ rfl (fun h57 => ?_) (fun h57 => ?_)
      ·
        (try simp only [go_sem] at h57)
        refine cx_sr ?_
        simp only [go_sem]
        repeat first | (with_reducible refine side_d ?_ ?_; exact byD) | (with_reducible refine side_q ?_ ?_; exact byQ)
        intro t59 e59
        repeat first | (with_reducible refine side_d ?_ ?_; exact byD) | (with_reducible refine side_q ?_ ?_; exact byQ)
        subst e59
        refine cx_ret ?_
        simp only [go_sem]
        refine finw_bool ?_
        have := hap.1 (by simpa using h57)
        simp [this]
      ·
        (try simp only [go_sem] at h57)
        refine cx_skip ?_
        (try simp only [go_sem])
        refine cx_sr ?_
        simp only [go_sem]
        repeat first | (with_reducible refine side_d ?_ ?_; exact byD) | (with_reducible refine side_q ?_ ?_; exact byQ)
        intro t61 e61
        repeat first | (with_reducible refine side_d ?_ ?_; exact byD) | (with_reducible refine side_q ?_ ?_; exact byQ)
        intro t65 e65
        repeat first | (with_reducible refine side_d ?_ ?_; exact byD) | (with_reducible refine side_q ?_ ?_; exact byQ)
        intro t66 e66
        repeat first | (with_reducible refine side_d ?_ ?_; exact byD) | (with_reducible refine side_q ?_ ?_; exact byQ)
        intro t69 e69
        repeat first | (with_reducible refine side_d ?_ ?_; exact byD) | (with_reducible refine side_q ?_ ?_; exact byQ)
        intro t72 e72
        repeat first | (with_reducible refine side_d ?_ ?_; exact byD) | (with_reducible refine side_q ?_ ?_; exact byQ)
        intro t73 e73
        rw [bsel_or] at e73
        repeat first | (with_reducible refine side_d ?_ ?_; exact byD) | (with_reducible refine side_q ?_ ?_; exact byQ)
        intro t74 e74
        rw [bsel_and] at e74
        repeat first | (with_reducible refine side_d ?_ ?_; exact byD) | (with_reducible refine side_q ?_ ?_; exact byQ)
        subst e61 e65 e66 e69 e72 e73 e74
        refine cx_ret ?_
        simp only [go_sem]
        refine finw_bool ?_
        have := hap.2 (by simpa using h57)
        rw [this]
        by_cases hlt : chooseP base 1000001 < newestP c.path l
        · simp [hlt]
        · simp [hlt]; omega
end Go.VM.Tryd
end
section
set_option linter.unusedVariables false
set_option linter.unusedSimpArgs false
open Go Go.VM Go.Proofs Tether
namespace Go.VM.Tryd
/-! ### A tree that passes, in words -/
structure FullT (l : List Entry) : Prop where
  len : l.length ≤ 60
  ents : ∀ x ∈ l, entErr x = 0
  sorted : SortedE l
  par : ∀ x ∈ l, headOf x.path = [] ∨ ∃ y ∈ l, y.path = headOf x.path ∧ y.folder = true
theorem parE_in {l : List Entry} (hs : SortedE l) {p : Str} : ((parE l p).2 = true ∧ (parE l p).1.folder = true) ↔ (headOf p = [] ∨ ∃ y ∈ l, y.path = headOf p ∧ y.folder = true) := by
  unfold parE
  by_cases h : headOf p = []
  · simp [h, topE]
  · rw [if_neg h]
    by_cases hh : hasE l (headOf p) = true
    · rw [if_pos hh]
      have hf := findE_eq hs (headOf p)
      rw [if_pos hh] at hf
      obtain ⟨h1, h2⟩ := findE_some hf
      constructor
      · rintro ⟨_, h3⟩
        exact .inr ⟨_, h1, h2, h3⟩
      · rintro (h3 | ⟨y, h3, h4, h5⟩)
        · exact absurd h3 h
        · have := sorted_mem_inj hs h3 h1 (h4.trans h2.symm)
          exact ⟨rfl, by rw [← this]; exact h5⟩
    · rw [if_neg hh]
      constructor
      · rintro ⟨h1, _⟩
        cases h1
      · rintro (h3 | ⟨y, h3, h4, h5⟩)
        · exact absurd h3 h
        · exact absurd ((hasE_iff hs).2 ⟨y, h3, h4⟩) hh
theorem checkT_iff {l : List Entry} : checkT l = 0 ↔ FullT l := by
  constructor
  · intro h
    unfold checkT at h
    have h1 : (l.length : Int) ≤ 60 := by grind
    have h2 : firstErr entErr l = 0 := by grind
    have h3 : sortedB l = true := by grind
    have h4 : parsB l = true := by grind
    have h5 : parfB l = true := by grind
    have hs := sortedB_iff.1 h3
    exact ⟨by omega, firstErr_0.1 h2, hs, fun x hx => (parE_in hs).1 ⟨List.all_eq_true.1 h4 x hx, List.all_eq_true.1 h5 x hx⟩⟩
  · rintro ⟨h1, h2, h3, h4⟩
    have e2 : firstErr entErr l = 0 := firstErr_0.2 h2
    have e3 : sortedB l = true := sortedB_iff.2 h3
    have e4 : parsB l = true := List.all_eq_true.2 fun x hx => ((parE_in h3).2 (h4 x hx)).1
    have e5 : parfB l = true := List.all_eq_true.2 fun x hx => ((parE_in h3).2 (h4 x hx)).2
    rw [checkT, if_neg (by omega), if_neg (by simpa using e2), if_neg (by simp [e3]), if_neg (by simp [e4]), if_neg (by simp [e5])]
theorem FullT.path {l : List Entry} (h : FullT l) {x : Entry} (hx : x ∈ l) : checkP [x.path] = 0 := entErr_path (h.ents x hx)
theorem FullT.ok {l : List Entry} (h : FullT l) : okE l := by
  refine ⟨by have := h.len; omega, fun x hx => ⟨by have := checkP_len (h.path hx); omega, ?_⟩⟩
  have := h.ents x hx
  unfold entErr at this
  grind
theorem FullT.good {l : List Entry} (h : FullT l) : GoodT l := checkT_good h.ok (checkT_iff.2 h)
/-! ### Paths within paths -/
theorem isIn_refl (p : Str) : isIn p p = true := (isIn_iff p p).2 (.inl rfl)
theorem isIn_trans {a b c : Str} (h : isIn a b = true) (k : isIn b c = true) : isIn a c = true := by
  rw [isIn_iff] at *
  rcases h with rfl | ⟨t, rfl⟩
  · exact k
  · rcases k with rfl | ⟨u, rfl⟩
    · exact .inr ⟨t, rfl⟩
    · exact .inr ⟨u ++ 47 :: t, by simp⟩
/-- a path that is not of one name is its front, a slash and its last name -/
theorem front_eq {p : Str} (h : headOf p ≠ []) : p = headOf p ++ 47 :: tailOf p := by
  rcases cut_last p with hp | ⟨f, x, rfl, hx⟩
  · exact absurd (headOf_no hp) h
  · rw [headOf_join hx, tailOf_join hx]
theorem in_front {p : Str} (h : headOf p ≠ []) : isIn p (headOf p) = true := by
  rw [isIn_iff]
  exact .inr ⟨tailOf p, front_eq h⟩
theorem front_lt {p : Str} (h : headOf p ≠ []) : (headOf p).length < p.length := by
  have := congrArg List.length (front_eq h)
  simp at this
  omega
theorem front_ne {p : Str} (h : headOf p ≠ []) : headOf p ≠ p := fun e => by
  have := front_lt h
  rw [e] at this
  omega
theorem isIn_len' {a b : Str} (h : isIn a b = true) : b.length ≤ a.length := isIn_len h
theorem isIn_antisymm {a b : Str} (h : isIn a b = true) (k : isIn b a = true) : a = b := by
  rw [isIn_iff] at *
  rcases h with h | ⟨t, h⟩
  · exact h
  · rcases k with k | ⟨u, k⟩
    · exact k.symm
    · have h1 := congrArg List.length h
      have h2 := congrArg List.length k
      simp at h1 h2
      omega
/-- what is properly within something has its front in it -/
theorem front_in {p q : Str} (h : isIn p q = true) (hne : p ≠ q) (hp : 47 ∉ tailOf p) : isIn (headOf p) q = true ∧ headOf p = q ++ (headOf p).drop q.length := by
  rw [isIn_iff] at h
  rcases h with h | ⟨t, rfl⟩
  · exact absurd h hne
  · rcases cut_last t with ht | ⟨f, x, rfl, hx⟩
    · rw [headOf_join ht]
      exact ⟨isIn_refl q, by simp⟩
    · rw [show q ++ 47 :: (f ++ 47 :: x) = (q ++ 47 :: f) ++ 47 :: x by simp, headOf_join hx]
      exact ⟨(isIn_iff _ _).2 (.inr ⟨f, rfl⟩), by simp⟩
theorem tail_no (p : Str) : 47 ∉ tailOf p := by
  rcases cut_last p with hp | ⟨f, x, rfl, hx⟩
  · rw [tailOf_no hp]; exact hp
  · rw [tailOf_join hx]; exact hx
theorem front_in' {p q : Str} (h : isIn p q = true) (hne : p ≠ q) : isIn (headOf p) q = true := (front_in h hne (tail_no p)).1
theorem front_ne_nil {p q : Str} (hq : q ≠ []) (h : isIn p q = true) (hne : p ≠ q) : headOf p ≠ [] := fun e => by
  have := isIn_len (front_in' h hne)
  rw [e] at this
  have : q.length = 0 := by simpa using this
  exact hq (List.length_eq_zero_iff.1 this)
/-- the front of a moved path -/
theorem front_moved {p f : Str} (t : Str) (h : isIn p f = true) (hne : p ≠ f) : headOf (t ++ p.drop f.length) = t ++ (headOf p).drop f.length := by
  rw [isIn_iff] at h
  rcases h with h | ⟨u, rfl⟩
  · exact absurd h hne
  · rw [List.drop_left]
    rcases cut_last u with hu | ⟨g, x, rfl, hx⟩
    · rw [headOf_join hu, headOf_join hu]
      simp
    · rw [show f ++ 47 :: (g ++ 47 :: x) = (f ++ 47 :: g) ++ 47 :: x by simp, show t ++ 47 :: (g ++ 47 :: x) = (t ++ 47 :: g) ++ 47 :: x by simp, headOf_join hx, headOf_join hx, List.drop_left]
theorem moved_eq_top {p f t : Str} (h : isIn p f = true) : t ++ p.drop f.length = t ↔ p = f := by
  rw [isIn_iff] at h
  rcases h with rfl | ⟨u, rfl⟩
  · simp
  · simp
theorem moved_inj {p q f t : Str} (hp : isIn p f = true) (hq : isIn q f = true) (h : t ++ p.drop f.length = t ++ q.drop f.length) : p = q := by
  have h := List.append_cancel_left h
  have e : ∀ {x : Str}, isIn x f = true → x = f ++ x.drop f.length := by
    intro x hx
    rw [isIn_iff] at hx
    rcases hx with rfl | ⟨u, rfl⟩
    · simp
    · simp
  rw [e hp, e hq, h]
/-! ### Where something is, all above it is -/
theorem FullT.anc {l : List Entry} (g : FullT l) {q : Str} (hq : q ≠ []) : ∀ (n : Nat) (x : Entry), x.path.length ≤ n → x ∈ l → isIn x.path q = true → ∃ y ∈ l, y.path = q ∧ (x.path ≠ q → y.folder = true)
  | 0, x, hn, hx, h => by
    have := isIn_len h
    have : q.length = 0 := by omega
    exact absurd (List.length_eq_zero_iff.1 this) hq
  | n + 1, x, hn, hx, h => by
    by_cases he : x.path = q
    · exact ⟨x, hx, he, fun hne => absurd he hne⟩
    · have h1 := front_in' h he
      have h2 := front_ne_nil hq h he
      rcases g.par x hx with h3 | ⟨y, hy, hy2, hy3⟩
      · exact absurd h3 h2
      · obtain ⟨z, hz, hz2, hz3⟩ := FullT.anc g hq n y (by rw [hy2]; have := front_lt h2; omega) hy (by rw [hy2]; exact h1)
        refine ⟨z, hz, hz2, fun _ => ?_⟩
        by_cases hyq : y.path = q
        · have := sorted_mem_inj g.sorted hz hy (hz2.trans hyq.symm)
          rw [this]; exact hy3
        · exact hz3 hyq
theorem FullT.above {l : List Entry} (g : FullT l) {q : Str} (hq : q ≠ []) {x : Entry} (hx : x ∈ l) (h : isIn x.path q = true) : ∃ y ∈ l, y.path = q ∧ (x.path ≠ q → y.folder = true) :=
  g.anc hq _ x (Nat.le_refl _) hx h
theorem pass_ne {p : Str} (h : checkP [p] = 0) : p ≠ [] := by
  rintro rfl
  have := ((checkP_iff []).1 h).1 [] (by simp [pcs])
  exact isName_ne this rfl
/-! ### What is put one after the other -/
theorem foldl_put_mem : ∀ (g t : List Entry), SortedE t → (g.Pairwise fun a b => a.path ≠ b.path) → ∀ y, y ∈ g.foldl putE t ↔ y ∈ g ∨ (y ∈ t ∧ ∀ z ∈ g, z.path ≠ y.path)
  | [], t, _, _, y => by simp
  | x :: g, t, ht, hg, y => by
    obtain ⟨h1, h2⟩ := List.pairwise_cons.1 hg
    rw [List.foldl_cons, foldl_put_mem g _ (putE_sorted ht x) h2 y, putE_mem ht]
    constructor
    · rintro (h | ⟨h | ⟨h, h3⟩, h4⟩)
      · exact .inl (by simp [h])
      · exact .inl (by simp [h])
      · refine .inr ⟨h, fun z hz => ?_⟩
        rcases List.mem_cons.1 hz with rfl | hz
        · exact fun e => h3 e.symm
        · exact h4 z hz
    · rintro (h | ⟨h, h3⟩)
      · rcases List.mem_cons.1 h with rfl | h
        · exact .inr ⟨.inl rfl, fun z hz e => h1 z hz e.symm⟩
        · exact .inl h
      · exact .inr ⟨.inr ⟨h, fun e => h3 x (by simp) e.symm⟩, fun z hz => h3 z (by simp [hz])⟩
theorem goes_pair {l : List Entry} (hs : SortedE l) (c : Change) (v : Int) : (goesP l c v).Pairwise fun a b => a.path ≠ b.path := by
  unfold goesP
  rw [List.pairwise_map]
  have h : (l.filter (inB c.path)).Pairwise fun a b => a.path < b.path := filter_sorted hs _
  refine (List.pairwise_iff_forall_sublist.2 fun {a b} hab => ?_)
  have hlt := List.pairwise_iff_forall_sublist.1 h hab
  have ha : a ∈ l.filter (inB c.path) := hab.subset (by simp)
  have hb : b ∈ l.filter (inB c.path) := hab.subset (by simp)
  intro e
  have := moved_inj (List.mem_filter.1 ha).2 (List.mem_filter.1 hb).2 e
  rw [this] at hlt
  exact lt_irrefl' _ hlt
end Go.VM.Tryd
end
section
set_option linter.unusedVariables false
set_option linter.unusedSimpArgs false
open Go Go.VM Go.Proofs Tether
namespace Go.VM.Tryd
/-! ### What passes Check goes on passing it -/
structure MayT (l : List Entry) (c : Change) : Prop where
  par : headOf (goalP c) = [] ∨ ∃ y ∈ l, y.path = headOf (goalP c) ∧ y.folder = true
  new : c.kind = 1 → ∀ x ∈ l, x.path ≠ c.path
  file : c.kind = 2 → ∀ x ∈ l, x.path = c.path → x.folder = false
  is : c.kind ≠ 1 → c.kind ≠ 2 → ∃ x ∈ l, x.path = c.path
  apart : c.kind = 3 → isIn c.to c.path = false
  free : c.kind = 3 → ∀ x ∈ l, x.path ≠ c.to
theorem has_no {l : List Entry} (hs : SortedE l) {p : Str} (h : hasE l p = false) : ∀ x ∈ l, x.path ≠ p := fun x hx e => by
  rw [(hasE_iff hs).2 ⟨x, hx, e⟩] at h
  cases h
theorem may_iff {l : List Entry} (hs : SortedE l) {c : Change} (h : mayP l c = 0) : MayT l c := by
  have h1 : (parE l (goalP c)).2 = true ∧ (parE l (goalP c)).1.folder = true := by unfold mayP at h; grind
  have h2 : c.kind = 1 → hasE l c.path = false := by unfold mayP at h; grind
  have h3 : c.kind = 2 → hasE l c.path = true → (l.getD (eIx l c.path) default).folder = false := by unfold mayP at h; grind
  have h4 : c.kind ≠ 1 → c.kind ≠ 2 → hasE l c.path = true := by unfold mayP at h; grind
  have h5 : c.kind = 3 → isIn c.to c.path = false := by unfold mayP at h; grind
  have h6 : c.kind = 3 → hasE l c.to = false := by unfold mayP at h; grind
  refine ⟨(parE_in hs).1 h1, fun k => has_no hs (h2 k), fun k x hx e => ?_, fun k1 k2 => (hasE_iff hs).1 (h4 k1 k2), h5, fun k => has_no hs (h6 k)⟩
  have hh := (hasE_iff hs).2 ⟨x, hx, e⟩
  have hf := findE_eq hs c.path
  rw [if_pos hh] at hf
  obtain ⟨q1, q2⟩ := findE_some hf
  rw [sorted_mem_inj hs hx q1 (e.trans q2.symm)]
  exact h3 k hh
theorem may_of {l : List Entry} (hs : SortedE l) {c : Change} (hk : 1 ≤ c.kind ∧ c.kind ≤ 4) (m : MayT l c) (hst : c.base ≠ -1 → ∀ x ∈ l, staleB c x = false) : mayP l c = 0 := by
  obtain ⟨h1, h2⟩ := (parE_in hs).2 m.par
  have h3 : c.kind = 1 → hasE l c.path = false := fun k => by
    cases hh : hasE l c.path with
    | false => rfl
    | true => obtain ⟨x, hx, e⟩ := (hasE_iff hs).1 hh; exact absurd e (m.new k x hx)
  have h4 : c.kind = 2 → hasE l c.path = true → (l.getD (eIx l c.path) default).folder = false := fun k hh => by
    have hf := findE_eq hs c.path
    rw [if_pos hh] at hf
    obtain ⟨q1, q2⟩ := findE_some hf
    exact m.file k _ q1 q2
  have h5 : c.kind ≠ 1 → c.kind ≠ 2 → hasE l c.path = true := fun k1 k2 => (hasE_iff hs).2 (m.is k1 k2)
  have h6 := m.apart
  have h7 : c.kind = 3 → hasE l c.to = false := fun k => by
    cases hh : hasE l c.to with
    | false => rfl
    | true => obtain ⟨x, hx, e⟩ := (hasE_iff hs).1 hh; exact absurd e (m.free k x hx)
  have h8 : c.base ≠ -1 → l.any (staleB c) = false := fun hb => by
    rw [List.any_eq_false]
    intro x hx
    simp [hst hb x hx]
  unfold mayP
  grind
theorem goes_mem {l : List Entry} {c : Change} {v : Int} {y : Entry} : y ∈ goesP l c v ↔ ∃ x ∈ l, isIn x.path c.path = true ∧ mvE c v x = y := by
  unfold goesP
  rw [List.mem_map]
  constructor
  · rintro ⟨x, hx, e⟩
    exact ⟨x, (List.mem_filter.1 hx).1, (List.mem_filter.1 hx).2, e⟩
  · rintro ⟨x, hx, h, e⟩
    exact ⟨x, List.mem_filter.2 ⟨hx, h⟩, e⟩
theorem goes_in {l : List Entry} {c : Change} {v : Int} {y : Entry} (h : y ∈ goesP l c v) : isIn y.path c.to = true := by
  obtain ⟨x, hx, h1, rfl⟩ := goes_mem.1 h
  exact moved_in c.to h1
/-- nothing is where nothing may be -/
theorem FullT.clear {l : List Entry} (g : FullT l) {q : Str} (hq : checkP [q] = 0) (h : ∀ x ∈ l, x.path ≠ q) : ∀ x ∈ l, isIn x.path q = false := by
  intro x hx
  cases hi : isIn x.path q with
  | false => rfl
  | true =>
    obtain ⟨y, hy, e, _⟩ := g.above (pass_ne hq) hx hi
    exact absurd e (h y hy)
/-- the members of a moved tree -/
theorem movedL_mem {l : List Entry} {c : Change} {v : Int} (g : FullT l) (m : MayT l c) (hk : c.kind = 3) (ht : checkP [c.to] = 0) {y : Entry} :
    y ∈ movedL l c v ↔ y ∈ goesP l c v ∨ (y ∈ l ∧ isIn y.path c.path = false) := by
  unfold movedL
  rw [foldl_put_mem _ _ (filter_sorted g.sorted _) (goes_pair g.sorted c v)]
  have hcl := g.clear ht (m.free hk)
  constructor
  · rintro (h | ⟨h, _⟩)
    · exact .inl h
    · obtain ⟨h1, h2⟩ := List.mem_filter.1 h
      exact .inr ⟨h1, by simpa [outB] using h2⟩
  · rintro (h | ⟨h1, h2⟩)
    · exact .inl h
    · refine .inr ⟨List.mem_filter.2 ⟨h1, by simpa [outB] using h2⟩, fun z hz e => ?_⟩
      have := goes_in hz
      rw [e, hcl y h1] at this
      cases this
theorem verB_iff {v : Int} : verB v = true ↔ 1 ≤ v ∧ v ≤ 1000000 := by simp [verB]
theorem entErr_iff {x : Entry} : entErr x = 0 ↔ checkP [x.path] = 0 ∧ ¬ (x.folder = true ∧ x.text ≠ []) ∧ x.text.length ≤ 300 ∧ 1 ≤ x.version ∧ x.version ≤ 1000000 := by
  unfold entErr
  grind
theorem form_text {c : Change} (h : formP c = 0) : c.text.length ≤ 300 := by
  unfold formP at h
  grind
/-- nothing is within something that is a file -/
theorem out_front {p q : Str} (h : isIn p q = false) (hp : headOf p ≠ []) : isIn (headOf p) q = false := by
  cases hi : isIn (headOf p) q with
  | false => rfl
  | true => rw [isIn_trans (in_front hp) hi] at h; cases h
theorem made_full {l : List Entry} {c : Change} {v : Int} (g : FullT l) (hv : verB v = true) (h : rawErr l c v = 0) : FullT (madeP l c v) := by
  obtain ⟨hf, hm, hd⟩ := raw_0 h
  obtain ⟨hgr, hlen⟩ := done_0 hd
  obtain ⟨hcp, hct⟩ := form_ok hf
  have hfk := form_kind hf
  have m := may_iff g.sorted hm
  have hver := verB_iff.1 hv
  have htx := form_text hf
  by_cases k1 : c.kind = 1
  · have e : madeP l c v = putE l ⟨c.path, true, [], v⟩ := by rw [madeP, if_pos k1]
    have hg : goalP c = c.path := by rw [goalP, if_neg (by omega)]
    rw [e] at hlen ⊢
    refine ⟨hlen, fun x hx => ?_, putE_sorted g.sorted _, fun x hx => ?_⟩
    · rcases (putE_mem g.sorted).1 hx with rfl | ⟨hx, _⟩
      · exact entErr_iff.2 ⟨hcp, by simp, by simp, hver.1, hver.2⟩
      · exact g.ents x hx
    · have keep : ∀ y ∈ l, y ∈ putE l ⟨c.path, true, [], v⟩ := fun y hy => (putE_mem g.sorted).2 (.inr ⟨hy, m.new k1 y hy⟩)
      rcases (putE_mem g.sorted).1 hx with rfl | ⟨hx, _⟩
      · have := m.par
        rw [hg] at this
        rcases this with h | ⟨y, hy, h1, h2⟩
        · exact .inl h
        · exact .inr ⟨y, keep y hy, h1, h2⟩
      · rcases g.par x hx with h | ⟨y, hy, h1, h2⟩
        · exact .inl h
        · exact .inr ⟨y, keep y hy, h1, h2⟩
  · by_cases k2 : c.kind = 2
    · have e : madeP l c v = putE l ⟨c.path, false, c.text, v⟩ := by rw [madeP, if_neg k1, if_pos k2]
      have hg : goalP c = c.path := by rw [goalP, if_neg (by omega)]
      rw [e] at hlen ⊢
      refine ⟨hlen, fun x hx => ?_, putE_sorted g.sorted _, fun x hx => ?_⟩
      · rcases (putE_mem g.sorted).1 hx with rfl | ⟨hx, _⟩
        · exact entErr_iff.2 ⟨hcp, by simp, htx, hver.1, hver.2⟩
        · exact g.ents x hx
      · have keep : ∀ y ∈ l, y.folder = true → y ∈ putE l ⟨c.path, false, c.text, v⟩ := fun y hy hfy => (putE_mem g.sorted).2 (.inr ⟨hy, fun e => by rw [m.file k2 y hy e] at hfy; cases hfy⟩)
        rcases (putE_mem g.sorted).1 hx with rfl | ⟨hx, _⟩
        · have := m.par
          rw [hg] at this
          rcases this with h | ⟨y, hy, h1, h2⟩
          · exact .inl h
          · exact .inr ⟨y, keep y hy h2, h1, h2⟩
        · rcases g.par x hx with h | ⟨y, hy, h1, h2⟩
          · exact .inl h
          · exact .inr ⟨y, keep y hy h2, h1, h2⟩
    · by_cases k4 : c.kind = 4
      · have e : madeP l c v = l.filter (outB c.path) := by rw [madeP, if_neg k1, if_neg k2, if_pos k4]
        rw [e] at hlen ⊢
        refine ⟨hlen, fun x hx => g.ents x (List.mem_filter.1 hx).1, filter_sorted g.sorted _, fun x hx => ?_⟩
        obtain ⟨h1, h2⟩ := List.mem_filter.1 hx
        have h2 : isIn x.path c.path = false := by simpa [outB] using h2
        by_cases h0 : headOf x.path = []
        · exact .inl h0
        · rcases g.par x h1 with h | ⟨y, hy, h3, h4⟩
          · exact .inl h
          · exact .inr ⟨y, List.mem_filter.2 ⟨hy, by simp [outB, h3, out_front h2 h0]⟩, h3, h4⟩
      · have k3 : c.kind = 3 := by omega
        have e : madeP l c v = movedL l c v := by rw [madeP, if_neg k1, if_neg k2, if_neg k4, if_pos k3]
        have ht := hct k3
        have hmem : ∀ {y : Entry}, y ∈ movedL l c v ↔ y ∈ goesP l c v ∨ (y ∈ l ∧ isIn y.path c.path = false) := movedL_mem g m k3 ht
        have hg : goalP c = c.to := by rw [goalP, if_pos k3]
        rw [e] at hlen ⊢
        refine ⟨hlen, fun x hx => ?_, foldl_put_sorted _ (filter_sorted g.sorted _), fun x hx => ?_⟩
        · rcases hmem.1 hx with h1 | ⟨h1, _⟩
          · have hp := goes_path (fun y hy => g.path hy) ht (hgr k3) h1
            obtain ⟨y, hy, h2, rfl⟩ := goes_mem.1 h1
            obtain ⟨q1, q2, q3, q4, q5⟩ := entErr_iff.1 (g.ents y hy)
            refine entErr_iff.2 ⟨hp, q2, q3, ?_⟩
            show 1 ≤ (if y.path = c.path then v else y.version) ∧ (if y.path = c.path then v else y.version) ≤ 1000000
            split
            · exact hver
            · exact ⟨q4, q5⟩
          · exact g.ents x h1
        · rcases hmem.1 hx with h1 | ⟨h1, h2⟩
          · obtain ⟨y, hy, h2, rfl⟩ := goes_mem.1 h1
            by_cases hyp : y.path = c.path
            · have hxp : (mvE c v y).path = c.to := by show c.to ++ y.path.drop c.path.length = c.to; rw [(moved_eq_top h2).2 hyp]
              rw [hxp]
              have hpar := m.par
              rw [hg] at hpar
              rcases hpar with h | ⟨z, hz, h3, h4⟩
              · exact .inl h
              · by_cases h0 : headOf c.to = []
                · exact .inl h0
                · refine .inr ⟨z, hmem.2 (.inr ⟨hz, ?_⟩), h3, h4⟩
                  rw [h3]
                  exact out_front (m.apart k3) h0
            · have hne := front_ne_nil (pass_ne hcp) h2 hyp
              rcases g.par y hy with h | ⟨z, hz, h3, h4⟩
              · exact absurd h hne
              · right
                have hzin : isIn z.path c.path = true := by rw [h3]; exact front_in' h2 hyp
                refine ⟨mvE c v z, hmem.2 (.inl (goes_mem.2 ⟨z, hz, hzin, rfl⟩)), ?_, h4⟩
                show c.to ++ z.path.drop c.path.length = headOf (c.to ++ y.path.drop c.path.length)
                rw [front_moved c.to h2 hyp, h3]
          · by_cases h0 : headOf x.path = []
            · exact .inl h0
            · rcases g.par x h1 with h | ⟨y, hy, h3, h4⟩
              · exact .inl h
              · exact .inr ⟨y, hmem.2 (.inr ⟨hy, by rw [h3]; exact out_front h2 h0⟩), h3, h4⟩
theorem apply_0 {l : List Entry} {c : Change} {v : Int} (h : applyErr l c v = 0) : FullT l ∧ verB v = true ∧ rawErr l c v = 0 ∧ applyP l c v = madeP l c v := by
  have hp : applyP l c v = madeP l c v := by rw [applyP, if_pos h]
  unfold applyErr at h
  have h1 : checkT l = 0 := by grind
  have h2 : verB v = true := by grind
  have h3 : rawErr l c v = 0 := by grind
  exact ⟨checkT_iff.1 h1, h2, h3, hp⟩
theorem apply_of {l : List Entry} {c : Change} {v : Int} (g : FullT l) (hv : verB v = true) (h : rawErr l c v = 0) : applyErr l c v = 0 := by
  rw [applyErr, if_neg (by simp [checkT_iff.2 g]), if_neg (by simp [hv]), h]
/-- what a change is not about stays -/
theorem made_keeps {l : List Entry} {c : Change} {v : Int} (g : FullT l) (h : rawErr l c v = 0) {x : Entry} (hx : x ∈ l) (h1 : isIn x.path c.path = false) : x ∈ madeP l c v := by
  obtain ⟨hf, hm, hd⟩ := raw_0 h
  obtain ⟨hcp, hct⟩ := form_ok hf
  have hfk := form_kind hf
  have m := may_iff g.sorted hm
  have hne : x.path ≠ c.path := fun e => by rw [e, isIn_refl] at h1; cases h1
  unfold madeP
  split
  · exact (putE_mem g.sorted).2 (.inr ⟨hx, hne⟩)
  · split
    · exact (putE_mem g.sorted).2 (.inr ⟨hx, hne⟩)
    · split
      · exact List.mem_filter.2 ⟨hx, by simp [outB, h1]⟩
      · split
        · rename_i k3
          exact (movedL_mem g m k3 (hct k3)).2 (.inr ⟨hx, h1⟩)
        · exact hx
end Go.VM.Tryd
end
section
set_option linter.unusedVariables false
set_option linter.unusedSimpArgs false
open Go Go.VM Go.Proofs Tether
namespace Go.VM.Tryd
set_option maxRecDepth 100000
/-! ### There and back -/
def mvC (f t : Str) : Change := ⟨3, f, t, [], -1⟩
def touch (f : Str) (x : Entry) : Entry := if x.path = f then ⟨x.path, x.folder, x.text, 9⟩ else x
theorem touch_path (f : Str) (x : Entry) : (touch f x).path = x.path := by unfold touch; split <;> rfl
theorem form_mv {f t : Str} (hf : checkP [f] = 0) (ht : checkP [t] = 0) : formP (mvC f t) = 0 := by
  simp [formP, mvC, hf, ht]
theorem back_move {l : List Entry} {f t : Str} (h : applyErr l (mvC f t) 9 = 0) : applyErr (madeP l (mvC f t) 9) (mvC t f) 9 = 0 ∧ madeP (madeP l (mvC f t) 9) (mvC t f) 9 = l.map (touch f) := by
  obtain ⟨g, hv, hr, _⟩ := apply_0 h
  obtain ⟨hfm, hm, hd⟩ := raw_0 hr
  obtain ⟨hgr, hlen⟩ := done_0 hd
  obtain ⟨hcp, hct⟩ := form_ok hfm
  have hf : checkP [f] = 0 := hcp
  have ht : checkP [t] = 0 := hct rfl
  have m := may_iff g.sorted hm
  have gu := made_full g hv hr
  have e1 : madeP l (mvC f t) 9 = movedL l (mvC f t) 9 := rfl
  have hmem : ∀ {y : Entry}, y ∈ madeP l (mvC f t) 9 ↔ y ∈ goesP l (mvC f t) 9 ∨ (y ∈ l ∧ isIn y.path f = false) := fun {y} => by
    rw [e1]; exact movedL_mem g m rfl ht
  have hcl := g.clear ht (m.free rfl)
  obtain ⟨xf, hxf, hxfp⟩ := m.is (by show ¬ (3 : Int) = 1; decide) (by show ¬ (3 : Int) = 2; decide)
  have hxfp : xf.path = f := hxfp
  have hapart : isIn f t = false := by
    cases hi : isIn f t with
    | false => rfl
    | true => have := hcl xf hxf; rw [hxfp, hi] at this; cases this
  have m2 : MayT (madeP l (mvC f t) 9) (mvC t f) := by
    refine ⟨?_, (fun k => absurd k (by show ¬ (3 : Int) = 1; decide)), (fun k => absurd k (by show ¬ (3 : Int) = 2; decide)), fun _ _ => ?_, fun _ => hapart, fun _ x hx e => ?_⟩
    · show headOf f = [] ∨ ∃ y ∈ madeP l (mvC f t) 9, y.path = headOf f ∧ y.folder = true
      by_cases h0 : headOf f = []
      · exact .inl h0
      · rcases g.par xf hxf with h1 | ⟨y, hy, h1, h2⟩
        · rw [hxfp] at h1; exact .inl h1
        · rw [hxfp] at h1
          refine .inr ⟨y, hmem.2 (.inr ⟨hy, ?_⟩), h1, h2⟩
          cases hi : isIn y.path f with
          | false => rfl
          | true =>
            have := isIn_len hi
            rw [h1] at this
            have := front_lt h0
            omega
    · refine ⟨mvE (mvC f t) 9 xf, hmem.2 (.inl (goes_mem.2 ⟨xf, hxf, ?_, rfl⟩)), ?_⟩
      · show isIn xf.path f = true
        rw [hxfp]; exact isIn_refl f
      · show t ++ xf.path.drop f.length = t
        rw [hxfp]; simp
    · have e : x.path = f := e
      rcases hmem.1 hx with h1 | ⟨_, h1⟩
      · have h2 : isIn x.path t = true := goes_in h1
        rw [e, hapart] at h2
        cases h2
      · rw [e, isIn_refl] at h1
        cases h1
  have hmem2 : ∀ {y : Entry}, y ∈ movedL (madeP l (mvC f t) 9) (mvC t f) 9 ↔ y ∈ l.map (touch f) := by
    intro y
    rw [movedL_mem gu m2 rfl hf, List.mem_map]
    have hback : ∀ x, isIn x.path f = true → mvE (mvC t f) 9 (mvE (mvC f t) 9 x) = touch f x := by
      intro x hx
      have hp : f ++ (t ++ x.path.drop f.length).drop t.length = x.path := moved_again t hx
      have hq : (t ++ x.path.drop f.length = t) ↔ x.path = f := moved_eq_top hx
      unfold touch
      by_cases hxp : x.path = f
      · rw [if_pos hxp]
        show Entry.mk (f ++ (t ++ x.path.drop f.length).drop t.length) x.folder x.text (if t ++ x.path.drop f.length = t then 9 else _) = _
        rw [hp, if_pos (hq.2 hxp)]
      · rw [if_neg hxp]
        show Entry.mk (f ++ (t ++ x.path.drop f.length).drop t.length) x.folder x.text (if t ++ x.path.drop f.length = t then 9 else (if x.path = f then 9 else x.version)) = _
        rw [hp, if_neg (fun e => hxp (hq.1 e)), if_neg hxp]
    constructor
    · rintro (h1 | ⟨h1, h2⟩)
      · obtain ⟨z, hz, hz2, rfl⟩ := goes_mem.1 h1
        rcases hmem.1 hz with h3 | ⟨h3, _⟩
        · obtain ⟨x, hx, hx2, rfl⟩ := goes_mem.1 h3
          exact ⟨x, hx, (hback x hx2).symm⟩
        · have : isIn z.path t = true := hz2
          rw [hcl z h3] at this
          cases this
      · rcases hmem.1 h1 with h3 | ⟨h3, h4⟩
        · have h5 : isIn y.path t = true := goes_in h3
          have h2 : isIn y.path t = false := h2
          rw [h5] at h2
          cases h2
        · refine ⟨y, h3, ?_⟩
          unfold touch
          rw [if_neg]
          intro e
          rw [e, isIn_refl] at h4
          cases h4
    · rintro ⟨x, hx, rfl⟩
      by_cases hi : isIn x.path f = true
      · rw [← hback x hi]
        refine .inl (goes_mem.2 ⟨_, hmem.2 (.inl (goes_mem.2 ⟨x, hx, hi, rfl⟩)), ?_, rfl⟩)
        exact moved_in t hi
      · have hi : isIn x.path f = false := by simpa using hi
        have hto : touch f x = x := by
          unfold touch
          rw [if_neg]
          intro e
          rw [e, isIn_refl] at hi
          cases hi
        rw [hto]
        exact .inr ⟨hmem.2 (.inr ⟨hx, hi⟩), hcl x hx⟩
  have hsm : SortedE (l.map (touch f)) := by
    unfold SortedE
    rw [List.pairwise_map]
    simp only [touch_path]
    exact g.sorted
  have e2 : madeP (madeP l (mvC f t) 9) (mvC t f) 9 = l.map (touch f) :=
    sorted_ext (made_sorted gu.sorted) hsm fun y => hmem2
  have hgreat : greatG (madeP l (mvC f t) 9) (mvC t f) 9 = false := by
    unfold greatG
    rw [List.any_eq_false]
    intro y hy
    have : y ∈ l.map (touch f) := hmem2.1 ((movedL_mem gu m2 rfl hf).2 (.inl hy))
    obtain ⟨x, hx, rfl⟩ := List.mem_map.1 this
    rw [touch_path]
    simp [((checkP_iff _).1 (g.path hx)).2]
  have hd2 : doneErr (madeP l (mvC f t) 9) (mvC t f) 9 = 0 := by
    unfold doneErr
    rw [if_neg (by simp [hgreat]), if_neg]
    rw [e2, List.length_map]
    have := g.len
    omega
  have hm2 : mayP (madeP l (mvC f t) 9) (mvC t f) = 0 := may_of gu.sorted ⟨by show (1 : Int) ≤ 3; decide, by show (3 : Int) ≤ 4; decide⟩ m2 fun hb => absurd rfl hb
  refine ⟨apply_of gu (by decide) ?_, e2⟩
  rw [rawErr, if_neg (by simp [form_mv ht hf]), if_neg (by simp [hm2]), hd2]
theorem back_write {l : List Entry} {t s : Str} (h : applyErr l ⟨2, t, [], s, 0⟩ 9 = 0) : applyErr (madeP l ⟨2, t, [], s, 0⟩ 9) ⟨4, t, [], [], 9⟩ 10 = 0 ∧ madeP (madeP l ⟨2, t, [], s, 0⟩ 9) ⟨4, t, [], [], 9⟩ 10 = l := by
  obtain ⟨g, hv, hr, _⟩ := apply_0 h
  obtain ⟨hfm, hm, hd⟩ := raw_0 hr
  obtain ⟨hcp, _⟩ := form_ok hfm
  have ht : checkP [t] = 0 := hcp
  have m := may_iff g.sorted hm
  have gu := made_full g hv hr
  have hst : l.any (staleB ⟨2, t, [], s, 0⟩) = false := by
    unfold mayP at hm
    grind
  have hno : ∀ x ∈ l, isIn x.path t = false := by
    intro x hx
    rw [List.any_eq_false] at hst
    have := hst x hx
    have hver := (entErr_iff.1 (g.ents x hx)).2.2.2.1
    cases hi : isIn x.path t with
    | false => rfl
    | true =>
      exfalso
      apply this
      show (decide ((0 : Int) < x.version) && isIn x.path t) = true
      rw [hi, Bool.and_true, decide_eq_true_eq]
      omega
  have e1 : madeP l ⟨2, t, [], s, 0⟩ 9 = putE l ⟨t, false, s, 9⟩ := rfl
  have hne : ∀ x ∈ l, x.path ≠ t := fun x hx e => by have := hno x hx; rw [e, isIn_refl] at this; cases this
  have hmem : ∀ {y : Entry}, y ∈ madeP l ⟨2, t, [], s, 0⟩ 9 ↔ y = ⟨t, false, s, 9⟩ ∨ y ∈ l := fun {y} => by
    rw [e1, putE_mem g.sorted]
    exact ⟨fun h => h.imp id And.left, fun h => h.imp id fun h => ⟨h, hne y h⟩⟩
  have e2 : madeP (madeP l ⟨2, t, [], s, 0⟩ 9) ⟨4, t, [], [], 9⟩ 10 = l := by
    refine sorted_ext (made_sorted gu.sorted) g.sorted fun y => ?_
    show y ∈ (madeP l ⟨2, t, [], s, 0⟩ 9).filter (outB t) ↔ y ∈ l
    rw [List.mem_filter, hmem]
    constructor
    · rintro ⟨rfl | h1, h2⟩
      · simp [outB, isIn_refl] at h2
      · exact h1
    · intro h1
      exact ⟨.inr h1, by simp [outB, hno y h1]⟩
  have m2 : MayT (madeP l ⟨2, t, [], s, 0⟩ 9) ⟨4, t, [], [], 9⟩ := by
    refine ⟨?_, (fun k => absurd k (by show ¬ (4 : Int) = 1; decide)), (fun k => absurd k (by show ¬ (4 : Int) = 2; decide)), fun _ _ => ⟨_, hmem.2 (.inl rfl), rfl⟩, (fun k => absurd k (by show ¬ (4 : Int) = 3; decide)), (fun k => absurd k (by show ¬ (4 : Int) = 3; decide))⟩
    have hp : headOf t = [] ∨ ∃ y ∈ l, y.path = headOf t ∧ y.folder = true := m.par
    rcases hp with h | ⟨y, hy, h1, h2⟩
    · exact .inl h
    · exact .inr ⟨y, hmem.2 (.inr hy), h1, h2⟩
  have hf2 : formP ⟨4, t, [], [], 9⟩ = 0 := by simp [formP, ht]
  have hm2 : mayP (madeP l ⟨2, t, [], s, 0⟩ 9) ⟨4, t, [], [], 9⟩ = 0 := may_of gu.sorted ⟨by show (1 : Int) ≤ 4; decide, by show (4 : Int) ≤ 4; decide⟩ m2 fun _ x hx => by
    show (decide ((9 : Int) < x.version) && isIn x.path t) = false
    rcases hmem.1 hx with rfl | hx
    · simp
    · rw [hno x hx, Bool.and_false]
  have hd2 : doneErr (madeP l ⟨2, t, [], s, 0⟩ 9) ⟨4, t, [], [], 9⟩ 10 = 0 := by
    unfold doneErr
    rw [if_neg (by rintro ⟨h, _⟩; cases h), if_neg]
    rw [e2]
    have := g.len
    omega
  refine ⟨apply_of gu (by decide) ?_, e2⟩
  rw [rawErr, if_neg (by simp [hf2]), if_neg (by simp [hm2]), hd2]
/-! ### The laws -/
def shapeE (x : Entry) : Str × Bool × Str := (x.path, x.folder, x.text)
def likeL (a b : List Entry) : Bool := decide (a.map shapeE = b.map shapeE)
theorem like_touch (f : Str) (l : List Entry) : likeL (l.map (touch f)) l = true := by
  unfold likeL
  rw [List.map_map]
  refine decide_eq_true (List.map_congr_left fun x _ => ?_)
  show shapeE (touch f x) = shapeE x
  unfold touch shapeE
  split <;> rfl
theorem LikeTrees_c (a b : List Entry) (ha : a.length < 4611686018427387904) (hb : b.length < 4611686018427387904) : Meets Tryd.prog 21 [esV a, esV b] (.bool (likeL a b)) [] := by
  refine meets_x (fn := Tryd.f21) Tryd.func21 rfl fb21 (by kernel_rfl) (Nat.le_of_ble_eq_true rfl) ?_
  refine cx_sr ?_
  simp only [go_sem]
  repeat first | (with_reducible refine side_d ?_ ?_; exact byD) | (with_reducible refine side_q ?_ ?_; exact byQ)
  refine cx_seq ?_
  refine cx_sr ?_
  simp only [go_sem]
  repeat first | (with_reducible refine side_d ?_ ?_; exact byD) | (with_reducible refine side_q ?_ ?_; exact byQ)
  intro t10 e10
  repeat first | (with_reducible refine side_d ?_ ?_; exact byD) | (with_reducible refine side_q ?_ ?_; exact byQ)
  subst e10
  refine cx_if _ rfl (fun h10 => ?_) (fun h10 => ?_)
  ·
    (try simp only [go_sem] at h10)
    refine cx_sr ?_
    simp only [go_sem]
    repeat first | (with_reducible refine side_d ?_ ?_; exact byD) | (with_reducible refine side_q ?_ ?_; exact byQ)
    refine cx_ret ?_
    simp only [go_sem]
    refine finw_bool ?_
    have : ¬ a.map shapeE = b.map shapeE := fun e => by
      have := congrArg List.length e
      simp only [List.length_map] at this
      grind
    simp [likeL, this]
  ·
    (try simp only [go_sem] at h10)
    refine cx_skip ?_
    (try simp only [go_sem])
    refine cx_seq ?_
    refine cx_sr ?_
    simp only [go_sem]
    repeat first | (with_reducible refine side_d ?_ ?_; exact byD) | (with_reducible refine side_q ?_ ?_; exact byQ)
    refine cx_block ?_
    refine cx_loop0 (σ := Nat) (fun i => i ≤ a.length ∧ ∀ j, j < i → shapeE (a.getD j default) = shapeE (b.getD j default)) (fun i => [⟨5, 0, [], .int .i64 (i : Nat)⟩]) [0, 1] (fun i => a.length - i) 0 ⟨Nat.zero_le _, fun j hj => absurd hj (Nat.not_lt_zero j)⟩ (Nat.zero_le _) byC (fun i hI1 => ?_)
    simp only [go_sem]
    refine cx_seq ?_
    refine cx_sr ?_
    simp only [go_sem]
    repeat first | (with_reducible refine side_d ?_ ?_; exact byD) | (with_reducible refine side_q ?_ ?_; exact byQ)
    intro t14 e14
    repeat first | (with_reducible refine side_d ?_ ?_; exact byD) | (with_reducible refine side_q ?_ ?_; exact byQ)
    subst e14
    refine cx_if _ rfl (fun h14 => ?_) (fun h14 => ?_)
    ·
      (try simp only [go_sem] at h14)
      refine cx_skip ?_
      (try simp only [go_sem])
      refine cx_seq (cx_block ?_)
      refine cx_seq (cx_draw mixed [] (.first 0 (.first 1 (.first 2 (.first 3 (.first 4 (.first 5 (.first 6 (.first 7 (.first 8 (.first 9 (.first 10 (.first 11 (.first 12 (.first 13 (.first 14 (.first 15 (.first 16 (.first 17 (.first 18 (.first 19 (.first 20 (.first 21 (.first 22 (.first 23 (.first 24 (.first 25 (.first 26 (.first 27 (.first 28 (.first 29 (.first 30 (.first 31 (.first 32 (.first 33 (.first 34 (.first 35 (.first 36 (.done)))))))))))))))))))))))))))))))))))))) (by kernel_rfl) ?_)
      simp only [go_sem]
      repeat first | (with_reducible refine side_d ?_ ?_; exact byD) | (with_reducible refine side_q ?_ ?_; exact byQ)
      intro t27 e27
      repeat first | (with_reducible refine side_d ?_ ?_; exact byD) | (with_reducible refine side_q ?_ ?_; exact byQ)
      intro t39 e39
      repeat first | (with_reducible refine side_d ?_ ?_; exact byD) | (with_reducible refine side_q ?_ ?_; exact byQ)
      intro t40 e40
      rw [bsel_or] at e40
      repeat first | (with_reducible refine side_d ?_ ?_; exact byD) | (with_reducible refine side_q ?_ ?_; exact byQ)
      intro t52 e52
      repeat first | (with_reducible refine side_d ?_ ?_; exact byD) | (with_reducible refine side_q ?_ ?_; exact byQ)
      intro t53 e53
      rw [bsel_or] at e53
      repeat first | (with_reducible refine side_d ?_ ?_; exact byD) | (with_reducible refine side_q ?_ ?_; exact byQ)
      subst e27 e39 e40 e52 e53
      refine cx_if _ rfl (fun h53 => ?_) (fun h53 => ?_)
      ·
        (try simp only [go_sem] at h53)
        refine cx_sr ?_
        simp only [go_sem]
        repeat first | (with_reducible refine side_d ?_ ?_; exact byD) | (with_reducible refine side_q ?_ ?_; exact byQ)
        refine cx_ret ?_
        simp only [go_sem]
        refine finw_bool ?_
        have : ¬ a.map shapeE = b.map shapeE := fun e => by
          have h1 := congrArg (fun z => z[i]?) e
          simp only [List.getElem?_map, List.getElem?_eq_getElem (show i < a.length by omega), List.getElem?_eq_getElem (show i < b.length by omega), Option.map_some, Option.some.injEq] at h1
          have e1 : a.getD i default = a[i] := by simp [List.getD, show i < a.length by omega]
          have e2 : b.getD i default = b[i] := by simp [List.getD, show i < b.length by omega]
          rw [e1, e2] at h53
          unfold shapeE at h1
          grind
        simp [likeL, this]
      ·
        (try simp only [go_sem] at h53)
        refine cx_skip ?_
        (try simp only [go_sem])
        refine cx_region ?_
        simp only [go_sem]
        repeat first | (with_reducible refine side_d ?_ ?_; exact byD) | (with_reducible refine side_q ?_ ?_; exact byQ)
        intro t16 e16
        (try replace e16 := w64 e16 (by omega) (by omega))
        repeat first | (with_reducible refine side_d ?_ ?_; exact byD) | (with_reducible refine side_q ?_ ?_; exact byQ)
        have hk : shapeE (a.getD i default) = shapeE (b.getD i default) := by unfold shapeE; grind
        refine rnd_next (i + 1) ⟨by omega, all_next hI1.2 hk⟩ (by first | omega | (dsimp only; omega)) byC
    ·
      (try simp only [go_sem] at h14)
      refine cx_exit ?_
      simp only [go_sem]
      refine cx_sr ?_
      simp only [go_sem]
      repeat first | (with_reducible refine side_d ?_ ?_; exact byD) | (with_reducible refine side_q ?_ ?_; exact byQ)
      refine cx_ret ?_
      simp only [go_sem]
      refine finw_bool ?_
      have : a.map shapeE = b.map shapeE := by
        apply List.ext_getElem (by simp; omega)
        intro i h1 h2
        simp only [List.length_map] at h1 h2
        have := hI1.2 i (by omega)
        simpa [List.getD, h1, h2] using this
      simp [likeL, this]
theorem findP_in {l : List Entry} (g : FullT l) {x : Entry} (hx : x ∈ l) : findP l x.path = (x, 0) := by
  rw [findP_idx (checkT_iff.2 g) (g.path hx), findE_mem g.sorted hx]
theorem TreeGoes_c (l : List Entry) (c : Change) (v : Int) (okl : okE l) (ok : okC c) : Meets Tryd.prog 11 [esV l, .agg c.enc, .int .i64 v] (.bool true) [] := by
  refine meets_x (fn := Tryd.f11) Tryd.func11 rfl fb11 (by kernel_rfl) (Nat.le_of_ble_eq_true rfl) ?_
  have hl := okl.1
  obtain ⟨ok1, ok2, ok3⟩ := id ok
  refine cx_sr ?_
  simp only [go_sem]
  repeat first | (with_reducible refine side_d ?_ ?_; exact byD) | (with_reducible refine side_q ?_ ?_; exact byQ)
  refine cx_seq ?_
  refine cx_sr ?_
  simp only [go_sem]
  repeat first | (with_reducible refine side_d ?_ ?_; exact byD) | (with_reducible refine side_q ?_ ?_; exact byQ)
  refine cw_m (treeBegun_c) byW byT ?_
  simp only [go_sem]
  repeat first | (with_reducible refine side_d ?_ ?_; exact byD) | (with_reducible refine side_q ?_ ?_; exact byQ)
  intro t16 e16
  repeat first | (with_reducible refine side_d ?_ ?_; exact byD) | (with_reducible refine side_q ?_ ?_; exact byQ)
  subst e16
  refine cx_if _ rfl (fun h16 => ?_) (fun h16 => ?_)
  ·
    (try simp only [go_sem] at h16)
    refine cx_sr ?_
    simp only [go_sem]
    repeat first | (with_reducible refine side_d ?_ ?_; exact byD) | (with_reducible refine side_q ?_ ?_; exact byQ)
    refine cx_ret ?_
    simp only [go_sem]
    exact absurd h16 (by simp)
  ·
    (try simp only [go_sem] at h16)
    refine cx_skip ?_
    (try simp only [go_sem])
    refine cx_sr ?_
    simp only [go_sem]
    repeat first | (with_reducible refine side_d ?_ ?_; exact byD) | (with_reducible refine side_q ?_ ?_; exact byQ)
    refine cw_m (Apply_c l c v okl ok) byW byT ?_
    simp only [go_sem]
    repeat first | (with_reducible refine side_d ?_ ?_; exact byD) | (with_reducible refine side_q ?_ ?_; exact byQ)
    refine cx_seq ?_
    refine cx_sr ?_
    simp only [go_sem]
    repeat first | (with_reducible refine side_d ?_ ?_; exact byD) | (with_reducible refine side_q ?_ ?_; exact byQ)
    intro t25 e25
    repeat first | (with_reducible refine side_d ?_ ?_; exact byD) | (with_reducible refine side_q ?_ ?_; exact byQ)
    subst e25
    refine cx_if _ rfl (fun h25 => ?_) (fun h25 => ?_)
    ·
      (try simp only [go_sem] at h25)
      refine cx_sr ?_
      simp only [go_sem]
      repeat first | (with_reducible refine side_d ?_ ?_; exact byD) | (with_reducible refine side_q ?_ ?_; exact byQ)
      intro t28 e28
      repeat first | (with_reducible refine side_d ?_ ?_; exact byD) | (with_reducible refine side_q ?_ ?_; exact byQ)
      subst e28
      refine cx_ret ?_
      simp only [go_sem]
      refine finw_bool ?_
      have : applyP l c v = [] := by rw [applyP, if_neg (by simpa using h25)]
      simp [this]
    ·
      (try simp only [go_sem] at h25)
      obtain ⟨g, hv, hr, hp⟩ := apply_0 (by simpa using h25)
      have gu : FullT (applyP l c v) := by rw [hp]; exact made_full g hv hr
      have oku := gu.ok
      have hck := checkT_iff.2 gu
      refine cx_skip ?_
      (try simp only [go_sem])
      refine cx_seq ?_
      refine cx_sr ?_
      simp only [go_sem]
      repeat first | (with_reducible refine side_d ?_ ?_; exact byD) | (with_reducible refine side_q ?_ ?_; exact byQ)
      refine cw_v 2 (TCheck_c (applyP l c v) oku) byV byC rfl ?_
      simp only [go_sem]
      repeat first | (with_reducible refine side_d ?_ ?_; exact byD) | (with_reducible refine side_q ?_ ?_; exact byQ)
      intro t31 e31
      repeat first | (with_reducible refine side_d ?_ ?_; exact byD) | (with_reducible refine side_q ?_ ?_; exact byQ)
      subst e31
      refine cx_if _ rfl (fun h31 => ?_) (fun h31 => ?_)
      ·
        (try simp only [go_sem] at h31)
        refine cx_sr ?_
        simp only [go_sem]
        repeat first | (with_reducible refine side_d ?_ ?_; exact byD) | (with_reducible refine side_q ?_ ?_; exact byQ)
        refine cx_ret ?_
        simp only [go_sem]
        exact absurd hck (by simpa using h31)
      ·
        (try simp only [go_sem] at h31)
        refine cx_skip ?_
        (try simp only [go_sem])
        refine cx_seq ?_
        refine cx_sr ?_
        simp only [go_sem]
        repeat first | (with_reducible refine side_d ?_ ?_; exact byD) | (with_reducible refine side_q ?_ ?_; exact byQ)
        intro t34 e34
        repeat first | (with_reducible refine side_d ?_ ?_; exact byD) | (with_reducible refine side_q ?_ ?_; exact byQ)
        subst e34
        refine cx_meet0 (σ := Unit) (fun u => True) (fun u => []) [0, 4, 7] (Nat.zero_le _) ?_ (fun u hIM1 => ?_)
        ·
          refine cx_if _ rfl (fun h34 => ?_) (fun h34 => ?_)
          ·
            (try simp only [go_sem] at h34)
            refine cx_sr ?_
            simp only [go_sem]
            repeat first | (with_reducible refine side_d ?_ ?_; exact byD) | (with_reducible refine side_q ?_ ?_; exact byQ)
            refine cw_v 2 (Find_c (applyP l c v) c.path oku ok1) byV byC rfl ?_
            simp only [go_sem]
            repeat first | (with_reducible refine side_d ?_ ?_; exact byD) | (with_reducible refine side_q ?_ ?_; exact byQ)
            refine cx_sr ?_
            simp only [go_sem]
            repeat first | (with_reducible refine side_d ?_ ?_; exact byD) | (with_reducible refine side_q ?_ ?_; exact byQ)
            intro t43 e43
            repeat first | (with_reducible refine side_d ?_ ?_; exact byD) | (with_reducible refine side_q ?_ ?_; exact byQ)
            intro t49 e49
            repeat first | (with_reducible refine side_d ?_ ?_; exact byD) | (with_reducible refine side_q ?_ ?_; exact byQ)
            intro t50 e50
            rw [bsel_or] at e50
            repeat first | (with_reducible refine side_d ?_ ?_; exact byD) | (with_reducible refine side_q ?_ ?_; exact byQ)
            intro t54 e54
            rw [bsel_or] at e54
            repeat first | (with_reducible refine side_d ?_ ?_; exact byD) | (with_reducible refine side_q ?_ ?_; exact byQ)
            intro t59 e59
            repeat first | (with_reducible refine side_d ?_ ?_; exact byD) | (with_reducible refine side_q ?_ ?_; exact byQ)
            intro t60 e60
            rw [bsel_or] at e60
            repeat first | (with_reducible refine side_d ?_ ?_; exact byD) | (with_reducible refine side_q ?_ ?_; exact byQ)
            subst e43 e49 e50 e54 e59 e60
            refine cx_if _ rfl (fun h60 => ?_) (fun h60 => ?_)
            ·
              (try simp only [go_sem] at h60)
              refine cx_sr ?_
              simp only [go_sem]
              repeat first | (with_reducible refine side_d ?_ ?_; exact byD) | (with_reducible refine side_q ?_ ?_; exact byQ)
              refine cx_ret ?_
              simp only [go_sem]
              exfalso
              have hk : c.kind = 2 := by simpa using h34
              have hm : (⟨c.path, false, c.text, v⟩ : Entry) ∈ applyP l c v := by
                rw [hp, madeP, if_neg (by omega), if_pos hk]
                exact (putE_mem g.sorted).2 (.inl rfl)
              have hf := findP_in gu hm
              dsimp only at hf
              rw [hf] at h60
              simp at h60
            ·
              (try simp only [go_sem] at h60)
              refine cx_skip ?_
              (try simp only [go_sem])
              refine mt_next () trivial byC
          ·
            (try simp only [go_sem] at h34)
            refine cx_skip ?_
            (try simp only [go_sem])
            refine mt_next () trivial byC
        simp only [go_sem]
        refine cx_seq ?_
        refine cx_sr ?_
        simp only [go_sem]
        repeat first | (with_reducible refine side_d ?_ ?_; exact byD) | (with_reducible refine side_q ?_ ?_; exact byQ)
        refine cx_block ?_
        refine cx_loop0 (σ := Nat) (fun i => i ≤ l.length) (fun i => [⟨11, 0, [], .int .i64 (i : Nat)⟩]) [0, 4, 7] (fun i => l.length - i) 0 (by first | trivial | omega | simp) (Nat.zero_le _) byC (fun i hI1 => ?_)
        simp only [go_sem]
        refine cx_seq ?_
        refine cx_sr ?_
        simp only [go_sem]
        repeat first | (with_reducible refine side_d ?_ ?_; exact byD) | (with_reducible refine side_q ?_ ?_; exact byQ)
        intro t64 e64
        repeat first | (with_reducible refine side_d ?_ ?_; exact byD) | (with_reducible refine side_q ?_ ?_; exact byQ)
        subst e64
        refine cx_if _ rfl (fun h64 => ?_) (fun h64 => ?_)
        ·
          (try simp only [go_sem] at h64)
          have hxl := okl.at (i := i) (by omega)
          have hxm : l.getD i default ∈ l := getD_mem (by omega)
          refine cx_skip ?_
          (try simp only [go_sem])
          refine cx_seq (cx_block ?_)
          refine cx_sr ?_
          simp only [go_sem]
          repeat first | (with_reducible refine side_d ?_ ?_; exact byD) | (with_reducible refine side_q ?_ ?_; exact byQ)
          refine cx_seq ?_
          refine cx_sr ?_
          simp only [go_sem]
          repeat first | (with_reducible refine side_d ?_ ?_; exact byD) | (with_reducible refine side_q ?_ ?_; exact byQ)
          refine cw_m (IsIn2_c (l.getD i default).path c.path (by omega) (by omega)) byW byT ?_
          simp only [go_sem]
          repeat first | (with_reducible refine side_d ?_ ?_; exact byD) | (with_reducible refine side_q ?_ ?_; exact byQ)
          intro t79 e79
          repeat first | (with_reducible refine side_d ?_ ?_; exact byD) | (with_reducible refine side_q ?_ ?_; exact byQ)
          refine ⟨_, fun hp => cw_m (IsIn2_c (l.getD i default).path c.to (by omega) (by omega)) byW byT ⟨rfl, rfl⟩, ?_⟩
          simp only [go_sem]
          repeat first | (with_reducible refine side_d ?_ ?_; exact byD) | (with_reducible refine side_q ?_ ?_; exact byQ)
          intro t85 e85
          rw [bsel_and] at e85
          repeat first | (with_reducible refine side_d ?_ ?_; exact byD) | (with_reducible refine side_q ?_ ?_; exact byQ)
          intro t86 e86
          rw [bsel_or] at e86
          repeat first | (with_reducible refine side_d ?_ ?_; exact byD) | (with_reducible refine side_q ?_ ?_; exact byQ)
          subst e79 e85 e86
          refine cx_if _ rfl (fun h86 => ?_) (fun h86 => ?_)
          ·
            (try simp only [go_sem] at h86)
            refine cx_exit ?_
            simp only [go_sem]
            refine cx_region ?_
            simp only [go_sem]
            repeat first | (with_reducible refine side_d ?_ ?_; exact byD) | (with_reducible refine side_q ?_ ?_; exact byQ)
            intro t66 e66
            (try replace e66 := w64 e66 (by omega) (by omega))
            repeat first | (with_reducible refine side_d ?_ ?_; exact byD) | (with_reducible refine side_q ?_ ?_; exact byQ)
            refine rnd_next (i + 1) (by omega) (by first | omega | (dsimp only; omega)) byC
          ·
            (try simp only [go_sem] at h86)
            refine cx_skip ?_
            (try simp only [go_sem])
            refine cx_sr ?_
            simp only [go_sem]
            repeat first | (with_reducible refine side_d ?_ ?_; exact byD) | (with_reducible refine side_q ?_ ?_; exact byQ)
            refine cw_v 2 (Find_c (applyP l c v) (l.getD i default).path oku hxl.1) byV byC rfl ?_
            simp only [go_sem]
            repeat first | (with_reducible refine side_d ?_ ?_; exact byD) | (with_reducible refine side_q ?_ ?_; exact byQ)
            refine cx_seq (cx_draw mixed [] (.first 0 (.first 1 (.first 2 (.first 3 (.first 4 (.first 5 (.first 6 (.first 7 (.first 8 (.first 9 (.done))))))))))) (by kernel_rfl) ?_)
            simp only [go_sem]
            repeat first | (with_reducible refine side_d ?_ ?_; exact byD) | (with_reducible refine side_q ?_ ?_; exact byQ)
            intro t94 e94
            repeat first | (with_reducible refine side_d ?_ ?_; exact byD) | (with_reducible refine side_q ?_ ?_; exact byQ)
            intro t101 e101
            repeat first | (with_reducible refine side_d ?_ ?_; exact byD) | (with_reducible refine side_q ?_ ?_; exact byQ)
            intro t102 e102
            rw [bsel_or] at e102
            repeat first | (with_reducible refine side_d ?_ ?_; exact byD) | (with_reducible refine side_q ?_ ?_; exact byQ)
            subst e94 e101 e102
            refine cx_if _ rfl (fun h102 => ?_) (fun h102 => ?_)
            ·
              (try simp only [go_sem] at h102)
              refine cx_sr ?_
              simp only [go_sem]
              repeat first | (with_reducible refine side_d ?_ ?_; exact byD) | (with_reducible refine side_q ?_ ?_; exact byQ)
              refine cx_ret ?_
              simp only [go_sem]
              exfalso
              have hni : isIn (l.getD i default).path c.path = false := by grind
              have hm : l.getD i default ∈ applyP l c v := by rw [hp]; exact made_keeps g hr hxm hni
              have hf := findP_in gu hm
              rw [hf] at h102
              simp at h102
            ·
              (try simp only [go_sem] at h102)
              refine cx_skip ?_
              (try simp only [go_sem])
              refine cx_region ?_
              simp only [go_sem]
              repeat first | (with_reducible refine side_d ?_ ?_; exact byD) | (with_reducible refine side_q ?_ ?_; exact byQ)
              intro t66 e66
              (try replace e66 := w64 e66 (by omega) (by omega))
              repeat first | (with_reducible refine side_d ?_ ?_; exact byD) | (with_reducible refine side_q ?_ ?_; exact byQ)
              refine rnd_next (i + 1) (by omega) (by first | omega | (dsimp only; omega)) byC
        ·
          (try simp only [go_sem] at h64)
          refine cx_exit ?_
          simp only [go_sem]
          refine cx_sr ?_
          simp only [go_sem]
          repeat first | (with_reducible refine side_d ?_ ?_; exact byD) | (with_reducible refine side_q ?_ ?_; exact byQ)
          refine cx_ret ?_
          simp only [go_sem]
          exact finw_bool rfl
theorem TreeBack_c (l : List Entry) (f t s : Str) (okl : okE l) (hf : f.length ≤ 1048576) (ht : t.length ≤ 1048576) (hs : s.length ≤ 1048576) : Meets Tryd.prog 7 [esV l, .str f, .str t, .str s] (.bool true) [] := by
  refine meets_x (fn := Tryd.f7) Tryd.func7 rfl fb7 (by kernel_rfl) (Nat.le_of_ble_eq_true rfl) ?_
  have hl := okl.1
  have q1 := applyP_len l (mvC f t) 9
  have q2 := applyP_len l ⟨2, t, [], s, 0⟩ 9
  refine cx_sr ?_
  simp only [go_sem]
  repeat first | (with_reducible refine side_d ?_ ?_; exact byD) | (with_reducible refine side_q ?_ ?_; exact byQ)
  refine cx_seq ?_
  refine cx_sr ?_
  simp only [go_sem]
  repeat first | (with_reducible refine side_d ?_ ?_; exact byD) | (with_reducible refine side_q ?_ ?_; exact byQ)
  refine cw_m (treeBegun_c) byW byT ?_
  simp only [go_sem]
  repeat first | (with_reducible refine side_d ?_ ?_; exact byD) | (with_reducible refine side_q ?_ ?_; exact byQ)
  intro t15 e15
  repeat first | (with_reducible refine side_d ?_ ?_; exact byD) | (with_reducible refine side_q ?_ ?_; exact byQ)
  subst e15
  refine cx_if _ rfl (fun h15 => ?_) (fun h15 => ?_)
  ·
    (try simp only [go_sem] at h15)
    refine cx_sr ?_
    simp only [go_sem]
    repeat first | (with_reducible refine side_d ?_ ?_; exact byD) | (with_reducible refine side_q ?_ ?_; exact byQ)
    refine cx_ret ?_
    simp only [go_sem]
    exact absurd h15 (by simp)
  ·
    (try simp only [go_sem] at h15)
    refine cx_skip ?_
    (try simp only [go_sem])
    refine cx_sr ?_
    simp only [go_sem]
    repeat first | (with_reducible refine side_d ?_ ?_; exact byD) | (with_reducible refine side_q ?_ ?_; exact byQ)
    refine cw_m (Apply_c l (mvC f t) 9 okl ⟨hf, ht, by simp [mvC]⟩) byW byT ?_
    simp only [go_sem]
    repeat first | (with_reducible refine side_d ?_ ?_; exact byD) | (with_reducible refine side_q ?_ ?_; exact byQ)
    refine cx_seq ?_
    refine cx_sr ?_
    simp only [go_sem]
    repeat first | (with_reducible refine side_d ?_ ?_; exact byD) | (with_reducible refine side_q ?_ ?_; exact byQ)
    intro t25 e25
    repeat first | (with_reducible refine side_d ?_ ?_; exact byD) | (with_reducible refine side_q ?_ ?_; exact byQ)
    subst e25
    refine cx_if _ rfl (fun h25 => ?_) (fun h25 => ?_)
    ·
      (try simp only [go_sem] at h25)
      have ha : applyErr l (mvC f t) 9 = 0 := by simpa using h25
      obtain ⟨g, hv, hr, hp⟩ := apply_0 ha
      have gu : FullT (applyP l (mvC f t) 9) := by rw [hp]; exact made_full g hv hr
      obtain ⟨hb1, hb2⟩ := back_move ha
      have hb3 : applyP (applyP l (mvC f t) 9) (mvC t f) 9 = l.map (touch f) := by rw [hp, applyP, if_pos hb1, hb2]
      have hb4 : applyErr (applyP l (mvC f t) 9) (mvC t f) 9 = 0 := by rw [hp]; exact hb1
      refine cx_sr ?_
      simp only [go_sem]
      repeat first | (with_reducible refine side_d ?_ ?_; exact byD) | (with_reducible refine side_q ?_ ?_; exact byQ)
      refine cw_n 2 (Apply_c (applyP l (mvC f t) 9) (mvC t f) 9 gu.ok ⟨ht, hf, by simp [mvC]⟩) byV byC rfl byN ?_
      simp only [go_sem]
      repeat first | (with_reducible refine side_d ?_ ?_; exact byD) | (with_reducible refine side_q ?_ ?_; exact byQ)
      refine cx_sr ?_
      simp only [go_sem]
      repeat first | (with_reducible refine side_d ?_ ?_; exact byD) | (with_reducible refine side_q ?_ ?_; exact byQ)
      intro t35 e35
      repeat first | (with_reducible refine side_d ?_ ?_; exact byD) | (with_reducible refine side_q ?_ ?_; exact byQ)
      refine ⟨_, fun hp => cw_v 2 (LikeTrees_c (applyP (applyP l (mvC f t) 9) (mvC t f) 9) l (by rw [hb3, List.length_map]; omega) (by omega)) byV byC rfl ⟨rfl, rfl⟩, ?_⟩
      simp only [go_sem]
      repeat first | (with_reducible refine side_d ?_ ?_; exact byD) | (with_reducible refine side_q ?_ ?_; exact byQ)
      intro t40 e40
      repeat first | (with_reducible refine side_d ?_ ?_; exact byD) | (with_reducible refine side_q ?_ ?_; exact byQ)
      intro t41 e41
      rw [bsel_or] at e41
      repeat first | (with_reducible refine side_d ?_ ?_; exact byD) | (with_reducible refine side_q ?_ ?_; exact byQ)
      subst e35 e40 e41
      refine cx_if _ rfl (fun h41 => ?_) (fun h41 => ?_)
      ·
        (try simp only [go_sem] at h41)
        refine cx_sr ?_
        simp only [go_sem]
        repeat first | (with_reducible refine side_d ?_ ?_; exact byD) | (with_reducible refine side_q ?_ ?_; exact byQ)
        refine cx_ret ?_
        simp only [go_sem]
        exfalso
        rw [hb3, hb4] at h41
        simp [like_touch] at h41
      ·
        (try simp only [go_sem] at h41)
        refine cx_skip ?_
        (try simp only [go_sem])
        refine cx_sr ?_
        simp only [go_sem]
        repeat first | (with_reducible refine side_d ?_ ?_; exact byD) | (with_reducible refine side_q ?_ ?_; exact byQ)
        refine cw_m (Apply_c l ⟨2, t, [], s, 0⟩ 9 okl ⟨ht, by simp, hs⟩) byW byT ?_
        simp only [go_sem]
        repeat first | (with_reducible refine side_d ?_ ?_; exact byD) | (with_reducible refine side_q ?_ ?_; exact byQ)
        refine cx_seq ?_
        refine cx_sr ?_
        simp only [go_sem]
        repeat first | (with_reducible refine side_d ?_ ?_; exact byD) | (with_reducible refine side_q ?_ ?_; exact byQ)
        intro t51 e51
        repeat first | (with_reducible refine side_d ?_ ?_; exact byD) | (with_reducible refine side_q ?_ ?_; exact byQ)
        subst e51
        refine cx_if _ rfl (fun h51 => ?_) (fun h51 => ?_)
        ·
          (try simp only [go_sem] at h51)
          refine cx_sr ?_
          simp only [go_sem]
          repeat first | (with_reducible refine side_d ?_ ?_; exact byD) | (with_reducible refine side_q ?_ ?_; exact byQ)
          refine cx_ret ?_
          simp only [go_sem]
          exact finw_bool rfl
        ·
          (try simp only [go_sem] at h51)
          have ha2 : applyErr l ⟨2, t, [], s, 0⟩ 9 = 0 := by simpa using h51
          obtain ⟨g2, hv2, hr2, hp2⟩ := apply_0 ha2
          have gu2 : FullT (applyP l ⟨2, t, [], s, 0⟩ 9) := by rw [hp2]; exact made_full g2 hv2 hr2
          obtain ⟨hc1, hc2⟩ := back_write ha2
          have hc3 : applyP (applyP l ⟨2, t, [], s, 0⟩ 9) ⟨4, t, [], [], 9⟩ 10 = l := by rw [hp2, applyP, if_pos hc1, hc2]
          have hc4 : applyErr (applyP l ⟨2, t, [], s, 0⟩ 9) ⟨4, t, [], [], 9⟩ 10 = 0 := by rw [hp2]; exact hc1
          refine cx_skip ?_
          (try simp only [go_sem])
          refine cx_sr ?_
          simp only [go_sem]
          repeat first | (with_reducible refine side_d ?_ ?_; exact byD) | (with_reducible refine side_q ?_ ?_; exact byQ)
          refine cw_n 2 (Apply_c (applyP l ⟨2, t, [], s, 0⟩ 9) ⟨4, t, [], [], 9⟩ 10 gu2.ok ⟨ht, by simp, by simp⟩) byV byC rfl byN ?_
          simp only [go_sem]
          repeat first | (with_reducible refine side_d ?_ ?_; exact byD) | (with_reducible refine side_q ?_ ?_; exact byQ)
          refine cx_sr ?_
          simp only [go_sem]
          repeat first | (with_reducible refine side_d ?_ ?_; exact byD) | (with_reducible refine side_q ?_ ?_; exact byQ)
          intro t60 e60
          repeat first | (with_reducible refine side_d ?_ ?_; exact byD) | (with_reducible refine side_q ?_ ?_; exact byQ)
          refine ⟨_, fun hp => cw_v 2 (SameEntries_c (applyP (applyP l ⟨2, t, [], s, 0⟩ 9) ⟨4, t, [], [], 9⟩ 10) l (by rw [hc3]; omega) (by omega)) byV byC rfl ⟨rfl, rfl⟩, ?_⟩
          simp only [go_sem]
          repeat first | (with_reducible refine side_d ?_ ?_; exact byD) | (with_reducible refine side_q ?_ ?_; exact byQ)
          intro t65 e65
          rw [bsel_and] at e65
          repeat first | (with_reducible refine side_d ?_ ?_; exact byD) | (with_reducible refine side_q ?_ ?_; exact byQ)
          subst e60 e65
          refine cx_ret ?_
          simp only [go_sem]
          refine finw_bool ?_
          rw [hc3, hc4]
          simp [sameL]
    ·
      (try simp only [go_sem] at h25)
      refine cx_skip ?_
      (try simp only [go_sem])
      refine cx_sr ?_
      simp only [go_sem]
      repeat first | (with_reducible refine side_d ?_ ?_; exact byD) | (with_reducible refine side_q ?_ ?_; exact byQ)
      refine cw_m (Apply_c l ⟨2, t, [], s, 0⟩ 9 okl ⟨ht, by simp, hs⟩) byW byT ?_
      simp only [go_sem]
      repeat first | (with_reducible refine side_d ?_ ?_; exact byD) | (with_reducible refine side_q ?_ ?_; exact byQ)
      refine cx_seq ?_
      refine cx_sr ?_
      simp only [go_sem]
      repeat first | (with_reducible refine side_d ?_ ?_; exact byD) | (with_reducible refine side_q ?_ ?_; exact byQ)
      intro t51 e51
      repeat first | (with_reducible refine side_d ?_ ?_; exact byD) | (with_reducible refine side_q ?_ ?_; exact byQ)
      subst e51
      refine cx_if _ rfl (fun h51 => ?_) (fun h51 => ?_)
      ·
        (try simp only [go_sem] at h51)
        refine cx_sr ?_
        simp only [go_sem]
        repeat first | (with_reducible refine side_d ?_ ?_; exact byD) | (with_reducible refine side_q ?_ ?_; exact byQ)
        refine cx_ret ?_
        simp only [go_sem]
        exact finw_bool rfl
      ·
        (try simp only [go_sem] at h51)
        have ha2 : applyErr l ⟨2, t, [], s, 0⟩ 9 = 0 := by simpa using h51
        obtain ⟨g2, hv2, hr2, hp2⟩ := apply_0 ha2
        have gu2 : FullT (applyP l ⟨2, t, [], s, 0⟩ 9) := by rw [hp2]; exact made_full g2 hv2 hr2
        obtain ⟨hc1, hc2⟩ := back_write ha2
        have hc3 : applyP (applyP l ⟨2, t, [], s, 0⟩ 9) ⟨4, t, [], [], 9⟩ 10 = l := by rw [hp2, applyP, if_pos hc1, hc2]
        have hc4 : applyErr (applyP l ⟨2, t, [], s, 0⟩ 9) ⟨4, t, [], [], 9⟩ 10 = 0 := by rw [hp2]; exact hc1
        refine cx_skip ?_
        (try simp only [go_sem])
        refine cx_sr ?_
        simp only [go_sem]
        repeat first | (with_reducible refine side_d ?_ ?_; exact byD) | (with_reducible refine side_q ?_ ?_; exact byQ)
        refine cw_n 2 (Apply_c (applyP l ⟨2, t, [], s, 0⟩ 9) ⟨4, t, [], [], 9⟩ 10 gu2.ok ⟨ht, by simp, by simp⟩) byV byC rfl byN ?_
        simp only [go_sem]
        repeat first | (with_reducible refine side_d ?_ ?_; exact byD) | (with_reducible refine side_q ?_ ?_; exact byQ)
        refine cx_sr ?_
        simp only [go_sem]
        repeat first | (with_reducible refine side_d ?_ ?_; exact byD) | (with_reducible refine side_q ?_ ?_; exact byQ)
        intro t60 e60
        repeat first | (with_reducible refine side_d ?_ ?_; exact byD) | (with_reducible refine side_q ?_ ?_; exact byQ)
        refine ⟨_, fun hp => cw_v 2 (SameEntries_c (applyP (applyP l ⟨2, t, [], s, 0⟩ 9) ⟨4, t, [], [], 9⟩ 10) l (by rw [hc3]; omega) (by omega)) byV byC rfl ⟨rfl, rfl⟩, ?_⟩
        simp only [go_sem]
        repeat first | (with_reducible refine side_d ?_ ?_; exact byD) | (with_reducible refine side_q ?_ ?_; exact byQ)
        intro t65 e65
        rw [bsel_and] at e65
        repeat first | (with_reducible refine side_d ?_ ?_; exact byD) | (with_reducible refine side_q ?_ ?_; exact byQ)
        subst e60 e65
        refine cx_ret ?_
        simp only [go_sem]
        refine finw_bool ?_
        rw [hc3, hc4]
        simp [sameL]
end Go.VM.Tryd
end
