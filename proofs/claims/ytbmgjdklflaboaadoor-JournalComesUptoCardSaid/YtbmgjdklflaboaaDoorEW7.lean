import Derived.Test.YtbmgjdklflaboaaDoorEW6
import Derived.Test.YtbmgjdklflaboaaDoorEV8
section
set_option maxHeartbeats 4000000
set_option linter.unusedVariables false
set_option linter.unusedSimpArgs false
open Go Go.VM Go.Proofs Tether
namespace Go.VM.Tryd
set_option maxRecDepth 100000
theorem okM_noJ : okJ noJ := ⟨⟨by simp [noJ], by simp [noJ]⟩, ⟨by simp [noJ], by simp [noJ]⟩⟩
theorem okM_noG : okG noG := ⟨⟨by simp [noG], by simp [noG]⟩, ⟨by simp [noG], by simp [noG]⟩⟩
theorem addJ_ok {j : Journal} {c : Commit} (ok : okJ j) (okc : okM c) (hl : j.commits.length ≤ 30) : okJ (addJ j c) := by
  have hm : okMs (j.commits ++ [c]) := ⟨by simp; omega, fun x hx => by
    rcases List.mem_append.1 hx with h | h
    · exact ok.2.2 x h
    · rw [List.mem_singleton.1 h]; exact okc⟩
  unfold addJ
  split
  · refine ⟨?_, ⟨by simp; omega, fun x hx => hm.2 x (List.mem_of_mem_drop hx)⟩⟩
    by_cases h0 : (allP j.base ((j.commits ++ [c]).getD 0 default).changes j.first).2.2 = 0
    · refine (allP_good ok.1 ?_ h0).ok
      exact (hm.2 _ (getD_mem (by simp))).2
    · have : (allP j.base ((j.commits ++ [c]).getD 0 default).changes j.first).1 = [] := by
        unfold allP at h0 ⊢
        split
        · rfl
        · split
          · rfl
          · split
            · rfl
            · rename_i h1 h2 h3
              rw [if_neg h1, if_neg h2, if_neg h3] at h0
              exact allRun_err _ _ _ _ h0
      rw [this]
      exact ⟨by simp, by simp⟩
  · exact ⟨ok.1, hm⟩
theorem commit_ok {j : Journal} {key : Str} {l : List Change} (ok : okJ j) (hk : key.length ≤ 1048576) (okl : okCs l) : okJ (commitP j key l).1 := by
  unfold commitP
  split
  · exact okM_noJ
  · rename_i h0
    have hr := (openP_rng (Classical.not_not.1 h0)).2.2
    split
    · exact okM_noJ
    · split
      · exact ok
      · split
        · exact okM_noJ
        · split
          · exact okM_noJ
          · split
            · exact okM_noJ
            · exact addJ_ok ok ⟨hk, okl⟩ hr
theorem read_ok {j : Journal} (ok : okJ j) (cur most : Int) : okG (readP j cur most).1 := by
  unfold readP
  split
  · exact okM_noG
  · rename_i h0
    have hf := (openP_ok ok (Classical.not_not.1 h0)).ok
    split
    · exact okM_noG
    · split
      · exact okM_noG
      · split
        · exact ⟨hf, ⟨by simp, by simp⟩⟩
        · exact ⟨⟨by simp, by simp⟩, rest_ok ok cur most⟩
theorem journalBegun_c : Meets Tryd.prog 15 [] (.bool true) [] := by
  refine meets_x (fn := Tryd.f15) Tryd.func15 rfl fb15 (by kernel_rfl) (Nat.le_of_ble_eq_true rfl) ?_
  have h1 : commitP ⟨[], 1, []⟩ [107] [⟨2, [97], [], [120], 0⟩] = (⟨[], 1, [⟨1, [107], [⟨2, [97], [], [120], 0⟩]⟩]⟩, 1, 0) := by decide +kernel
  have h2 : readP ⟨[], 1, [⟨1, [107], [⟨2, [97], [], [120], 0⟩]⟩]⟩ 0 5 = (⟨false, [], [⟨1, [107], [⟨2, [97], [], [120], 0⟩]⟩], 1, false⟩, 0) := by decide +kernel
  have hA := Commit_c ⟨[], 1, []⟩ [107] [⟨2, [97], [], [120], 0⟩] (by simp [okJ, okE, okMs]) (by simp) (by simp [okCs, okC])
  rw [h1] at hA
  have hB := Read_c ⟨[], 1, [⟨1, [107], [⟨2, [97], [], [120], 0⟩]⟩]⟩ 0 5 (by simp [okJ, okE, okMs, okM, okCs, okC])
  rw [h2] at hB
  dsimp only [List.length] at hA hB
  refine cx_sr ?_
  simp only [go_sem]
  repeat first | (with_reducible refine side_d ?_ ?_; exact byD) | (with_reducible refine side_q ?_ ?_; exact byQ)
  refine cx_srF [2] ?_
  simp only [go_sem]
  refine cw_m hA ⟨byC, byC, wk_lit1 (enc := Change.enc) ⟨2, [97], [], [120], 0⟩, rfl⟩ byT ?_
  simp only [go_sem]
  refine cx_sr ?_
  simp only [go_sem]
  refine cw_m (hB) byW byT ?_
  simp only [go_sem]
  refine cx_sr ?_
  simp only [go_sem]
  intro t20 e20
  intro t23 e23
  intro t24 e24
  rw [bsel_and] at e24
  intro t27 e27
  intro t28 e28
  rw [bsel_and] at e28
  intro t33 e33
  intro t34 e34
  rw [bsel_and] at e34
  intro t38 e38
  intro t39 e39
  rw [bsel_and] at e39
  intro t43 e43
  intro t44 e44
  rw [bsel_and] at e44
  subst e20 e23 e24 e27 e28 e33 e34 e38 e39 e43 e44
  refine cx_ret ?_
  simp only [go_sem]
  exact finw_bool (by simp)
theorem JournalChecks_c (j : Journal) (ok : okJ j) : Meets Tryd.prog 6 [.agg (jnE j)] (.bool true) [] := by
  refine meets_x (fn := Tryd.f6) Tryd.func6 rfl fb6 (by kernel_rfl) (Nat.le_of_ble_eq_true rfl) ?_
  have hbl := ok.1.1
  have hcl := ok.2.1
  have hfl : (openP j).1.length ≤ 60 := by
    by_cases h : (openP j).2 = 0
    · exact (openP_ok ok h).len
    · rw [openP_err h]; simp
  refine cx_sr ?_
  simp only [go_sem]
  repeat first | (with_reducible refine side_d ?_ ?_; exact byD) | (with_reducible refine side_q ?_ ?_; exact byQ)
  refine cx_sr ?_
  simp only [go_sem]
  refine cw_m (JTree_c j ok) byW byT ?_
  simp only [go_sem]
  refine cx_sr ?_
  simp only [go_sem]
  refine cw_m (RCheckJournal_c j ok) byW byT ?_
  simp only [go_sem]
  refine cx_sr ?_
  simp only [go_sem]
  refine cx_seq ?_
  refine cx_sr ?_
  simp only [go_sem]
  intro t15 e15
  subst e15
  refine cx_if _ rfl (fun h15 => ?_) (fun h15 => ?_)
  ·
   (try simp only [go_sem] at h15)
   refine cx_region ?_
   simp only [go_sem]
   refine cw_m (TreeOf_c j ok (by simpa using h15)) byW byT ?_
   simp only [go_sem]
   refine cx_sr ?_
   simp only [go_sem]
   refine cw_m (journalBegun_c) byW byT ?_
   simp only [go_sem]
   refine ⟨_, fun hp => cw_m (JCheck_c j ok) byW byT ⟨rfl, rfl⟩, ?_⟩
   simp only [go_sem]
   intro t23 e23
   intro t24 e24
   rw [bsel_and] at e24
   first | (refine ⟨_, fun hp => cw_m (treeIs_c (openP j).1 (openP j).2 (openP j).2 (openP j).1 (by omega) (by omega)) byW byT ⟨rfl, rfl⟩, ?_⟩) | (refine ⟨_, fun hp => cw_m (treeIs_c (openP j).1 (openP j).2 (openP j).2 [] (by omega) (by simp)) byW byT ⟨rfl, rfl⟩, ?_⟩)
   simp only [go_sem]
   intro t31 e31
   rw [bsel_and] at e31
   subst e23 e24 e31
   refine cx_ret ?_
   simp only [go_sem]
   refine finw_bool ?_
   have h : (openP j).2 = 0 := by simpa using h15
   simp [h]
  ·
   (try simp only [go_sem] at h15)
   refine cx_skip ?_
   (try simp only [go_sem])
   refine cx_sr ?_
   simp only [go_sem]
   refine cw_m (journalBegun_c) byW byT ?_
   simp only [go_sem]
   refine ⟨_, fun hp => cw_m (JCheck_c j ok) byW byT ⟨rfl, rfl⟩, ?_⟩
   simp only [go_sem]
   intro t23 e23
   intro t24 e24
   rw [bsel_and] at e24
   first | (refine ⟨_, fun hp => cw_m (treeIs_c (openP j).1 (openP j).2 (openP j).2 (openP j).1 (by omega) (by omega)) byW byT ⟨rfl, rfl⟩, ?_⟩) | (refine ⟨_, fun hp => cw_m (treeIs_c (openP j).1 (openP j).2 (openP j).2 [] (by omega) (by simp)) byW byT ⟨rfl, rfl⟩, ?_⟩)
   simp only [go_sem]
   intro t31 e31
   rw [bsel_and] at e31
   subst e23 e24 e31
   refine cx_ret ?_
   simp only [go_sem]
   refine finw_bool ?_
   have h : ¬ (openP j).2 = 0 := by simpa using h15
   simp [openP_err h]
end Go.VM.Tryd
end
section
set_option maxHeartbeats 4000000
set_option linter.unusedVariables false
set_option linter.unusedSimpArgs false
open Go Go.VM Go.Proofs Tether
namespace Go.VM.Tryd
set_option maxRecDepth 100000
theorem commitP_bad {j : Journal} {key : Str} {l : List Change} (h : (openP j).2 ≠ 0) : commitP j key l = (noJ, 0, (openP j).2) := by rw [commitP, if_pos h]
theorem readP_bad {j : Journal} {cur most : Int} (h : (openP j).2 ≠ 0) : readP j cur most = (noG, (openP j).2) := by rw [readP, if_pos h]
theorem JournalCommits_c (j : Journal) (key : Str) (l : List Change) (ok : okJ j) (hk : key.length ≤ 1048576) (okl : okCs l) : Meets Tryd.prog 3 [.agg (jnE j), .str key, csV l] (.bool true) [] := by
  refine meets_x (fn := Tryd.f3) Tryd.func3 rfl fb3 (by kernel_rfl) (Nat.le_of_ble_eq_true rfl) ?_
  have hco := commit_ok ok hk okl
  refine cx_sr ?_
  simp only [go_sem]
  repeat first | (with_reducible refine side_d ?_ ?_; exact byD) | (with_reducible refine side_q ?_ ?_; exact byQ)
  refine cx_sr ?_
  simp only [go_sem]
  refine cw_m (Commit_c j key l ok hk okl) byW byT ?_
  simp only [go_sem]
  refine cx_sr ?_
  simp only [go_sem]
  refine cw_m (RCheckJournal_c j ok) byW byT ?_
  simp only [go_sem]
  refine cx_sr ?_
  simp only [go_sem]
  refine cx_seq ?_
  refine cx_sr ?_
  simp only [go_sem]
  intro t25 e25
  subst e25
  refine cx_if _ rfl (fun h25 => ?_) (fun h25 => ?_)
  ·
   (try simp only [go_sem] at h25)
   refine cx_region ?_
   simp only [go_sem]
   refine cw_m (CommitOf_c j key l ok hk okl (by simpa using h25)) byW byT ?_
   simp only [go_sem]
   refine cx_sr ?_
   simp only [go_sem]
   refine cw_m (journalBegun_c) byW byT ?_
   simp only [go_sem]
   intro t38 e38
   intro t39 e39
   rw [bsel_and] at e39
   intro t43 e43
   intro t44 e44
   rw [bsel_and] at e44
   first | (refine ⟨_, fun hp => cw_m (SameJournal_c (commitP j key l).1 (commitP j key l).1 hco hco) byW byT ⟨rfl, rfl⟩, ?_⟩) | (refine ⟨_, fun hp => cw_m (SameJournal_c (commitP j key l).1 noJ hco okM_noJ) byW byT ⟨rfl, rfl⟩, ?_⟩)
   simp only [go_sem]
   intro t49 e49
   rw [bsel_and] at e49
   subst e38 e39 e43 e44 e49
   refine cx_ret ?_
   simp only [go_sem]
   exact finw_bool (by simp)
  ·
   (try simp only [go_sem] at h25)
   have hb := commitP_bad (key := key) (l := l) (show (openP j).2 ≠ 0 by simpa using h25)
   refine cx_skip ?_
   (try simp only [go_sem])
   refine cx_sr ?_
   simp only [go_sem]
   refine cw_m (journalBegun_c) byW byT ?_
   simp only [go_sem]
   intro t38 e38
   intro t39 e39
   rw [bsel_and] at e39
   intro t43 e43
   intro t44 e44
   rw [bsel_and] at e44
   first | (refine ⟨_, fun hp => cw_m (SameJournal_c (commitP j key l).1 (commitP j key l).1 hco hco) byW byT ⟨rfl, rfl⟩, ?_⟩) | (refine ⟨_, fun hp => cw_m (SameJournal_c (commitP j key l).1 noJ hco okM_noJ) byW byT ⟨rfl, rfl⟩, ?_⟩)
   simp only [go_sem]
   intro t49 e49
   rw [bsel_and] at e49
   subst e38 e39 e43 e44 e49
   refine cx_ret ?_
   simp only [go_sem]
   exact finw_bool (by simp [hb])
theorem JournalReads_c (j : Journal) (cur most : Int) (ok : okJ j) : Meets Tryd.prog 4 [.agg (jnE j), .int .i64 cur, .int .i64 most] (.bool true) [] := by
  refine meets_x (fn := Tryd.f4) Tryd.func4 rfl fb4 (by kernel_rfl) (Nat.le_of_ble_eq_true rfl) ?_
  have hco := read_ok ok cur most
  refine cx_sr ?_
  simp only [go_sem]
  repeat first | (with_reducible refine side_d ?_ ?_; exact byD) | (with_reducible refine side_q ?_ ?_; exact byQ)
  refine cx_sr ?_
  simp only [go_sem]
  refine cw_m (Read_c j cur most ok) byW byT ?_
  simp only [go_sem]
  refine cx_sr ?_
  simp only [go_sem]
  refine cw_m (RCheckJournal_c j ok) byW byT ?_
  simp only [go_sem]
  refine cx_sr ?_
  simp only [go_sem]
  refine cx_seq ?_
  refine cx_sr ?_
  simp only [go_sem]
  intro t22 e22
  subst e22
  refine cx_if _ rfl (fun h22 => ?_) (fun h22 => ?_)
  ·
   (try simp only [go_sem] at h22)
   refine cx_region ?_
   simp only [go_sem]
   refine cw_m (ReadOf_c j cur most ok (by simpa using h22)) byW byT ?_
   simp only [go_sem]
   refine cx_sr ?_
   simp only [go_sem]
   refine cw_m (journalBegun_c) byW byT ?_
   simp only [go_sem]
   intro t34 e34
   intro t35 e35
   rw [bsel_and] at e35
   first | (refine ⟨_, fun hp => cw_m (SamePage_c (readP j cur most).1 (readP j cur most).1 hco hco) byW byT ⟨rfl, rfl⟩, ?_⟩) | (refine ⟨_, fun hp => cw_m (SamePage_c (readP j cur most).1 noG hco okM_noG) byW byT ⟨rfl, rfl⟩, ?_⟩)
   simp only [go_sem]
   intro t40 e40
   rw [bsel_and] at e40
   subst e34 e35 e40
   refine cx_ret ?_
   simp only [go_sem]
   exact finw_bool (by simp)
  ·
   (try simp only [go_sem] at h22)
   have hb := readP_bad (cur := cur) (most := most) (show (openP j).2 ≠ 0 by simpa using h22)
   refine cx_skip ?_
   (try simp only [go_sem])
   refine cx_sr ?_
   simp only [go_sem]
   refine cw_m (journalBegun_c) byW byT ?_
   simp only [go_sem]
   intro t34 e34
   intro t35 e35
   rw [bsel_and] at e35
   first | (refine ⟨_, fun hp => cw_m (SamePage_c (readP j cur most).1 (readP j cur most).1 hco hco) byW byT ⟨rfl, rfl⟩, ?_⟩) | (refine ⟨_, fun hp => cw_m (SamePage_c (readP j cur most).1 noG hco okM_noG) byW byT ⟨rfl, rfl⟩, ?_⟩)
   simp only [go_sem]
   intro t40 e40
   rw [bsel_and] at e40
   subst e34 e35 e40
   refine cx_ret ?_
   simp only [go_sem]
   exact finw_bool (by simp [hb])
theorem runP_len : ∀ (l : List Commit) (t : List Entry), (runP t l).1.length ≤ max 60 t.length
  | [], t => by simp [runP]; omega
  | c :: r, t => by
    rw [runP]
    split
    · simp
    · have h1 := runP_len r (allP t c.changes c.number).1
      have h2 := allP_len t c.changes c.number
      omega
theorem followP_len {t : List Entry} {cur : Int} {p : Page} (ok : okE t) (okp : okG p) : (followP t cur p).1.length ≤ 1048576 := by
  have h1 := ok.1
  have h2 := okp.1.1
  have h3 := runP_len p.commits t
  unfold followP
  repeat' split
  all_goals first | (simp; done) | (simp; omega) | omega
theorem followP_err {t : List Entry} {cur : Int} {p : Page} (h : (followP t cur p).2.2 ≠ 0) : (followP t cur p).1 = [] := by
  unfold followP at h ⊢
  grind
theorem Follow_v (t : List Entry) (cur : Int) (p : Page) (ok : okE t) (okp : okG p) : Meets Tryd.prog 24 [esV t, .int .i64 cur, .agg (pgE p)]
    (.tup [esV (followP t cur p).1, .int .i64 (followP t cur p).2.1, .int .i64 (followP t cur p).2.2]) [] :=
  ((Follow_c t cur p ok okp).freeze 1 byC).wk (wks_refl _) byC rfl
theorem JournalFollows_c (t : List Entry) (cur : Int) (p : Page) (ok : okE t) (okp : okG p) : Meets Tryd.prog 7 [esV t, .int .i64 cur, .agg (pgE p)] (.bool true) [] := by
  refine meets_x (fn := Tryd.f7) Tryd.func7 rfl fb7 (by kernel_rfl) (Nat.le_of_ble_eq_true rfl) ?_
  have hfl := followP_len (cur := cur) ok okp
  refine cx_sr ?_
  simp only [go_sem]
  repeat first | (with_reducible refine side_d ?_ ?_; exact byD) | (with_reducible refine side_q ?_ ?_; exact byQ)
  refine cx_sr ?_
  simp only [go_sem]
  refine cw_m (Follow_v t cur p ok okp) byW byT ?_
  simp only [go_sem]
  refine cx_sr ?_
  simp only [go_sem]
  refine cw_m (FollowOf_c t cur p ok okp) byW byT ?_
  simp only [go_sem]
  refine cx_sr ?_
  simp only [go_sem]
  refine cw_m (journalBegun_c) byW byT ?_
  simp only [go_sem]
  intro t33 e33
  intro t34 e34
  rw [bsel_and] at e34
  refine ⟨_, fun hp => cw_m (treeIs_c (followP t cur p).1 (followP t cur p).2.2 (followP t cur p).2.2 (followP t cur p).1 (by omega) (by omega)) byW byT ⟨rfl, rfl⟩, ?_⟩
  simp only [go_sem]
  intro t41 e41
  rw [bsel_and] at e41
  subst e33 e34 e41
  refine cx_ret ?_
  simp only [go_sem]
  refine finw_bool ?_
  by_cases h : (followP t cur p).2.2 = 0
  · simp [h]
  · simp [followP_err h]
end Go.VM.Tryd
end
section
set_option maxHeartbeats 4000000
set_option linter.unusedVariables false
set_option linter.unusedSimpArgs false
open Go Go.VM Go.Proofs Tether
namespace Go.VM.Tryd
set_option maxRecDepth 100000
theorem openP_run {j : Journal} (h : (openP j).2 = 0) : opRun j.base j.first j.commits = ((openP j).1, 0) ∧ (keysOf j.commits).Nodup := by
  have h1 : (opRun j.base j.first j.commits).2 = 0 := by unfold openP at h; grind
  have h2 : (openP j).1 = (opRun j.base j.first j.commits).1 := by unfold openP at h ⊢; grind
  have h3 : (keysOf j.commits).Nodup := by unfold openP at h; grind
  exact ⟨Prod.ext h2.symm h1, h3⟩
theorem openP_of {j : Journal} (h1 : checkT j.base = 0) (h2 : 1 ≤ j.first) (h3 : j.first ≤ 1000000) (h4 : j.commits.length ≤ 30) {t : List Entry} (h5 : opRun j.base j.first j.commits = (t, 0)) (h6 : (keysOf j.commits).Nodup) : openP j = (t, 0) := by
  rw [open_end h1 (by omega) (by omega) h5, if_pos h6]
theorem keyIx {key : Str} {l : List Commit} (h : ¬ 0 ≤ idxF (isK key) l) : key ∉ keysOf l := by
  intro hm
  obtain ⟨c, hc, rfl⟩ := List.mem_map.1 hm
  apply h
  unfold idxF
  cases hf : l.findIdx? (isK c.key) with
  | some i => simp
  | none =>
    rw [List.findIdx?_eq_none_iff] at hf
    have := hf c hc
    simp [isK] at this
theorem ix_snoc {key : Str} {l : List Commit} {c : Commit} (h : key ∉ keysOf l) (hc : c.key = key) : idxF (isK key) (l ++ [c]) = (l.length : Nat) := by
  refine idxF_at (d := default) (by simp) (fun a ha => ?_) ?_
  · have : (l ++ [c]).getD a default = l[a] := by simp [List.getD, List.getElem?_append_left ha, ha]
    rw [this]
    simp only [isK, decide_eq_false_iff_not]
    intro e
    exact h (List.mem_map.2 ⟨l[a], List.getElem_mem _, e⟩)
  · simp [isK, hc]
theorem add_snoc {t u : List Entry} {n : Int} {l : List Commit} {c : Commit} {w : List Entry × Int × Int} (h : opRun t n l = (u, 0)) (hn : c.number = n + l.length) (h1 : c.number ≤ 1000000) (hk : isKey c.key = true) (hc : c.changes ≠ []) (ha : allP u c.changes (n + l.length) = w) (h0 : w.2.2 = 0) :
    opRun t n (l ++ [c]) = (w.1, 0) := by
  subst ha
  rw [opRun_app, h, if_neg (by simp)]
  have hx : comErr (n + l.length) c = 0 := by
    rw [comErr, if_neg (by simpa using hn), if_neg (by omega), if_neg]
    rintro (h | h)
    · rw [hk] at h; cases h
    · exact hc h
  rw [opRun, if_neg (by simpa using hx), if_neg (by simpa using h0), opRun]
/-- who commits once more by a key -/
theorem once {j : Journal} {key : Str} {a : List Change} (h : (commitP j key a).2.2 = 0) (b : List Change) :
    (openP (commitP j key a).1).2 = 0 ∧ commitP (commitP j key a).1 key b = ((commitP j key a).1, (commitP j key a).2.1, 0) := by
  have hopen : (openP j).2 = 0 := by
    refine Classical.byContradiction fun h0 => ?_
    rw [commitP_bad h0] at h
    exact h0 h
  have hkey : isKey key = true := by
    cases hk : isKey key with
    | true => rfl
    | false =>
      unfold commitP at h
      rw [if_neg (by simpa using hopen), if_pos hk] at h
      cases h
  by_cases hix : 0 ≤ idxF (isK key) j.commits
  · have hc : ∀ l, commitP j key l = (j, (j.commits.getD (idxF (isK key) j.commits).toNat default).number, 0) := fun l => by
      rw [commitP, if_neg (by simpa using hopen), if_neg (by simp [hkey]), if_pos hix]
    rw [hc a, hc b]
    exact ⟨hopen, rfl⟩
  · have hc : commitP j key a = if a = [] then (noJ, 0, 1) else if 1000000 < j.first + j.commits.length then (noJ, 0, 3)
        else if (allP (openP j).1 a (j.first + j.commits.length)).2.2 ≠ 0 then (noJ, 0, (allP (openP j).1 a (j.first + j.commits.length)).2.2)
        else (addJ j ⟨j.first + j.commits.length, key, a⟩, j.first + j.commits.length, 0) := by
      rw [commitP, if_neg (by simpa using hopen), if_neg (by simp [hkey]), if_neg hix]
    rw [hc] at h
    have ha : ¬ a = [] := fun e => by rw [if_pos e] at h; cases h
    rw [if_neg ha] at h hc
    have hr : ¬ 1000000 < j.first + j.commits.length := fun e => by rw [if_pos e] at h; cases h
    rw [if_neg hr] at h hc
    have hal : ¬ (allP (openP j).1 a (j.first + j.commits.length)).2.2 ≠ 0 := fun e => by rw [if_pos e] at h; exact e h
    rw [if_neg hal] at hc
    have hal0 : (allP (openP j).1 a (j.first + j.commits.length)).2.2 = 0 := Classical.not_not.1 hal
    obtain ⟨hrun, hnd⟩ := openP_run hopen
    obtain ⟨hr1, hr2, hr3⟩ := openP_rng hopen
    have hno := keyIx hix
    have hbase := openP_base hopen
    -- the journal that comes
    have key2 : ∀ x : Journal, (openP x).2 = 0 → (∃ l, x.commits = l ++ [⟨j.first + j.commits.length, key, a⟩] ∧ key ∉ keysOf l) → commitP x key b = (x, j.first + j.commits.length, 0) := by
      rintro x hx ⟨l, hl, hk⟩
      have hi : idxF (isK key) x.commits = (l.length : Nat) := by rw [hl]; exact ix_snoc hk rfl
      rw [commitP, if_neg (by simpa using hx), if_neg (by simp [hkey]), if_pos (by omega), hi, hl]
      simp
    have hx : (openP (addJ j ⟨j.first + j.commits.length, key, a⟩)).2 = 0 ∧ ∃ l, (addJ j ⟨j.first + j.commits.length, key, a⟩).commits = l ++ [⟨j.first + j.commits.length, key, a⟩] ∧ key ∉ keysOf l := by
      unfold addJ
      by_cases hlen : 30 < j.commits.length + 1
      · rw [if_pos hlen]
        rcases hcm : j.commits with _ | ⟨c0, r⟩
        · rw [hcm] at hlen; simp at hlen
        · rw [hcm] at hrun hnd hno hr3 hlen
          have hg0 : ((c0 :: r) ++ [(⟨j.first + (c0 :: r).length, key, a⟩ : Commit)]).getD 0 default = c0 := rfl
          rw [hg0]
          rw [opRun] at hrun
          by_cases e1 : comErr j.first c0 ≠ 0
          · rw [if_pos e1] at hrun
            exact absurd (congrArg Prod.snd hrun) e1
          · rw [if_neg e1] at hrun
            by_cases e2 : (allP j.base c0.changes j.first).2.2 ≠ 0
            · rw [if_pos e2] at hrun
              exact absurd (congrArg Prod.snd hrun) e2
            · rw [if_neg e2] at hrun
              have e2' : (allP j.base c0.changes j.first).2.2 = 0 := Classical.not_not.1 e2
              have hfull : FullT (allP j.base c0.changes j.first).1 := by
                rw [allP_full hbase] at e2' ⊢
                exact allR_full hbase e2'
              have hlen2 : (c0 :: r).length = r.length + 1 := rfl
              have hn1 : j.first + ((c0 :: r).length : Nat) = j.first + 1 + (r.length : Nat) := by rw [hlen2]; omega
              have hsn : opRun (allP j.base c0.changes j.first).1 (j.first + 1) (r ++ [⟨j.first + (c0 :: r).length, key, a⟩]) = ((allP (openP j).1 a (j.first + j.commits.length)).1, 0) := by
                refine add_snoc hrun hn1 (by rw [hcm] at hr; dsimp only; omega) hkey ha ?_ hal0
                dsimp only
                rw [hcm, hn1]
              have hnd2 : (keysOf (r ++ [⟨j.first + (c0 :: r).length, key, a⟩])).Nodup := by
                have h1 : (keysOf r).Nodup := (List.nodup_cons.1 hnd).2
                have h2 : key ∉ keysOf r := fun e => hno (.tail _ e)
                unfold keysOf at h1 h2 ⊢
                rw [List.map_append]
                refine List.nodup_append.2 ⟨h1, by simp, fun x hx y hy e => ?_⟩
                simp at hy
                subst hy
                subst e
                exact h2 hx
              have hd : ((c0 :: r) ++ [(⟨j.first + (c0 :: r).length, key, a⟩ : Commit)]).drop 1 = r ++ [⟨j.first + (c0 :: r).length, key, a⟩] := rfl
              rw [hd]
              refine ⟨?_, r, rfl, fun e => hno (.tail _ e)⟩
              exact congrArg Prod.snd (openP_of (j := ⟨(allP j.base c0.changes j.first).1, j.first + 1, r ++ [⟨j.first + (c0 :: r).length, key, a⟩]⟩) (checkT_iff.2 hfull) (by dsimp only; omega) (by dsimp only; rw [hcm, hlen2] at hr; omega) (by simp; rw [hlen2] at hr3; omega) hsn hnd2)
      · rw [if_neg hlen]
        have hsn := add_snoc hrun (c := ⟨j.first + j.commits.length, key, a⟩) rfl (by dsimp only; omega) hkey ha rfl hal0
        have hnd2 : (keysOf (j.commits ++ [⟨j.first + j.commits.length, key, a⟩])).Nodup := by
          unfold keysOf at hnd hno ⊢
          rw [List.map_append]
          refine List.nodup_append.2 ⟨hnd, by simp, fun x hx y hy e => ?_⟩
          simp at hy
          subst hy
          subst e
          exact hno hx
        refine ⟨?_, j.commits, rfl, hno⟩
        exact congrArg Prod.snd (openP_of (j := ⟨j.base, j.first, j.commits ++ [⟨j.first + j.commits.length, key, a⟩]⟩) (checkT_iff.2 hbase) hr1 hr2 (by simp; omega) hsn hnd2)
    rw [hc]
    exact ⟨hx.1, key2 _ hx.1 hx.2⟩
theorem JournalOnce_c (j : Journal) (key : Str) (a b : List Change) (ok : okJ j) (hk : key.length ≤ 1048576) (oka : okCs a) (okb : okCs b) : Meets Tryd.prog 5 [.agg (jnE j), .str key, csV a, csV b] (.bool true) [] := by
  refine meets_x (fn := Tryd.f5) Tryd.func5 rfl fb5 (by kernel_rfl) (Nat.le_of_ble_eq_true rfl) ?_
  have hco := commit_ok ok hk oka
  refine cx_sr ?_
  simp only [go_sem]
  repeat first | (with_reducible refine side_d ?_ ?_; exact byD) | (with_reducible refine side_q ?_ ?_; exact byQ)
  refine cx_seq ?_
  refine cx_sr ?_
  simp only [go_sem]
  refine cw_m (journalBegun_c) byW byT ?_
  simp only [go_sem]
  intro t15 e15
  subst e15
  refine cx_if _ rfl (fun h15 => ?_) (fun h15 => ?_)
  ·
   (try simp only [go_sem] at h15)
   refine cx_sr ?_
   simp only [go_sem]
   refine cx_ret ?_
   simp only [go_sem]
   exact absurd h15 (by simp)
  ·
   (try simp only [go_sem] at h15)
   refine cx_skip ?_
   (try simp only [go_sem])
   refine cx_sr ?_
   simp only [go_sem]
   refine cw_m (Commit_c j key a ok hk oka) byW byT ?_
   simp only [go_sem]
   refine cx_seq ?_
   refine cx_sr ?_
   simp only [go_sem]
   intro t25 e25
   subst e25
   refine cx_if _ rfl (fun h25 => ?_) (fun h25 => ?_)
   ·
    (try simp only [go_sem] at h25)
    refine cx_sr ?_
    simp only [go_sem]
    intro t27 e27
    subst e27
    refine cx_ret ?_
    simp only [go_sem]
    refine finw_bool ?_
    have h : (commitP j key a).2.2 ≠ 0 := by simpa using h25
    have : (commitP j key a).2.1 = 0 := by
      unfold commitP at h ⊢
      grind
    simp [this]
   ·
    (try simp only [go_sem] at h25)
    have he : (commitP j key a).2.2 = 0 := by simpa using h25
    obtain ⟨ho1, ho2⟩ := once he b
    have hco2 := commit_ok hco hk okb
    refine cx_skip ?_
    (try simp only [go_sem])
    refine cx_sr ?_
    simp only [go_sem]
    refine cw_m (Commit_c (commitP j key a).1 key b hco hk okb) byW byT ?_
    simp only [go_sem]
    refine cx_sr ?_
    simp only [go_sem]
    intro t37 e37
    intro t41 e41
    intro t42 e42
    rw [bsel_and] at e42
    refine ⟨_, fun hp => cw_m (SameJournal_c (commitP j key a).1 (commitP (commitP j key a).1 key b).1 hco hco2) byW byT ⟨rfl, rfl⟩, ?_⟩
    simp only [go_sem]
    intro t47 e47
    rw [bsel_and] at e47
    refine ⟨_, fun hp => cw_m (JCheck_c (commitP j key a).1 hco) byW byT ⟨rfl, rfl⟩, ?_⟩
    simp only [go_sem]
    intro t51 e51
    intro t52 e52
    rw [bsel_and] at e52
    subst e37 e41 e42 e47 e51 e52
    refine cx_ret ?_
    simp only [go_sem]
    exact finw_bool (by simp [ho1, ho2])
end Go.VM.Tryd
end
section
set_option maxHeartbeats 4000000
set_option linter.unusedVariables false
set_option linter.unusedSimpArgs false
open Go Go.VM Go.Proofs Tether
namespace Go.VM.Tryd
set_option maxRecDepth 100000
theorem run_op : ∀ (l : List Commit) (t : List Entry) (n : Int), (opRun t n l).2 = 0 → runP t l = ((opRun t n l).1, 0)
  | [], t, n, _ => rfl
  | c :: r, t, n, h => by
    rw [opRun] at h
    by_cases h1 : comErr n c ≠ 0
    · rw [if_pos h1] at h; exact absurd h h1
    · rw [if_neg h1] at h
      by_cases h2 : (allP t c.changes n).2.2 ≠ 0
      · rw [if_pos h2] at h; exact absurd h h2
      · rw [if_neg h2] at h
        have hn : c.number = n := by
          have : comErr n c = 0 := Classical.not_not.1 h1
          unfold comErr at this
          grind
        rw [runP, hn, if_neg h2, opRun, if_neg h1, if_neg h2]
        exact run_op r _ _ h
theorem nums_op : ∀ (l : List Commit) (t : List Entry) (n : Int), (opRun t (n + 1) l).2 = 0 → numbersP n l = true
  | [], t, n, _ => rfl
  | c :: r, t, n, h => by
    have hn := opRun_num (c :: r) t (n + 1) h 0 (by simp)
    rw [opRun] at h
    by_cases h1 : comErr (n + 1) c ≠ 0
    · rw [if_pos h1] at h; exact absurd h h1
    · rw [if_neg h1] at h
      by_cases h2 : (allP t c.changes (n + 1)).2.2 ≠ 0
      · rw [if_pos h2] at h; exact absurd h h2
      · rw [if_neg h2] at h
        rw [numbersP, nums_op r _ _ h]
        simp at hn
        simp [hn]
theorem treeAt_full {j : Journal} (h : (openP j).2 = 0) (i : Nat) : FullT (treeAt j i) := by
  have h1 : (opRun j.base j.first j.commits).2 = 0 := by rw [(openP_run h).1]
  exact opRun_full _ _ _ (openP_base h) (opRun_pre h1 i)
theorem treeAt_end {j : Journal} (h : (openP j).2 = 0) : treeAt j j.commits.length = (openP j).1 := by
  rw [treeAt, List.take_length, (openP_run h).1]
theorem seg_run {j : Journal} (h : (openP j).2 = 0) {k m : Nat} (hk : k + m ≤ j.commits.length) : opRun (treeAt j k) (j.first + k) ((j.commits.drop k).take m) = (treeAt j (k + m), 0) := by
  have h1 : (opRun j.base j.first j.commits).2 = 0 := by rw [(openP_run h).1]
  have h2 := opRun_pre h1 k
  have h3 := opRun_pre h1 (k + m)
  have ht : j.commits.take (k + m) = j.commits.take k ++ (j.commits.drop k).take m := List.take_add
  have hl : (j.commits.take k).length = k := by rw [List.length_take]; omega
  have := opRun_app (j.commits.take k) ((j.commits.drop k).take m) j.base j.first
  rw [← ht, if_neg (by simpa using h2), hl] at this
  rw [← treeAt] at this
  rw [← this]
  exact Prod.ext rfl h3
theorem last_le {j : Journal} (h : (openP j).2 = 0) {i : Nat} (hi : i ≤ j.commits.length) : j.first + i - 1 ≤ 1000000 := by
  obtain ⟨hr1, hr2, hr3⟩ := openP_rng h
  have h1 : (opRun j.base j.first j.commits).2 = 0 := by rw [(openP_run h).1]
  cases i with
  | zero => omega
  | succ i =>
    have hn := opRun_num j.commits j.base j.first h1 i (by omega)
    have h2 := opRun_pre h1 i
    have h3 := opRun_next (t := j.base) (n := j.first) (l := j.commits) (i := i) (by omega) (Prod.ext rfl h2)
    have h4 := opRun_pre h1 (i + 1)
    rw [h3] at h4
    by_cases hc : comErr (j.first + i) (j.commits.getD i default) ≠ 0
    · rw [if_pos hc] at h4; exact absurd h4 hc
    · have : comErr (j.first + i) (j.commits.getD i default) = 0 := Classical.not_not.1 hc
      unfold comErr at this
      have : ¬ 1000000 < (j.commits.getD i default).number := by grind
      omega
/-- a page from a cursor that is not too old, and what comes of following it -/
theorem page_at {j : Journal} (h : (openP j).2 = 0) {k : Nat} (hk : k ≤ j.commits.length) {most : Int} (h1 : 1 ≤ most) (h2 : most ≤ 10) :
    ∃ m : Nat, m ≤ most.toNat ∧ k + m ≤ j.commits.length ∧ (k < j.commits.length → 1 ≤ m) ∧
      readP j (j.first - 1 + k) most = (⟨false, [], (j.commits.drop k).take m, j.first - 1 + k + m, decide (k + m < j.commits.length)⟩, 0) ∧
      followP (treeAt j k) (j.first - 1 + k) ⟨false, [], (j.commits.drop k).take m, j.first - 1 + k + m, decide (k + m < j.commits.length)⟩ = (treeAt j (k + m), j.first - 1 + k + m, 0) := by
  obtain ⟨hr1, hr2, hr3⟩ := openP_rng h
  have hrest : restP j (j.first - 1 + k) most = (j.commits.drop k).take (min most.toNat (j.commits.length - k)) := by
    unfold restP
    have e : (j.first - 1 + (k : Int) - j.first + 1).toNat = k := by omega
    rw [e]
    rcases Nat.le_total most.toNat (j.commits.length - k) with hle | hle
    · rw [Nat.min_eq_left hle]
    · rw [Nat.min_eq_right hle, List.take_of_length_le (by simp; omega), List.take_of_length_le (by simp)]
  have hml : ((j.commits.drop k).take (min most.toNat (j.commits.length - k))).length = min most.toNat (j.commits.length - k) := by rw [List.length_take, List.length_drop]; omega
  refine ⟨min most.toNat (j.commits.length - k), by omega, by omega, fun hlt => by omega, ?_, ?_⟩
  · rw [readP, if_neg (by simpa using h), if_neg (by omega), if_neg (by omega), if_neg (by omega), hrest, hml]
    have : (decide (j.first - 1 + (k : Int) + ((min most.toNat (j.commits.length - k) : Nat) : Int) < j.first + j.commits.length - 1)) = decide (k + min most.toNat (j.commits.length - k) < j.commits.length) := by
      apply decide_eq_decide.2
      omega
    rw [this]
  · generalize hm : min most.toNat (j.commits.length - k) = m at hml
    have hs := seg_run h (k := k) (m := m) (by omega)
    have hf := treeAt_full h k
    have hcur : isCur (j.first - 1 + k) = true := by
      have := last_le h hk
      simp [isCur]
      omega
    have hnum : numbersP (j.first - 1 + k) ((j.commits.drop k).take m) = true := by
      refine nums_op _ (treeAt j k) _ ?_
      rw [show j.first - 1 + (k : Int) + 1 = j.first + k by omega, hs]
    unfold followP
    rw [if_neg (by simp [checkT_iff.2 hf]), if_neg (by simp [hcur]), if_neg (by simp), if_neg (by simp), if_neg (by rw [hml]; omega), if_neg (by simp [hnum]), if_neg (by rw [hml]; simp), run_op _ _ _ (congrArg Prod.snd hs), hs]
    simp
set_option maxHeartbeats 4000000 in
theorem JournalComes_c (j : Journal) (from_ most : Int) (ok : okJ j) (a0 : -9223372036854775808 ≤ from_) (a1 : from_ ≤ 9223372036854775807) (b0 : -9223372036854775808 ≤ most) (b1 : most ≤ 9223372036854775807) :
    Meets Tryd.prog 9 [.agg (jnE j), .int .i64 from_, .int .i64 most] (.bool true) [] := by
  refine meets_x (fn := Tryd.f9) Tryd.func9 rfl fb9 (by kernel_rfl) (Nat.le_of_ble_eq_true rfl) ?_
  have hcl := ok.2.1
  have hm0 : 0 ≤ chooseP most 10 := Int.emod_nonneg _ (by decide)
  have hm1 : chooseP most 10 < 10 := Int.emod_lt_of_pos _ (by decide)
  refine cx_sr ?_
  simp only [go_sem]
  repeat first | (with_reducible refine side_d ?_ ?_; exact byD) | (with_reducible refine side_q ?_ ?_; exact byQ)
  refine cx_seq ?_
  refine cx_sr ?_
  simp only [go_sem]
  refine cw_m (journalBegun_c) byW byT ?_
  simp only [go_sem]
  intro t20 e20
  subst e20
  refine cx_if _ rfl (fun h20 => ?_) (fun h20 => ?_)
  ·
   (try simp only [go_sem] at h20)
   refine cx_sr ?_
   simp only [go_sem]
   refine cx_ret ?_
   simp only [go_sem]
   exact absurd h20 (by simp)
  ·
   (try simp only [go_sem] at h20)
   refine cx_skip ?_
   (try simp only [go_sem])
   refine cx_sr ?_
   simp only [go_sem]
   refine cw_m (OpenJournal_c j ok) byW byT ?_
   simp only [go_sem]
   refine cx_seq ?_
   refine cx_sr ?_
   simp only [go_sem]
   intro t27 e27
   subst e27
   refine cx_if _ rfl (fun h27 => ?_) (fun h27 => ?_)
   ·
    (try simp only [go_sem] at h27)
    refine cx_sr ?_
    simp only [go_sem]
    refine cw_m (JCheck_c j ok) byW byT ?_
    simp only [go_sem]
    intro t30 e30
    subst e30
    refine cx_ret ?_
    simp only [go_sem]
    refine finw_bool ?_
    simpa using h27
   ·
    (try simp only [go_sem] at h27)
    have h0 : (openP j).2 = 0 := by simpa using h27
    obtain ⟨hl1, hl2⟩ := treesP_last h0
    obtain ⟨hr1, hr2, hr3⟩ := openP_rng h0
    have hc0 : 0 ≤ chooseP from_ ((treesP j).length : Nat) := Int.emod_nonneg _ (by omega)
    have hc1 : chooseP from_ ((treesP j).length : Nat) < ((treesP j).length : Nat) := Int.emod_lt_of_pos _ (by omega)
    have htr : ∀ i, i ≤ j.commits.length → (treesP j).getD i [] = treeAt j i := fun i hi => by
      rw [treesP, if_pos h0]
      simp [treesTo, List.getD, show i < j.commits.length + 1 by omega]
    refine cx_skip ?_
    (try simp only [go_sem])
    refine cx_sr ?_
    simp only [go_sem]
    refine cw_m (choose_c from_ a0 a1 ((treesP j).length : Nat) (by omega) (by omega)) byW byT ?_
    simp only [go_sem]
    refine cx_seq (cx_draw mixed [] (.first 0 (.first 1 (.first 2 (.first 3 (.first 4 (.first 5 (.first 6 (.first 7 (.first 8 (.first 9 (.first 10 (.done)))))))))))) (by kernel_rfl) ?_)
    simp only [go_sem]
    repeat first | (with_reducible refine side_d ?_ ?_; exact byD) | (with_reducible refine side_q ?_ ?_; exact byQ)
    intro t41 e41
    (try replace e41 := w64 e41 (by omega) (by omega))
    intro t43 e43
    (try replace e43 := w64 e43 (by omega) (by omega))
    rw [htr _ (by omega)]
    refine cx_sr ?_
    simp only [go_sem]
    refine cw_m (choose_c most b0 b1 10 (by decide) (by decide)) byW byT ?_
    simp only [go_sem]
    intro t46 e46
    (try replace e46 := w64 e46 (by omega) (by omega))
    obtain rfl : t46 = 1 + chooseP most 10 := by omega
    refine cx_seq ?_
    refine cx_sr ?_
    simp only [go_sem]
    refine cx_block ?_
    refine cx_loopk (σ := Nat × Nat) (fun s => s.1 ≤ 31 ∧ s.2 ≤ j.commits.length ∧ s.1 ≤ s.2) (fun s => [⟨12, 0, [], .int .i64 (s.1 : Nat)⟩, ⟨10, 0, [], esV (treeAt j s.2)⟩, ⟨11, 0, [], .int .i64 (j.first - 1 + (s.2 : Nat))⟩]) [2, 3] (fun s => [.box (jnE j)]) (fun s => 31 - s.1) (0, (chooseP from_ ((treesP j).length : Nat)).toNat) ⟨Nat.zero_le _, by dsimp only; omega, Nat.zero_le _⟩ (fun _ => (Nat.zero_le _)) byC (fun s hI1 => ?_)
    simp only [go_sem]
    refine cx_seq ?_
    refine cx_sr ?_
    simp only [go_sem]
    repeat first | (with_reducible refine side_d ?_ ?_; exact byD) | (with_reducible refine side_q ?_ ?_; exact byQ)
    intro t48 e48
    subst e48
    refine cx_if _ rfl (fun h48 => ?_) (fun h48 => ?_)
    ·
     (try simp only [go_sem] at h48)
     obtain ⟨m, hm1, hm2, hm3, hm4, hm5⟩ := page_at h0 hI1.2.1 (most := 1 + chooseP most 10) (by omega) (by omega)
     have hpo : okG ⟨false, [], (j.commits.drop s.2).take m, j.first - 1 + s.2 + m, decide (s.2 + m < j.commits.length)⟩ := ⟨⟨by simp, by simp⟩, ⟨by simp; omega, fun c hc => ok.2.2 c (List.mem_of_mem_drop (List.mem_of_mem_take hc))⟩⟩
     have hml : ((j.commits.drop s.2).take m).length = m := by rw [List.length_take, List.length_drop]; omega
     have hto := (treeAt_full h0 s.2).ok
     have hto2 := (treeAt_full h0 (s.2 + m)).ok.1
     have hoo := (openP_ok ok h0).ok.1
     refine cx_skip ?_
     (try simp only [go_sem])
     refine cx_seq (cx_block ?_)
     refine cx_sr ?_
     simp only [go_sem]
     refine cw_m (Read_c j (j.first - 1 + s.2) (1 + chooseP most 10) ok) byW byT ?_
     simp only [go_sem]
     rw [hm4]
     refine cx_seq ?_
     refine cx_sr ?_
     simp only [go_sem]
     intro t59 e59
     intro t63 e63
     rw [bsel_or] at e63
     intro t69 e69
     intro t70 e70
     rw [bsel_or] at e70
     subst e59 e63 e69 e70
     refine cx_if _ rfl (fun h70 => ?_) (fun h70 => ?_)
     ·
      (try simp only [go_sem] at h70)
      refine cx_sr ?_
      simp only [go_sem]
      refine cx_ret ?_
      simp only [go_sem]
      exfalso
      simp at h70
      omega
     ·
      (try simp only [go_sem] at h70)
      refine cx_skip ?_
      (try simp only [go_sem])
      refine cx_sr ?_
      simp only [go_sem]
      refine cw_m (Follow_v (treeAt j s.2) (j.first - 1 + s.2) ⟨false, [], (j.commits.drop s.2).take m, j.first - 1 + s.2 + m, decide (s.2 + m < j.commits.length)⟩ hto hpo) byW byT ?_
      simp only [go_sem]
      rw [hm5]
      refine cx_seq ?_
      refine cx_sr ?_
      simp only [go_sem]
      intro t80 e80
      intro t84 e84
      intro t85 e85
      rw [bsel_or] at e85
      subst e80 e84 e85
      refine cx_if _ rfl (fun h85 => ?_) (fun h85 => ?_)
      ·
       (try simp only [go_sem] at h85)
       refine cx_sr ?_
       simp only [go_sem]
       refine cx_ret ?_
       simp only [go_sem]
       exfalso
       simp at h85
       omega
      ·
       (try simp only [go_sem] at h85)
       refine cx_skip ?_
       (try simp only [go_sem])
       refine cx_sr ?_
       simp only [go_sem]
       refine cx_sr ?_
       simp only [go_sem]
       intro t90 e90
       subst e90
       refine cx_if _ rfl (fun h90 => ?_) (fun h90 => ?_)
       ·
        (try simp only [go_sem] at h90)
        refine cx_sr ?_
        simp only [go_sem]
        refine cw_m (JTree_c j ok) byW byT ?_
        simp only [go_sem]
        refine cx_sr ?_
        simp only [go_sem]
        intro t97 e97
        refine ⟨_, fun hp => cw_m (SameEntries_c (treeAt j (s.2 + m)) (openP j).1 (by omega) (by omega)) byW byT ⟨rfl, rfl⟩, ?_⟩
        simp only [go_sem]
        intro t102 e102
        rw [bsel_and] at e102
        intro t110 e110
        (try replace e110 := w64 e110 (by omega) (by omega))
        intro t111 e111
        (try replace e111 := w64 e111 (by omega) (by omega))
        intro t112 e112
        intro t113 e113
        rw [bsel_and] at e113
        subst e97 e102 e112 e113
        refine cx_ret ?_
        simp only [go_sem]
        refine finw_bool ?_
        have hend : s.2 + m = j.commits.length := by
          simp at h90
          omega
        have e1 : treeAt j (s.2 + m) = (openP j).1 := by rw [hend, treeAt_end h0]
        have e2 : j.first - 1 + (s.2 : Int) + m = j.first + j.commits.length - 1 := by omega
        simp [sameL, e1, e2, h0]
        omega
       ·
        (try simp only [go_sem] at h90)
        refine cx_skip ?_
        (try simp only [go_sem])
        refine cx_region ?_
        simp only [go_sem]
        intro t50 e50
        (try replace e50 := w64 e50 (by omega) (by omega))
        have hlt : s.2 + m < j.commits.length := by simpa using h90
        have hm := hm3 (by omega)
        have e2 : j.first - 1 + (s.2 : Int) + m = j.first - 1 + ((s.2 + m : Nat) : Int) := by omega
        refine rnd_nextr (s.1 + 1, s.2 + m) [0] ⟨by dsimp only; omega, by dsimp only; omega, by dsimp only; omega⟩ (by first | omega | (dsimp only; omega)) ⟨rfl, rfl, ?_, ?_⟩
        · rw [e2]
          exact byC
        · exact byC
    ·
     (try simp only [go_sem] at h48)
     refine cx_exit ?_
     simp only [go_sem]
     refine cx_sr ?_
     simp only [go_sem]
     refine cx_ret ?_
     simp only [go_sem]
     exfalso
     omega
theorem JournalResets_c (j : Journal) (cur : Int) (t : List Entry) (ok : okJ j) (a0 : -9223372036854775808 ≤ cur) (a1 : cur ≤ 9223372036854775807) (okt : okE t) :
    Meets Tryd.prog 8 [.agg (jnE j), .int .i64 cur, esV t] (.bool true) [] := by
  refine meets_x (fn := Tryd.f8) Tryd.func8 rfl fb8 (by kernel_rfl) (Nat.le_of_ble_eq_true rfl) ?_
  have hcl := ok.2.1
  have htl := okt.1
  refine cx_sr ?_
  simp only [go_sem]
  repeat first | (with_reducible refine side_d ?_ ?_; exact byD) | (with_reducible refine side_q ?_ ?_; exact byQ)
  refine cx_seq ?_
  refine cx_sr ?_
  simp only [go_sem]
  refine cw_m (journalBegun_c) byW byT ?_
  simp only [go_sem]
  intro t13 e13
  subst e13
  refine cx_if _ rfl (fun h13 => ?_) (fun h13 => ?_)
  ·
   (try simp only [go_sem] at h13)
   refine cx_sr ?_
   simp only [go_sem]
   refine cx_ret ?_
   simp only [go_sem]
   exact absurd h13 (by simp)
  ·
   (try simp only [go_sem] at h13)
   refine cx_skip ?_
   (try simp only [go_sem])
   refine cx_sr ?_
   simp only [go_sem]
   refine cw_m (JTree_c j ok) byW byT ?_
   simp only [go_sem]
   refine cx_seq ?_
   refine cx_sr ?_
   simp only [go_sem]
   intro t20 e20
   intro t24 e24
   intro t25 e25
   rw [bsel_or] at e25
   subst e20 e24 e25
   refine cx_if _ rfl (fun h25 => ?_) (fun h25 => ?_)
   ·
    (try simp only [go_sem] at h25)
    refine cx_sr ?_
    simp only [go_sem]
    refine cx_ret ?_
    simp only [go_sem]
    exact finw_bool rfl
   ·
    (try simp only [go_sem] at h25)
    have h0 : (openP j).2 = 0 := by simp at h25; exact h25.1
    have hf2 : 2 ≤ j.first := by simp at h25; omega
    obtain ⟨hr1, hr2, hr3⟩ := openP_rng h0
    have hc0 : 0 ≤ chooseP cur (j.first - 1) := Int.emod_nonneg _ (by omega)
    have hc1 : chooseP cur (j.first - 1) < j.first - 1 := Int.emod_lt_of_pos _ (by omega)
    have hrd : readP j (chooseP cur (j.first - 1)) 3 = (⟨true, (openP j).1, [], j.first + j.commits.length - 1, false⟩, 0) := by
      rw [readP, if_neg (by simpa using h0), if_neg (by omega), if_neg (by omega), if_pos (by omega)]
    have hful := openP_ok ok h0
    have hla := last_le h0 (Nat.le_refl _)
    have hfo : followP t 0 ⟨true, (openP j).1, [], j.first + j.commits.length - 1, false⟩ = if checkT t ≠ 0 then ([], 0, checkT t) else ((openP j).1, j.first + j.commits.length - 1, 0) := by
      unfold followP
      by_cases hc : checkT t ≠ 0
      · rw [if_pos hc, if_pos hc]
      · rw [if_neg hc, if_neg hc, if_neg (by simp [isCur]), if_pos rfl, if_neg (by simp [checkT_iff.2 hful]), if_neg (by simp [isCur]; omega), if_neg (by simp)]
    have hpg : okG ⟨true, (openP j).1, [], j.first + j.commits.length - 1, false⟩ := ⟨hful.ok, ⟨by simp, by simp⟩⟩
    have hol := hful.ok.1
    have hB := Read_c j (chooseP cur (j.first - 1)) 3 ok
    rw [hrd] at hB
    refine cx_skip ?_
    (try simp only [go_sem])
    refine cx_joinr ([⟨2, 0, [], esV t⟩, ⟨3, 0, [], .ptr 0 0⟩, ⟨7, 0, [], esV (openP j).1⟩, ⟨8, 0, [], .int .i64 0⟩, ⟨9, 0, [], .ptr 1 0⟩]) ([.box (jnE j), .box (pgE ⟨true, (openP j).1, [], j.first + j.commits.length - 1, false⟩)]) (cx_drawZ mixed [0] [11] (.firstZ 0 (.firstZ 1 (.firstZ 2 (.firstZ 3 (.firstZ 4 (.alt 5 (.alt 6 (.firstZ 7 (.firstZ 8 (.firstZ 9 (.one 10 (.one 11 (.firstZ 12 (.done))))))) (.one 10 (.one 6 (.firstZ 7 (.firstZ 8 (.firstZ 9 (.one 11 (.firstZ 12 (.done))))))))) (.one 10 (.one 5 (.one 6 (.firstZ 7 (.firstZ 8 (.firstZ 9 (.one 11 (.firstZ 12 (.done))))))))))))))) (by kernel_rfl) ?_) ?_
    ·
     simp only [go_sem]
     intro t31 e31
     (try replace e31 := w64 e31 (by omega) (by omega))
     refine ⟨?_, ?_⟩
     ·
      refine cwE_m (choose_c cur a0 a1 (j.first - 1) (by omega) (by omega)) byW byT ?_
      simp only [go_sem]
      refine ⟨?_, ?_⟩
      ·
       refine cwE_m (hB) byW byT ?_
       simp only [go_sem]
       first | (refine ⟨[0, 1], rfl, rfl, ?_, ?_⟩ <;> (first | trivial | (simp only [go_sem, wk, wks, wkB, wkH, subw, subEw, hprew, ltb, subr, subEr]; done) | (simp only [go_sem, wk, wks, wkB, wkH, subw, subEw, hprew, ltb, subr, subEr]; and_intros <;> first | trivial | rfl | omega | assumption | exact Nat.le_refl _ | exact wks_refl _ | exact wk_refl _ | (intros; exact wks_refl _) | (subst_vars; intro q hq; refine wks_mp_snoc (fun x => ?_) ?_ ?_; exact rnVs_no _ rfl; rfl; simp at hq; omega) | (simp; done) | (simp; omega))))
      ·
       refine cwE_m (hB) byW byT ?_
       simp only [go_sem]
       first | (refine ⟨[0, 1], rfl, rfl, ?_, ?_⟩ <;> (first | trivial | (simp only [go_sem, wk, wks, wkB, wkH, subw, subEw, hprew, ltb, subr, subEr]; done) | (simp only [go_sem, wk, wks, wkB, wkH, subw, subEw, hprew, ltb, subr, subEr]; and_intros <;> first | trivial | rfl | omega | assumption | exact Nat.le_refl _ | exact wks_refl _ | exact wk_refl _ | (intros; exact wks_refl _) | (subst_vars; intro q hq; refine wks_mp_snoc (fun x => ?_) ?_ ?_; exact rnVs_no _ rfl; rfl; simp at hq; omega) | (simp; done) | (simp; omega))))
     ·
      refine cwE_m (choose_c cur a0 a1 (j.first - 1) (by omega) (by omega)) byW byT ?_
      simp only [go_sem]
      refine cwE_m (hB) byW byT ?_
      simp only [go_sem]
      first | (refine ⟨[0, 1], rfl, rfl, ?_, ?_⟩ <;> (first | trivial | (simp only [go_sem, wk, wks, wkB, wkH, subw, subEw, hprew, ltb, subr, subEr]; done) | (simp only [go_sem, wk, wks, wkB, wkH, subw, subEw, hprew, ltb, subr, subEr]; and_intros <;> first | trivial | rfl | omega | assumption | exact Nat.le_refl _ | exact wks_refl _ | exact wk_refl _ | (intros; exact wks_refl _) | (subst_vars; intro q hq; refine wks_mp_snoc (fun x => ?_) ?_ ?_; exact rnVs_no _ rfl; rfl; simp at hq; omega) | (simp; done) | (simp; omega))))
    refine cx_seq ?_
    refine cx_sr ?_
    simp only [go_sem]
    intro t37 e37
    intro t41 e41
    intro t42 e42
    rw [bsel_or] at e42
    intro t47 e47
    intro t48 e48
    rw [bsel_or] at e48
    intro t52 e52
    rw [bsel_or] at e52
    subst e37 e41 e42 e47 e48 e52
    refine cx_if _ rfl (fun h52 => ?_) (fun h52 => ?_)
    ·
     (try simp only [go_sem] at h52)
     refine cx_sr ?_
     simp only [go_sem]
     refine cx_ret ?_
     simp only [go_sem]
     exfalso
     simp at h52
    ·
     (try simp only [go_sem] at h52)
     refine cx_skip ?_
     (try simp only [go_sem])
     refine cx_sr ?_
     simp only [go_sem]
     repeat first | (with_reducible refine side_d ?_ ?_; exact byD) | (with_reducible refine side_q ?_ ?_; exact byQ)
     by_cases hs56 : checkT t = 0
     ·
      have hF := Follow_v t 0 ⟨true, (openP j).1, [], j.first + j.commits.length - 1, false⟩ okt hpg
      rw [hfo, if_neg (by simpa using hs56)] at hF
      refine cw_m (hF) byW byT ?_
      simp only [go_sem]
      refine cx_seq ?_
      refine cx_sr ?_
      simp only [go_sem]
      intro t61 e61
      subst e61
      refine cx_if _ rfl (fun h61 => no_if h61) (fun h61 => ?_)
      refine cx_skip ?_
      (try simp only [go_sem])
      refine cx_sr ?_
      simp only [go_sem]
      refine cw_m (SameEntries_c (openP j).1 (openP j).1 (by omega) (by omega)) byW byT ?_
      simp only [go_sem]
      intro t75 e75
      (try replace e75 := w64 e75 (by omega) (by omega))
      intro t76 e76
      (try replace e76 := w64 e76 (by omega) (by omega))
      intro t77 e77
      intro t78 e78
      rw [bsel_and] at e78
      subst e77 e78
      refine cx_ret ?_
      simp only [go_sem]
      refine finw_bool ?_
      simp_all [sameL]
      try omega
     ·
      have hF := Follow_v t 0 ⟨true, (openP j).1, [], j.first + j.commits.length - 1, false⟩ okt hpg
      rw [hfo, if_pos hs56] at hF
      refine cw_m (hF) byW byT ?_
      simp only [go_sem]
      refine cx_seq ?_
      refine cx_sr ?_
      simp only [go_sem]
      intro t61 e61
      subst e61
      refine cx_if _ rfl (fun h61 => ?_) (fun h61 => ?_)
      ·
       (try simp only [go_sem] at h61)
       refine cx_sr ?_
       simp only [go_sem]
       refine cw_m (RCheckTree_c t okt) byW byT ?_
       simp only [go_sem]
       intro t64 e64
       subst e64
       refine cx_ret ?_
       simp only [go_sem]
       refine finw_bool ?_
       simp_all [sameL]
       try omega
      · simp_all
end Go.VM.Tryd
end
