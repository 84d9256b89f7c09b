import Derived.Test.YtfdbnppkcofndaaDoorSW3
import Derived.Test.YtfdbnppkcofndaaDoorSV5
import Derived.Test.YtfdbnppkcofndaaDoorSW1
section
set_option linter.unusedVariables false
set_option linter.unusedSimpArgs false
open Go Go.VM Go.Proofs Tether
namespace Go.VM.Tryd
set_option maxRecDepth 100000
def rawErr (l : List Entry) (c : Change) (v : Int) : Int := if formP c ≠ 0 then formP c else if mayP l c ≠ 0 then mayP l c else doneErr l c v
def rawP (l : List Entry) (c : Change) (v : Int) : List Entry := if rawErr l c v = 0 then madeP l c v else []
theorem form_ok {c : Change} (h : formP c = 0) : checkP [c.path] = 0 ∧ (c.kind = 3 → checkP [c.to] = 0) := by
  unfold formP at h
  grind
/-- a tree that passes: what a change asks of it -/
structure GoodT (l : List Entry) : Prop where
  sorted : SortedE l
  ok : okE l
  paths : okP l
theorem Raw_c (l : List Entry) (c : Change) (v : Int) (g : GoodT l) (ok : okC c) : Meets Tryd.prog 49 [esV l, .agg c.enc, .int .i64 v]
    (.tup [.own none 0 4 0 (rawP l c v).length .loose, .int .i64 (rawErr l c v)]) [.arr 4 (rawP l c v).length (En Entry.enc default (rawP l c v))] := by
  refine meets_x (fn := Tryd.f49) Tryd.func49 rfl fb49 (by kernel_rfl) (Nat.le_of_ble_eq_true rfl) ?_
  have hl := g.ok.1
  refine cx_sr ?_
  simp only [go_sem]
  repeat first | (with_reducible refine side_d ?_ ?_; exact byD) | (with_reducible refine side_q ?_ ?_; exact byQ)
  refine cx_sr ?_
  simp only [go_sem]
  repeat first | (with_reducible refine side_d ?_ ?_; exact byD) | (with_reducible refine side_q ?_ ?_; exact byQ)
  refine cw_m (form_c c ok) byW byT ?_
  simp only [go_sem]
  repeat first | (with_reducible refine side_d ?_ ?_; exact byD) | (with_reducible refine side_q ?_ ?_; exact byQ)
  refine cx_seq ?_
  refine cx_sr ?_
  simp only [go_sem]
  repeat first | (with_reducible refine side_d ?_ ?_; exact byD) | (with_reducible refine side_q ?_ ?_; exact byQ)
  intro t12 e12
  repeat first | (with_reducible refine side_d ?_ ?_; exact byD) | (with_reducible refine side_q ?_ ?_; exact byQ)
  subst e12
  refine cx_if _ rfl (fun h12 => ?_) (fun h12 => ?_)
  ·
    (try simp only [go_sem] at h12)
    refine cx_region ?_
    simp only [go_sem]
    repeat first | (with_reducible refine side_d ?_ ?_; exact byD) | (with_reducible refine side_q ?_ ?_; exact byQ)
    refine cw_m (may_c l c g.sorted g.ok ok) byW byT ?_
    simp only [go_sem]
    repeat first | (with_reducible refine side_d ?_ ?_; exact byD) | (with_reducible refine side_q ?_ ?_; exact byQ)
    refine cx_seq ?_
    refine cx_sr ?_
    simp only [go_sem]
    repeat first | (with_reducible refine side_d ?_ ?_; exact byD) | (with_reducible refine side_q ?_ ?_; exact byQ)
    intro t17 e17
    repeat first | (with_reducible refine side_d ?_ ?_; exact byD) | (with_reducible refine side_q ?_ ?_; exact byQ)
    subst e17
    refine cx_if _ rfl (fun h17 => ?_) (fun h17 => ?_)
    ·
      (try simp only [go_sem] at h17)
      refine cx_sr ?_
      simp only [go_sem]
      repeat first | (with_reducible refine side_d ?_ ?_; exact byD) | (with_reducible refine side_q ?_ ?_; exact byQ)
      refine cx_virt 6 4 (En Entry.enc default []) rfl ?_
      simp only [go_sem]
      refine cx_ret ?_
      simp only [go_sem]
      have h1 : formP c = 0 := by simpa using h12
      have h2 : ¬ mayP l c = 0 := by simpa using h17
      have he : rawErr l c v = mayP l c := by rw [rawErr, if_neg (by simpa using h1), if_pos h2]
      have hp : rawP l c v = [] := by rw [rawP, he, if_neg h2]
      rw [he, hp]
      exact finx_of 1 [1] rfl byC byC byC byC
    ·
      (try simp only [go_sem] at h17)
      have hF : formP c = 0 := by first | (simpa using h12) | (simpa using h17)
      refine cx_skip ?_
      (try simp only [go_sem])
      refine cx_seq (cx_draw mixed [4] (.first 0 (.first 2 (.first 3 (.one 1 (.one 4 (.first 5 (.first 6 (.first 7 (.first 8 (.done)))))))))) (by kernel_rfl) ?_)
      simp only [go_sem]
      repeat first | (with_reducible refine side_d ?_ ?_; exact byD) | (with_reducible refine side_q ?_ ?_; exact byQ)
      refine cwE_m (Clone_Entry l (by omega)) byW byT ?_
      simp only [go_sem]
      repeat first | (with_reducible refine side_d ?_ ?_; exact byD) | (with_reducible refine side_q ?_ ?_; exact byQ)
      refine cw_does (done_c l c v g.sorted g.paths (form_ok hF).1 (form_ok hF).2) [1] rfl byC byC ?_
      simp only [go_sem]
      repeat first | (with_reducible refine side_d ?_ ?_; exact byD) | (with_reducible refine side_q ?_ ?_; exact byQ)
      refine cx_ret ?_
      simp only [go_sem]
      have h2 : mayP l c = 0 := by simpa using h17
      have he : rawErr l c v = doneErr l c v := by rw [rawErr, if_neg (by simpa using hF), if_neg (by simpa using h2)]
      have hp : rawP l c v = doneP l c v := by rw [rawP, he, doneP]
      rw [he, hp]
      exact finx_of 1 [2] rfl byC byC byC byC
  ·
    (try simp only [go_sem] at h12)
    refine cx_skip ?_
    (try simp only [go_sem])
    refine cx_seq ?_
    refine cx_sr ?_
    simp only [go_sem]
    repeat first | (with_reducible refine side_d ?_ ?_; exact byD) | (with_reducible refine side_q ?_ ?_; exact byQ)
    intro t17 e17
    repeat first | (with_reducible refine side_d ?_ ?_; exact byD) | (with_reducible refine side_q ?_ ?_; exact byQ)
    subst e17
    refine cx_if _ rfl (fun h17 => ?_) (fun h17 => ?_)
    ·
      (try simp only [go_sem] at h17)
      refine cx_sr ?_
      simp only [go_sem]
      repeat first | (with_reducible refine side_d ?_ ?_; exact byD) | (with_reducible refine side_q ?_ ?_; exact byQ)
      refine cx_virt 6 4 (En Entry.enc default []) rfl ?_
      simp only [go_sem]
      refine cx_ret ?_
      simp only [go_sem]
      have h1 : ¬ formP c = 0 := by simpa using h12
      have he : rawErr l c v = formP c := by rw [rawErr, if_pos h1]
      have hp : rawP l c v = [] := by rw [rawP, he, if_neg h1]
      rw [he, hp]
      exact finx_of 1 [1] rfl byC byC byC byC
    ·
      (try simp only [go_sem] at h17)
      have hF : formP c = 0 := by first | (simpa using h12) | (simpa using h17)
      refine cx_skip ?_
      (try simp only [go_sem])
      refine cx_seq (cx_draw mixed [4] (.first 0 (.first 2 (.first 3 (.one 1 (.one 4 (.first 5 (.first 6 (.first 7 (.first 8 (.done)))))))))) (by kernel_rfl) ?_)
      simp only [go_sem]
      repeat first | (with_reducible refine side_d ?_ ?_; exact byD) | (with_reducible refine side_q ?_ ?_; exact byQ)
      refine cwE_m (Clone_Entry l (by omega)) byW byT ?_
      simp only [go_sem]
      repeat first | (with_reducible refine side_d ?_ ?_; exact byD) | (with_reducible refine side_q ?_ ?_; exact byQ)
      refine cw_does (done_c l c v g.sorted g.paths (form_ok hF).1 (form_ok hF).2) [1] rfl byC byC ?_
      simp only [go_sem]
      repeat first | (with_reducible refine side_d ?_ ?_; exact byD) | (with_reducible refine side_q ?_ ?_; exact byQ)
      refine cx_ret ?_
      simp only [go_sem]
      exact absurd hF (by simpa using h12)
theorem firstErr_0 {α : Type} {f : α → Int} {l : List α} : firstErr f l = 0 ↔ ∀ x ∈ l, f x = 0 := by
  induction l with
  | nil => simp [firstErr]
  | cons x l ih =>
    unfold firstErr
    by_cases h : f x = 0
    · simp [h, ih]
    · simp [h]
theorem entErr_path {x : Entry} (h : entErr x = 0) : checkP [x.path] = 0 := by
  unfold entErr at h
  grind
theorem checkT_good {l : List Entry} (ok : okE l) (h : checkT l = 0) : GoodT l where
  sorted := by
    unfold checkT at h
    have : sortedB l = true := by grind
    exact sortedB_iff.1 this
  ok := ok
  paths := by
    unfold checkT at h
    have h1 : (l.length : Int) ≤ 60 := by grind
    have h2 : firstErr entErr l = 0 := by grind
    exact ⟨by omega, fun x hx => entErr_path (firstErr_0.1 h2 x hx)⟩
theorem made_mem {l : List Entry} {c : Change} {v : Int} (hs : SortedE l) {x : Entry} (hx : x ∈ madeP l c v) :
    x ∈ l ∨ x = ⟨c.path, true, [], v⟩ ∨ x = ⟨c.path, false, c.text, v⟩ ∨ (c.kind = 3 ∧ x ∈ goesP l c v) := by
  unfold madeP at hx
  split at hx
  · rcases (putE_mem hs).1 hx with h | ⟨h, _⟩
    · exact .inr (.inl h)
    · exact .inl h
  · split at hx
    · rcases (putE_mem hs).1 hx with h | ⟨h, _⟩
      · exact .inr (.inr (.inl h))
      · exact .inl h
    · split at hx
      · exact .inl (List.mem_filter.1 hx).1
      · split at hx
        · rename_i hk
          have key : ∀ (g : List Entry) (t : List Entry), SortedE t → x ∈ g.foldl putE t → x ∈ t ∨ x ∈ g := by
            intro g
            induction g with
            | nil => intro t _ h; exact .inl h
            | cons y g ih =>
              intro t ht h
              rcases ih (putE t y) (putE_sorted ht y) h with h | h
              · rcases (putE_mem ht).1 h with h | ⟨h, _⟩
                · exact .inr (by simp [h])
                · exact .inl h
              · exact .inr (by simp [h])
          rcases key _ _ (filter_sorted hs _) hx with h | h
          · exact .inl (List.mem_filter.1 h).1
          · exact .inr (.inr (.inr ⟨hk, h⟩))
        · exact .inl hx
theorem made_sorted {l : List Entry} {c : Change} {v : Int} (hs : SortedE l) : SortedE (madeP l c v) := by
  unfold madeP movedL
  split
  · exact putE_sorted hs _
  · split
    · exact putE_sorted hs _
    · split
      · exact filter_sorted hs _
      · split
        · exact foldl_put_sorted _ (filter_sorted hs _)
        · exact hs
theorem moved_pass {p f t : Str} (hp : checkP [p] = 0) (ht : checkP [t] = 0) (h : isIn p f = true) (hg : greatB (t ++ p.drop f.length) = false) : checkP [t ++ p.drop f.length] = 0 := by
  refine (checkP_iff _).2 ⟨fun x hx => ?_, hg⟩
  rw [← moved_pcs t h] at hx
  rcases List.mem_append.1 hx with hx | hx
  · exact ((checkP_iff t).1 ht).1 x hx
  · exact ((checkP_iff p).1 hp).1 x (List.mem_of_mem_drop hx)
theorem raw_0 {l : List Entry} {c : Change} {v : Int} (h : rawErr l c v = 0) : formP c = 0 ∧ mayP l c = 0 ∧ doneErr l c v = 0 := by
  unfold rawErr at h
  grind
theorem done_0 {l : List Entry} {c : Change} {v : Int} (h : doneErr l c v = 0) : (c.kind = 3 → greatG l c v = false) ∧ (madeP l c v).length ≤ 60 := by
  unfold doneErr at h
  constructor
  · intro hk
    cases hg : greatG l c v with
    | false => rfl
    | true => rw [if_pos ⟨hk, hg⟩] at h; cases h
  · split at h
    · cases h
    · split at h
      · cases h
      · omega
theorem goes_path {l : List Entry} {c : Change} {v : Int} (hl : ∀ x ∈ l, checkP [x.path] = 0) (ht : checkP [c.to] = 0) (hg : greatG l c v = false) {x : Entry} (hx : x ∈ goesP l c v) : checkP [x.path] = 0 := by
  have hgx : greatB x.path = false := by
    rw [greatG, List.any_eq_false] at hg
    simpa using hg x hx
  obtain ⟨y, hy, rfl⟩ := List.mem_map.1 hx
  obtain ⟨h1, h2⟩ := List.mem_filter.1 hy
  exact moved_pass (hl y h1) ht h2 hgx
theorem made_good {l : List Entry} {c : Change} {v : Int} (g : GoodT l) (ok : okC c) (h : rawErr l c v = 0) : GoodT (madeP l c v) := by
  obtain ⟨h1, h2, h3⟩ := raw_0 h
  obtain ⟨h4, h5⟩ := done_0 h3
  obtain ⟨h6, h7⟩ := form_ok h1
  have hpath : ∀ x ∈ madeP l c v, checkP [x.path] = 0 := by
    intro x hx
    rcases made_mem g.sorted hx with h | rfl | rfl | ⟨hk, h⟩
    · exact g.paths.2 x h
    · exact h6
    · exact h6
    · exact goes_path g.paths.2 (h7 hk) (h4 hk) h
  refine ⟨made_sorted g.sorted, ⟨by omega, fun x hx => ⟨by have := checkP_len (hpath x hx); omega, ?_⟩⟩, by omega, hpath⟩
  rcases made_mem g.sorted hx with h | rfl | rfl | ⟨_, h⟩
  · exact (g.ok.2 x h).2
  · simp
  · exact ok.2.2
  · obtain ⟨y, hy, rfl⟩ := List.mem_map.1 h
    exact (g.ok.2 y (List.mem_filter.1 hy).1).2
def verB (v : Int) : Bool := decide (1 ≤ v) && decide (v ≤ 1000000)
def applyErr (l : List Entry) (c : Change) (v : Int) : Int := if checkT l ≠ 0 then checkT l else if verB v = false then 3 else rawErr l c v
def applyP (l : List Entry) (c : Change) (v : Int) : List Entry := if applyErr l c v = 0 then madeP l c v else []
theorem Apply_c (l : List Entry) (c : Change) (v : Int) (okl : okE l) (ok : okC c) : Meets Tryd.prog 22 [esV l, .agg c.enc, .int .i64 v]
    (.tup [.own none 0 4 0 (applyP l c v).length .loose, .int .i64 (applyErr l c v)]) [.arr 4 (applyP l c v).length (En Entry.enc default (applyP l c v))] := by
  refine meets_x (fn := Tryd.f22) Tryd.func22 rfl fb22 (by kernel_rfl) (Nat.le_of_ble_eq_true rfl) ?_
  refine cx_sr ?_
  simp only [go_sem]
  repeat first | (with_reducible refine side_d ?_ ?_; exact byD) | (with_reducible refine side_q ?_ ?_; exact byQ)
  refine cx_seq ?_
  refine cx_sr ?_
  simp only [go_sem]
  repeat first | (with_reducible refine side_d ?_ ?_; exact byD) | (with_reducible refine side_q ?_ ?_; exact byQ)
  refine cw_v 2 (tcheck1_c l okl) byV byC rfl ?_
  simp only [go_sem]
  repeat first | (with_reducible refine side_d ?_ ?_; exact byD) | (with_reducible refine side_q ?_ ?_; exact byQ)
  refine cx_sr ?_
  simp only [go_sem]
  repeat first | (with_reducible refine side_d ?_ ?_; exact byD) | (with_reducible refine side_q ?_ ?_; exact byQ)
  intro t13 e13
  repeat first | (with_reducible refine side_d ?_ ?_; exact byD) | (with_reducible refine side_q ?_ ?_; exact byQ)
  subst e13
  refine cx_if _ rfl (fun h13 => ?_) (fun h13 => ?_)
  ·
    (try simp only [go_sem] at h13)
    refine cx_sr ?_
    simp only [go_sem]
    repeat first | (with_reducible refine side_d ?_ ?_; exact byD) | (with_reducible refine side_q ?_ ?_; exact byQ)
    refine cx_virt 6 4 (En Entry.enc default []) rfl ?_
    simp only [go_sem]
    refine cx_ret ?_
    simp only [go_sem]
    have h1 : ¬ checkT l = 0 := by simpa using h13
    have he : applyErr l c v = checkT l := by rw [applyErr, if_pos h1]
    have hp : applyP l c v = [] := by rw [applyP, he, if_neg h1]
    rw [he, hp]
    exact finx_of 1 [2] rfl byC byC byC byC
  ·
    (try simp only [go_sem] at h13)
    have hg := checkT_good okl (by simpa using h13)
    refine cx_skip ?_
    (try simp only [go_sem])
    refine cx_seq ?_
    refine cx_sr ?_
    simp only [go_sem]
    repeat first | (with_reducible refine side_d ?_ ?_; exact byD) | (with_reducible refine side_q ?_ ?_; exact byQ)
    refine cw_m (isVersion_c v) byW byT ?_
    simp only [go_sem]
    repeat first | (with_reducible refine side_d ?_ ?_; exact byD) | (with_reducible refine side_q ?_ ?_; exact byQ)
    intro t17 e17
    repeat first | (with_reducible refine side_d ?_ ?_; exact byD) | (with_reducible refine side_q ?_ ?_; exact byQ)
    subst e17
    refine cx_if _ rfl (fun h17 => ?_) (fun h17 => ?_)
    ·
      (try simp only [go_sem] at h17)
      refine cx_sr ?_
      simp only [go_sem]
      repeat first | (with_reducible refine side_d ?_ ?_; exact byD) | (with_reducible refine side_q ?_ ?_; exact byQ)
      refine cx_virt 6 4 (En Entry.enc default []) rfl ?_
      simp only [go_sem]
      refine cx_ret ?_
      simp only [go_sem]
      have h1 : checkT l = 0 := by simpa using h13
      have h2 : verB v = false := by unfold verB; simp at h17 ⊢; omega
      have he : applyErr l c v = 3 := by rw [applyErr, if_neg (by simpa using h1), if_pos h2]
      have hp : applyP l c v = [] := by rw [applyP, he, if_neg (by decide)]
      rw [he, hp]
      exact finx_of 1 [2] rfl byC byC byC byC
    ·
      (try simp only [go_sem] at h17)
      refine cx_skip ?_
      (try simp only [go_sem])
      refine cx_sr ?_
      simp only [go_sem]
      repeat first | (with_reducible refine side_d ?_ ?_; exact byD) | (with_reducible refine side_q ?_ ?_; exact byQ)
      refine cw_m (Raw_c l c v hg ok) byW byT ?_
      simp only [go_sem]
      repeat first | (with_reducible refine side_d ?_ ?_; exact byD) | (with_reducible refine side_q ?_ ?_; exact byQ)
      refine cx_ret ?_
      simp only [go_sem]
      have h1 : checkT l = 0 := by simpa using h13
      have h2 : ¬ verB v = false := by unfold verB; simp at h17 ⊢; omega
      have he : applyErr l c v = rawErr l c v := by rw [applyErr, if_neg (by simpa using h1), if_neg h2]
      have hp : applyP l c v = rawP l c v := by rw [applyP, he, rawP]
      rw [he, hp]
      exact finx_of 1 [2] rfl byC byC byC byC
/-- the changes from one on -/
def allRun (v : Int) : List Entry → List Change → Int → List Entry × Int × Int
  | t, [], k => (t, k, 0)
  | t, c :: cs, k => if rawErr t c v ≠ 0 then ([], k, rawErr t c v) else allRun v (madeP t c v) cs (k + 1)
def allP (l : List Entry) (cs : List Change) (v : Int) : List Entry × Int × Int :=
  if checkT l ≠ 0 then ([], 0, checkT l) else if 20 < (cs.length : Int) then ([], 0, 2) else if verB v = false ∧ 0 < (cs.length : Int) then ([], 0, 3) else allRun v l cs 0
/-- changes, as they are handed over -/
abbrev csV (l : List Change) : V := lstV 5 Change.enc default l
def okCs (cs : List Change) : Prop := cs.length ≤ 1048576 ∧ ∀ c ∈ cs, okC c
theorem All_c (l : List Entry) (cs : List Change) (v : Int) (okl : okE l) (ok : okCs cs) : Meets Tryd.prog 28 [esV l, csV cs, .int .i64 v]
    (.tup [.own none 0 4 0 (allP l cs v).1.length .loose, .int .i64 (allP l cs v).2.1, .int .i64 (allP l cs v).2.2]) [.arr 4 (allP l cs v).1.length (En Entry.enc default (allP l cs v).1)] := by
  refine meets_x (fn := Tryd.f28) Tryd.func28 rfl fb28 (by kernel_rfl) (Nat.le_of_ble_eq_true rfl) ?_
  have hcl := ok.1
  have hll := okl.1
  refine cx_sr ?_
  simp only [go_sem]
  repeat first | (with_reducible refine side_d ?_ ?_; exact byD) | (with_reducible refine side_q ?_ ?_; exact byQ)
  refine cx_seq ?_
  refine cx_sr ?_
  simp only [go_sem]
  repeat first | (with_reducible refine side_d ?_ ?_; exact byD) | (with_reducible refine side_q ?_ ?_; exact byQ)
  refine cw_v 2 (tcheck1_c l okl) byV byC rfl ?_
  simp only [go_sem]
  repeat first | (with_reducible refine side_d ?_ ?_; exact byD) | (with_reducible refine side_q ?_ ?_; exact byQ)
  refine cx_sr ?_
  simp only [go_sem]
  repeat first | (with_reducible refine side_d ?_ ?_; exact byD) | (with_reducible refine side_q ?_ ?_; exact byQ)
  intro t18 e18
  repeat first | (with_reducible refine side_d ?_ ?_; exact byD) | (with_reducible refine side_q ?_ ?_; exact byQ)
  subst e18
  refine cx_if _ rfl (fun h18 => ?_) (fun h18 => ?_)
  ·
    (try simp only [go_sem] at h18)
    refine cx_sr ?_
    simp only [go_sem]
    repeat first | (with_reducible refine side_d ?_ ?_; exact byD) | (with_reducible refine side_q ?_ ?_; exact byQ)
    refine cx_virt 6 4 (En Entry.enc default []) rfl ?_
    simp only [go_sem]
    refine cx_ret ?_
    simp only [go_sem]
    have h1 : ¬ checkT l = 0 := by simpa using h18
    have he : allP l cs v = ([], 0, checkT l) := by rw [allP, if_pos h1]
    rw [he]
    exact finx_of 1 [1] rfl byC byC byC byC
  ·
    (try simp only [go_sem] at h18)
    have hck : checkT l = 0 := by simpa using h18
    have hg := checkT_good okl hck
    refine cx_skip ?_
    (try simp only [go_sem])
    refine cx_seq ?_
    refine cx_sr ?_
    simp only [go_sem]
    repeat first | (with_reducible refine side_d ?_ ?_; exact byD) | (with_reducible refine side_q ?_ ?_; exact byQ)
    intro t22 e22
    repeat first | (with_reducible refine side_d ?_ ?_; exact byD) | (with_reducible refine side_q ?_ ?_; exact byQ)
    subst e22
    refine cx_if _ rfl (fun h22 => ?_) (fun h22 => ?_)
    ·
      (try simp only [go_sem] at h22)
      refine cx_sr ?_
      simp only [go_sem]
      repeat first | (with_reducible refine side_d ?_ ?_; exact byD) | (with_reducible refine side_q ?_ ?_; exact byQ)
      refine cx_virt 6 4 (En Entry.enc default []) rfl ?_
      simp only [go_sem]
      refine cx_ret ?_
      simp only [go_sem]
      have he : allP l cs v = ([], 0, 2) := by rw [allP, if_neg (by simpa using hck), if_pos (by omega)]
      rw [he]
      exact finx_of 1 [1] rfl byC byC byC byC
    ·
      (try simp only [go_sem] at h22)
      refine cx_skip ?_
      (try simp only [go_sem])
      refine cx_seq ?_
      refine cx_sr ?_
      simp only [go_sem]
      repeat first | (with_reducible refine side_d ?_ ?_; exact byD) | (with_reducible refine side_q ?_ ?_; exact byQ)
      refine cw_m (isVersion_c v) byW byT ?_
      simp only [go_sem]
      repeat first | (with_reducible refine side_d ?_ ?_; exact byD) | (with_reducible refine side_q ?_ ?_; exact byQ)
      intro t25 e25
      repeat first | (with_reducible refine side_d ?_ ?_; exact byD) | (with_reducible refine side_q ?_ ?_; exact byQ)
      intro t29 e29
      repeat first | (with_reducible refine side_d ?_ ?_; exact byD) | (with_reducible refine side_q ?_ ?_; exact byQ)
      intro t30 e30
      rw [bsel_and] at e30
      repeat first | (with_reducible refine side_d ?_ ?_; exact byD) | (with_reducible refine side_q ?_ ?_; exact byQ)
      subst e25 e29 e30
      refine cx_if _ rfl (fun h30 => ?_) (fun h30 => ?_)
      ·
        (try simp only [go_sem] at h30)
        refine cx_sr ?_
        simp only [go_sem]
        repeat first | (with_reducible refine side_d ?_ ?_; exact byD) | (with_reducible refine side_q ?_ ?_; exact byQ)
        refine cx_virt 6 4 (En Entry.enc default []) rfl ?_
        simp only [go_sem]
        refine cx_ret ?_
        simp only [go_sem]
        have hv : verB v = false ∧ 0 < (cs.length : Int) := by unfold verB; simp at h30 ⊢; omega
        have he : allP l cs v = ([], 0, 3) := by rw [allP, if_neg (by simpa using hck), if_neg (by omega), if_pos hv]
        rw [he]
        exact finx_of 1 [1] rfl byC byC byC byC
      ·
        (try simp only [go_sem] at h30)
        have hv : ¬ (verB v = false ∧ 0 < (cs.length : Int)) := by unfold verB; grind
        have he : allP l cs v = allRun v l cs 0 := by rw [allP, if_neg (by simpa using hck), if_neg (by omega), if_neg hv]
        refine cx_skip ?_
        (try simp only [go_sem])
        refine cx_sr ?_
        simp only [go_sem]
        repeat first | (with_reducible refine side_d ?_ ?_; exact byD) | (with_reducible refine side_q ?_ ?_; exact byQ)
        refine cw_m (Clone_Entry l (by omega)) byW byT ?_
        simp only [go_sem]
        repeat first | (with_reducible refine side_d ?_ ?_; exact byD) | (with_reducible refine side_q ?_ ?_; exact byQ)
        refine cx_seq ?_
        refine cx_sr ?_
        simp only [go_sem]
        repeat first | (with_reducible refine side_d ?_ ?_; exact byD) | (with_reducible refine side_q ?_ ?_; exact byQ)
        refine cx_block ?_
        refine cx_loopk (σ := Nat × List Entry) (fun s => s.1 ≤ cs.length ∧ GoodT s.2 ∧ allRun v l cs 0 = allRun v s.2 (cs.drop s.1) (s.1 : Int)) (fun s => [⟨35, 0, [], .int .i64 (s.1 : Nat)⟩, ⟨0, 0, [], .own none 1 4 0 s.2.length .loose⟩]) [1, 2, 33, 34] (fun s => [.dead, .arr 4 s.2.length (En Entry.enc default s.2)]) (fun s => cs.length - s.1) (0, l) ⟨Nat.zero_le _, hg, rfl⟩ (fun _ => (Nat.zero_le _)) byC (fun s hI1 => ?_)
        simp only [go_sem]
        obtain ⟨i1, i2, i3⟩ := hI1
        have hlen := i2.ok.1
        refine cx_sr ?_
        simp only [go_sem]
        repeat first | (with_reducible refine side_d ?_ ?_; exact byD) | (with_reducible refine side_q ?_ ?_; exact byQ)
        intro t36 e36
        repeat first | (with_reducible refine side_d ?_ ?_; exact byD) | (with_reducible refine side_q ?_ ?_; exact byQ)
        subst e36
        refine cx_seq ?_
        refine cx_if _ rfl (fun h36 => ?_) (fun h36 => ?_)
        ·
          (try simp only [go_sem] at h36)
          have hcm : cs.getD s.1 default ∈ cs := getD_mem (by omega)
          have hdr : cs.drop s.1 = cs.getD s.1 default :: cs.drop (s.1 + 1) := by
            rw [List.drop_eq_getElem_cons (by omega)]
            simp [List.getD, show s.1 < cs.length by omega]
          refine cx_skip ?_
          (try simp only [go_sem])
          refine cx_seq (cx_block ?_)
          refine cx_sr ?_
          simp only [go_sem]
          repeat first | (with_reducible refine side_d ?_ ?_; exact byD) | (with_reducible refine side_q ?_ ?_; exact byQ)
          refine cx_sr ?_
          simp only [go_sem]
          repeat first | (with_reducible refine side_d ?_ ?_; exact byD) | (with_reducible refine side_q ?_ ?_; exact byQ)
          refine cw_n 2 (Raw_c s.2 (cs.getD s.1 default) v i2 (ok.2 _ hcm)) byV byC rfl byN ?_
          simp only [go_sem]
          repeat first | (with_reducible refine side_d ?_ ?_; exact byD) | (with_reducible refine side_q ?_ ?_; exact byQ)
          refine cx_seq ?_
          refine cx_sr ?_
          simp only [go_sem]
          repeat first | (with_reducible refine side_d ?_ ?_; exact byD) | (with_reducible refine side_q ?_ ?_; exact byQ)
          intro t48 e48
          repeat first | (with_reducible refine side_d ?_ ?_; exact byD) | (with_reducible refine side_q ?_ ?_; exact byQ)
          subst e48
          refine cx_if _ rfl (fun h48 => ?_) (fun h48 => ?_)
          ·
            (try simp only [go_sem] at h48)
            refine cx_sr ?_
            simp only [go_sem]
            repeat first | (with_reducible refine side_d ?_ ?_; exact byD) | (with_reducible refine side_q ?_ ?_; exact byQ)
            refine cx_virt 6 4 (En Entry.enc default []) rfl ?_
            simp only [go_sem]
            refine cx_ret ?_
            simp only [go_sem]
            have he2 : allP l cs v = ([], (s.1 : Int), rawErr s.2 (cs.getD s.1 default) v) := by rw [he, i3, hdr, allRun, if_pos h48]
            rw [he2]
            exact finx_of 1 [4] rfl byC byC byC byC
          ·
            (try simp only [go_sem] at h48)
            refine cx_skip ?_
            (try simp only [go_sem])
            refine cx_region ?_
            simp only [go_sem]
            repeat first | (with_reducible refine side_d ?_ ?_; exact byD) | (with_reducible refine side_q ?_ ?_; exact byQ)
            refine cx_region ?_
            simp only [go_sem]
            repeat first | (with_reducible refine side_d ?_ ?_; exact byD) | (with_reducible refine side_q ?_ ?_; exact byQ)
            intro t52 e52
            (try replace e52 := w64 e52 (by omega) (by omega))
            repeat first | (with_reducible refine side_d ?_ ?_; exact byD) | (with_reducible refine side_q ?_ ?_; exact byQ)
            have h48' : rawErr s.2 (cs.getD s.1 default) v = 0 := by simpa using h48
            have hr : rawP s.2 (cs.getD s.1 default) v = madeP s.2 (cs.getD s.1 default) v := by rw [rawP, if_pos h48']
            refine rnd_nextr (s.1 + 1, madeP s.2 (cs.getD s.1 default) v) [0, 3] ⟨by dsimp only; omega, made_good i2 (ok.2 _ hcm) h48', ?_⟩ (by first | omega | (dsimp only; omega)) ⟨rfl, rfl, ?_, ?_⟩
            · rw [i3, hdr, allRun, if_neg (by simpa using h48')]
              rfl
            · rw [hr]; exact byC
            · rw [hr]; exact byC
        ·
          (try simp only [go_sem] at h36)
          refine cx_exit ?_
          simp only [go_sem]
          refine cx_sr ?_
          simp only [go_sem]
          repeat first | (with_reducible refine side_d ?_ ?_; exact byD) | (with_reducible refine side_q ?_ ?_; exact byQ)
          refine cx_ret ?_
          simp only [go_sem]
          have hi : s.1 = cs.length := by omega
          have he2 : allP l cs v = (s.2, (cs.length : Int), 0) := by rw [he, i3, hi, List.drop_length, allRun]
          rw [he2]
          exact finx_of 1 [1] rfl byC byC byC byC
end Go.VM.Tryd
end
section
set_option linter.unusedVariables false
set_option linter.unusedSimpArgs false
open Go Go.VM Go.Proofs Tether
namespace Go.VM.Tryd
set_option maxRecDepth 100000
def sameL {α : Type} [DecidableEq α] (a b : List α) : Bool := decide (a = b)
theorem list_eq_of {α : Type} {a b : List α} {d : α} (hl : a.length = b.length) (h : ∀ i, i < a.length → a.getD i d = b.getD i d) : a = b := by
  apply List.ext_getElem hl
  intro i h1 h2
  have := h i h1
  simpa [List.getD, h1, h2] using this
theorem Entry.of_eq {a b : Entry} (h : a.path = b.path ∧ a.folder = b.folder ∧ a.text = b.text ∧ a.version = b.version) : a = b := by
  cases a; cases b; simp_all
theorem Change.of_eq {a b : Change} (h : a.kind = b.kind ∧ a.path = b.path ∧ a.to = b.to ∧ a.text = b.text ∧ a.base = b.base) : a = b := by
  cases a; cases b; simp_all
theorem SameEntries_c (a b : List Entry) (ha : a.length < 4611686018427387904) (hb : b.length < 4611686018427387904) : Meets Tryd.prog 30 [lstV 4 Entry.enc default a, lstV 4 Entry.enc default b] (.bool (sameL a b)) [] := by
  refine meets_x (fn := Tryd.f30) Tryd.func30 rfl fb30 (by kernel_rfl) (Nat.le_of_ble_eq_true rfl) ?_
  refine cx_sr ?_
  simp only [go_sem]
  repeat first | (with_reducible refine side_d ?_ ?_; exact byD) | (with_reducible refine side_q ?_ ?_; exact byQ)
  refine cx_seq ?_
  refine cx_sr ?_
  simp only [go_sem]
  repeat first | (with_reducible refine side_d ?_ ?_; exact byD) | (with_reducible refine side_q ?_ ?_; exact byQ)
  intro t10 e10
  repeat first | (with_reducible refine side_d ?_ ?_; exact byD) | (with_reducible refine side_q ?_ ?_; exact byQ)
  subst e10
  refine cx_if _ rfl (fun h10 => ?_) (fun h10 => ?_)
  ·
    (try simp only [go_sem] at h10)
    refine cx_sr ?_
    simp only [go_sem]
    repeat first | (with_reducible refine side_d ?_ ?_; exact byD) | (with_reducible refine side_q ?_ ?_; exact byQ)
    refine cx_ret ?_
    simp only [go_sem]
    refine finw_bool ?_
    have : a ≠ b := fun e => by subst e; exact h10 rfl
    simp [sameL, this]
  ·
    (try simp only [go_sem] at h10)
    refine cx_skip ?_
    (try simp only [go_sem])
    refine cx_seq ?_
    refine cx_sr ?_
    simp only [go_sem]
    repeat first | (with_reducible refine side_d ?_ ?_; exact byD) | (with_reducible refine side_q ?_ ?_; exact byQ)
    refine cx_block ?_
    refine cx_loop0 (σ := Nat) (fun i => i ≤ a.length ∧ ∀ j, j < i → a.getD j default = b.getD j default) (fun i => [⟨5, 0, [], .int .i64 (i : Nat)⟩]) [0, 1] (fun i => a.length - i) 0 ⟨Nat.zero_le _, fun j hj => absurd hj (Nat.not_lt_zero j)⟩ (Nat.zero_le _) byC (fun i hI1 => ?_)
    simp only [go_sem]
    refine cx_seq ?_
    refine cx_sr ?_
    simp only [go_sem]
    repeat first | (with_reducible refine side_d ?_ ?_; exact byD) | (with_reducible refine side_q ?_ ?_; exact byQ)
    intro t14 e14
    repeat first | (with_reducible refine side_d ?_ ?_; exact byD) | (with_reducible refine side_q ?_ ?_; exact byQ)
    subst e14
    refine cx_if _ rfl (fun h14 => ?_) (fun h14 => ?_)
    ·
      (try simp only [go_sem] at h14)
      refine cx_skip ?_
      (try simp only [go_sem])
      refine cx_seq (cx_block ?_)
      refine cx_seq (cx_draw mixed [] (.first 0 (.first 1 (.first 2 (.first 3 (.first 4 (.first 5 (.first 6 (.first 7 (.first 8 (.done)))))))))) (by kernel_rfl) ?_)
      simp only [go_sem]
      repeat first | (with_reducible refine side_d ?_ ?_; exact byD) | (with_reducible refine side_q ?_ ?_; exact byQ)
      intro t25 e25
      repeat first | (with_reducible refine side_d ?_ ?_; exact byD) | (with_reducible refine side_q ?_ ?_; exact byQ)
      subst e25
      refine cx_if _ rfl (fun h25 => ?_) (fun h25 => ?_)
      ·
        (try simp only [go_sem] at h25)
        refine cx_sr ?_
        simp only [go_sem]
        repeat first | (with_reducible refine side_d ?_ ?_; exact byD) | (with_reducible refine side_q ?_ ?_; exact byQ)
        refine cx_ret ?_
        simp only [go_sem]
        refine finw_bool ?_
        have : a ≠ b := fun e => by
          subst e
          grind
        simp [sameL, this]
      ·
        (try simp only [go_sem] at h25)
        refine cx_skip ?_
        (try simp only [go_sem])
        refine cx_region ?_
        simp only [go_sem]
        repeat first | (with_reducible refine side_d ?_ ?_; exact byD) | (with_reducible refine side_q ?_ ?_; exact byQ)
        intro t16 e16
        (try replace e16 := w64 e16 (by omega) (by omega))
        repeat first | (with_reducible refine side_d ?_ ?_; exact byD) | (with_reducible refine side_q ?_ ?_; exact byQ)
        have hk : a.getD i default = b.getD i default := by
          exact Entry.of_eq h25
        refine rnd_next (i + 1) ⟨by omega, all_next hI1.2 hk⟩ (by first | omega | (dsimp only; omega)) byC
    ·
      (try simp only [go_sem] at h14)
      refine cx_exit ?_
      simp only [go_sem]
      refine cx_sr ?_
      simp only [go_sem]
      repeat first | (with_reducible refine side_d ?_ ?_; exact byD) | (with_reducible refine side_q ?_ ?_; exact byQ)
      refine cx_ret ?_
      simp only [go_sem]
      refine finw_bool ?_
      have : a = b := list_eq_of (d := default) (by omega) (fun j hj => hI1.2 j (by omega))
      simp [sameL, this]
theorem SameChanges_c (a b : List Change) (ha : a.length < 4611686018427387904) (hb : b.length < 4611686018427387904) : Meets Tryd.prog 19 [lstV 5 Change.enc default a, lstV 5 Change.enc default b] (.bool (sameL a b)) [] := by
  refine meets_x (fn := Tryd.f19) Tryd.func19 rfl fb19 (by kernel_rfl) (Nat.le_of_ble_eq_true rfl) ?_
  refine cx_sr ?_
  simp only [go_sem]
  repeat first | (with_reducible refine side_d ?_ ?_; exact byD) | (with_reducible refine side_q ?_ ?_; exact byQ)
  refine cx_seq ?_
  refine cx_sr ?_
  simp only [go_sem]
  repeat first | (with_reducible refine side_d ?_ ?_; exact byD) | (with_reducible refine side_q ?_ ?_; exact byQ)
  intro t10 e10
  repeat first | (with_reducible refine side_d ?_ ?_; exact byD) | (with_reducible refine side_q ?_ ?_; exact byQ)
  subst e10
  refine cx_if _ rfl (fun h10 => ?_) (fun h10 => ?_)
  ·
    (try simp only [go_sem] at h10)
    refine cx_sr ?_
    simp only [go_sem]
    repeat first | (with_reducible refine side_d ?_ ?_; exact byD) | (with_reducible refine side_q ?_ ?_; exact byQ)
    refine cx_ret ?_
    simp only [go_sem]
    refine finw_bool ?_
    have : a ≠ b := fun e => by subst e; exact h10 rfl
    simp [sameL, this]
  ·
    (try simp only [go_sem] at h10)
    refine cx_skip ?_
    (try simp only [go_sem])
    refine cx_seq ?_
    refine cx_sr ?_
    simp only [go_sem]
    repeat first | (with_reducible refine side_d ?_ ?_; exact byD) | (with_reducible refine side_q ?_ ?_; exact byQ)
    refine cx_block ?_
    refine cx_loop0 (σ := Nat) (fun i => i ≤ a.length ∧ ∀ j, j < i → a.getD j default = b.getD j default) (fun i => [⟨5, 0, [], .int .i64 (i : Nat)⟩]) [0, 1] (fun i => a.length - i) 0 ⟨Nat.zero_le _, fun j hj => absurd hj (Nat.not_lt_zero j)⟩ (Nat.zero_le _) byC (fun i hI1 => ?_)
    simp only [go_sem]
    refine cx_seq ?_
    refine cx_sr ?_
    simp only [go_sem]
    repeat first | (with_reducible refine side_d ?_ ?_; exact byD) | (with_reducible refine side_q ?_ ?_; exact byQ)
    intro t14 e14
    repeat first | (with_reducible refine side_d ?_ ?_; exact byD) | (with_reducible refine side_q ?_ ?_; exact byQ)
    subst e14
    refine cx_if _ rfl (fun h14 => ?_) (fun h14 => ?_)
    ·
      (try simp only [go_sem] at h14)
      refine cx_skip ?_
      (try simp only [go_sem])
      refine cx_seq (cx_block ?_)
      refine cx_seq (cx_draw mixed [] (.first 0 (.first 1 (.first 2 (.first 3 (.first 4 (.first 5 (.first 6 (.first 7 (.first 8 (.done)))))))))) (by kernel_rfl) ?_)
      simp only [go_sem]
      repeat first | (with_reducible refine side_d ?_ ?_; exact byD) | (with_reducible refine side_q ?_ ?_; exact byQ)
      intro t25 e25
      repeat first | (with_reducible refine side_d ?_ ?_; exact byD) | (with_reducible refine side_q ?_ ?_; exact byQ)
      subst e25
      refine cx_if _ rfl (fun h25 => ?_) (fun h25 => ?_)
      ·
        (try simp only [go_sem] at h25)
        refine cx_sr ?_
        simp only [go_sem]
        repeat first | (with_reducible refine side_d ?_ ?_; exact byD) | (with_reducible refine side_q ?_ ?_; exact byQ)
        refine cx_ret ?_
        simp only [go_sem]
        refine finw_bool ?_
        have : a ≠ b := fun e => by
          subst e
          grind
        simp [sameL, this]
      ·
        (try simp only [go_sem] at h25)
        refine cx_skip ?_
        (try simp only [go_sem])
        refine cx_region ?_
        simp only [go_sem]
        repeat first | (with_reducible refine side_d ?_ ?_; exact byD) | (with_reducible refine side_q ?_ ?_; exact byQ)
        intro t16 e16
        (try replace e16 := w64 e16 (by omega) (by omega))
        repeat first | (with_reducible refine side_d ?_ ?_; exact byD) | (with_reducible refine side_q ?_ ?_; exact byQ)
        have hk : a.getD i default = b.getD i default := by
          exact Change.of_eq h25
        refine rnd_next (i + 1) ⟨by omega, all_next hI1.2 hk⟩ (by first | omega | (dsimp only; omega)) byC
    ·
      (try simp only [go_sem] at h14)
      refine cx_exit ?_
      simp only [go_sem]
      refine cx_sr ?_
      simp only [go_sem]
      repeat first | (with_reducible refine side_d ?_ ?_; exact byD) | (with_reducible refine side_q ?_ ?_; exact byQ)
      refine cx_ret ?_
      simp only [go_sem]
      refine finw_bool ?_
      have : a = b := list_eq_of (d := default) (by omega) (fun j hj => hI1.2 j (by omega))
      simp [sameL, this]
theorem treeIs_c (t : List Entry) (e w : Int) (u : List Entry) (ht : t.length < 4611686018427387904) (hu : u.length < 4611686018427387904) : Meets Tryd.prog 27 [esV t, .int .i64 e, .int .i64 w, esV u] (.bool (decide (e = w) && decide (t = if w = 0 then u else []))) [] := by
  refine meets_x (fn := Tryd.f27) Tryd.func27 rfl fb27 (by kernel_rfl) (Nat.le_of_ble_eq_true rfl) ?_
  refine cx_sr ?_
  simp only [go_sem]
  repeat first | (with_reducible refine side_d ?_ ?_; exact byD) | (with_reducible refine side_q ?_ ?_; exact byQ)
  refine cx_seq ?_
  refine cx_sr ?_
  simp only [go_sem]
  repeat first | (with_reducible refine side_d ?_ ?_; exact byD) | (with_reducible refine side_q ?_ ?_; exact byQ)
  intro t10 e10
  repeat first | (with_reducible refine side_d ?_ ?_; exact byD) | (with_reducible refine side_q ?_ ?_; exact byQ)
  subst e10
  refine cx_meet0 (σ := List Entry) (fun x => x = (if w = 0 then u else [])) (fun x => [⟨3, 0, [], esV x⟩]) [0, 1, 2, 8] (Nat.zero_le _) ?_ (fun x hIM1 => ?_)
  ·
    refine cx_if _ rfl (fun h10 => ?_) (fun h10 => ?_)
    ·
      (try simp only [go_sem] at h10)
      refine cx_region ?_
      simp only [go_sem]
      repeat first | (with_reducible refine side_d ?_ ?_; exact byD) | (with_reducible refine side_q ?_ ?_; exact byQ)
      have hw : ¬ w = 0 := by simpa using h10
      refine mt_next [] (by rw [if_neg hw]) byC
    ·
      (try simp only [go_sem] at h10)
      refine cx_skip ?_
      (try simp only [go_sem])
      have hw : w = 0 := by simpa using h10
      refine mt_next u (by rw [if_pos hw]) byC
  simp only [go_sem]
  have hx : x.length ≤ u.length := by rw [hIM1]; split <;> simp
  refine cx_sr ?_
  simp only [go_sem]
  repeat first | (with_reducible refine side_d ?_ ?_; exact byD) | (with_reducible refine side_q ?_ ?_; exact byQ)
  intro t13 e13
  repeat first | (with_reducible refine side_d ?_ ?_; exact byD) | (with_reducible refine side_q ?_ ?_; exact byQ)
  refine ⟨_, fun hp => cw_m (SameEntries_c t x ht (by omega)) byW byT ⟨rfl, rfl⟩, ?_⟩
  simp only [go_sem]
  repeat first | (with_reducible refine side_d ?_ ?_; exact byD) | (with_reducible refine side_q ?_ ?_; exact byQ)
  intro t18 e18
  rw [bsel_and] at e18
  repeat first | (with_reducible refine side_d ?_ ?_; exact byD) | (with_reducible refine side_q ?_ ?_; exact byQ)
  subst e13 e18
  refine cx_ret ?_
  simp only [go_sem]
  refine finw_bool ?_
  rw [← hIM1]
  rfl
theorem treeBegun_c : Meets Tryd.prog 26 [] (.bool true) [] := by
  refine meets_x (fn := Tryd.f26) Tryd.func26 rfl fb26 (by kernel_rfl) (Nat.le_of_ble_eq_true rfl) ?_
  have h1 : applyP [] ⟨1, [97], [], [], 0⟩ 5 = [⟨[97], true, [], 5⟩] := by decide +kernel
  have h2 : applyErr [] ⟨1, [97], [], [], 0⟩ 5 = 0 := by decide +kernel
  have h3 : allP [⟨[97], true, [], 5⟩] [⟨2, [97, 47, 98], [], [120], -1⟩] 6 = ([⟨[97], true, [], 5⟩, ⟨[97, 47, 98], false, [120], 6⟩], 1, 0) := by decide +kernel
  have hA := Apply_c [] ⟨1, [97], [], [], 0⟩ 5 (by simp [okE]) (by simp [okC])
  rw [h1, h2] at hA
  have hB := All_c [⟨[97], true, [], 5⟩] [⟨2, [97, 47, 98], [], [120], -1⟩] 6 (by simp [okE]) (by simp [okCs, okC])
  rw [h3] at hB
  dsimp only [List.length] at hA hB
  refine cx_sr ?_
  simp only [go_sem]
  repeat first | (with_reducible refine side_d ?_ ?_; exact byD) | (with_reducible refine side_q ?_ ?_; exact byQ)
  refine cx_sr ?_
  simp only [go_sem]
  repeat first | (with_reducible refine side_d ?_ ?_; exact byD) | (with_reducible refine side_q ?_ ?_; exact byQ)
  refine cw_m (hA) byW byT ?_
  simp only [go_sem]
  repeat first | (with_reducible refine side_d ?_ ?_; exact byD) | (with_reducible refine side_q ?_ ?_; exact byQ)
  refine cx_sr ?_
  simp only [go_sem]
  repeat first | (with_reducible refine side_d ?_ ?_; exact byD) | (with_reducible refine side_q ?_ ?_; exact byQ)
  refine cw_n 2 (hB) byV byC rfl byN ?_
  simp only [go_sem]
  repeat first | (with_reducible refine side_d ?_ ?_; exact byD) | (with_reducible refine side_q ?_ ?_; exact byQ)
  refine cx_sr ?_
  simp only [go_sem]
  repeat first | (with_reducible refine side_d ?_ ?_; exact byD) | (with_reducible refine side_q ?_ ?_; exact byQ)
  intro t20 e20
  repeat first | (with_reducible refine side_d ?_ ?_; exact byD) | (with_reducible refine side_q ?_ ?_; exact byQ)
  intro t23 e23
  repeat first | (with_reducible refine side_d ?_ ?_; exact byD) | (with_reducible refine side_q ?_ ?_; exact byQ)
  intro t24 e24
  rw [bsel_and] at e24
  repeat first | (with_reducible refine side_d ?_ ?_; exact byD) | (with_reducible refine side_q ?_ ?_; exact byQ)
  intro t27 e27
  repeat first | (with_reducible refine side_d ?_ ?_; exact byD) | (with_reducible refine side_q ?_ ?_; exact byQ)
  intro t28 e28
  rw [bsel_and] at e28
  repeat first | (with_reducible refine side_d ?_ ?_; exact byD) | (with_reducible refine side_q ?_ ?_; exact byQ)
  intro t32 e32
  repeat first | (with_reducible refine side_d ?_ ?_; exact byD) | (with_reducible refine side_q ?_ ?_; exact byQ)
  intro t33 e33
  rw [bsel_and] at e33
  repeat ((with_reducible first | refine side_d ?_ ?_ | refine side_q ?_ ?_); focus (first | exact byD | exact byQ | ((refine Sd.mk ?_; decide))))
  repeat first | (with_reducible refine side_d ?_ ?_; exact byD) | (with_reducible refine side_q ?_ ?_; exact byQ)
  intro t39 e39
  repeat first | (with_reducible refine side_d ?_ ?_; exact byD) | (with_reducible refine side_q ?_ ?_; exact byQ)
  intro t40 e40
  rw [bsel_and] at e40
  repeat ((with_reducible first | refine side_d ?_ ?_ | refine side_q ?_ ?_); focus (first | exact byD | exact byQ | ((refine Sd.mk ?_; decide))))
  repeat first | (with_reducible refine side_d ?_ ?_; exact byD) | (with_reducible refine side_q ?_ ?_; exact byQ)
  intro t46 e46
  rw [bsel_and] at e46
  repeat first | (with_reducible refine side_d ?_ ?_; exact byD) | (with_reducible refine side_q ?_ ?_; exact byQ)
  subst e20 e23 e24 e27 e28 e32 e33 e39 e40 e46
  refine cx_ret ?_
  simp only [go_sem]
  exact finw_bool (by simp)
end Go.VM.Tryd
end
section
set_option linter.unusedVariables false
set_option linter.unusedSimpArgs false
open Go Go.VM
namespace Tether
def step1E (x : Entry) (s : List Entry × Bool) (e : Entry) : List Entry × Bool := if s.2 = false ∧ ¬ e.path < x.path then (s.1 ++ [x], true) else s
def putStepE (x : Entry) (s : List Entry × Bool) (e : Entry) : List Entry × Bool := if ¬ e.path = x.path then ((step1E x s e).1 ++ [e], (step1E x s e).2) else step1E x s e
def putSE (l : List Entry) (x : Entry) (i : Nat) : List Entry × Bool := (l.take i).foldl (putStepE x) ([], false)
theorem putSE_next {l : List Entry} {x : Entry} {i : Nat} (hi : i < l.length) : putSE l x (i + 1) = putStepE x (putSE l x i) (l.getD i default) := foldl_take _ _ _ _ hi
theorem putSE_len (l : List Entry) (x : Entry) (i : Nat) : (putSE l x i).1.length ≤ 2 * i := by
  have key : ∀ (m : List Entry) (s : List Entry × Bool), (m.foldl (putStepE x) s).1.length ≤ s.1.length + 2 * m.length := by
    intro m
    induction m with
    | nil => intro s; simp
    | cons e m ih =>
      intro s
      rw [List.foldl_cons]
      refine Nat.le_trans (ih _) ?_
      have : (putStepE x s e).1.length ≤ s.1.length + 2 := by
        unfold putStepE step1E
        split <;> split <;> simp
      simp; omega
  have := key (l.take i) ([], false)
  simp at this
  unfold putSE
  omega
def refPutE (l : List Entry) (x : Entry) : List Entry := if (putSE l x l.length).2 = false then (putSE l x l.length).1 ++ [x] else (putSE l x l.length).1
theorem foldE_ahead {x : Entry} {b : Bool} : ∀ (l o : List Entry), (∀ e ∈ l, e.path < x.path) → l.foldl (putStepE x) (o, b) = (o ++ l, b)
  | [], o, _ => by simp
  | e :: l, o, h => by
    have h1 := h e (by simp)
    have h2 : putStepE x (o, b) e = (o ++ [e], b) := by
      have hne : ¬ e.path = x.path := fun k => lt_irrefl' _ (k ▸ h1)
      simp [putStepE, step1E, hne, h1]
    rw [List.foldl_cons, h2, foldE_ahead l _ fun y hy => h y (by simp [hy])]
    simp
theorem foldE_behind {x : Entry} : ∀ (l o : List Entry), (∀ e ∈ l, x.path < e.path) → l.foldl (putStepE x) (o, true) = (o ++ l, true)
  | [], o, _ => by simp
  | e :: l, o, h => by
    have h1 := h e (by simp)
    have h2 : putStepE x (o, true) e = (o ++ [e], true) := by
      have hne : ¬ e.path = x.path := fun k => lt_irrefl' _ (k ▸ h1)
      simp [putStepE, step1E, hne]
    rw [List.foldl_cons, h2, foldE_behind l _ fun y hy => h y (by simp [hy])]
    simp
theorem refPutE_eq {l : List Entry} (hs : SortedE l) (x : Entry) : refPutE l x = putE l x := by
  have hle := eIx_le l x.path
  have hsplit : l = l.take (eIx l x.path) ++ l.drop (eIx l x.path) := (List.take_append_drop _ _).symm
  have hA := foldE_ahead (x := x) (b := false) (l.take (eIx l x.path)) [] fun e he => take_lt he
  have hfull : putSE l x l.length = (l.drop (eIx l x.path)).foldl (putStepE x) (l.take (eIx l x.path), false) := by
    unfold putSE
    rw [List.take_length]
    conv => lhs; rw [hsplit]
    rw [List.foldl_append, hA]
    simp
  rw [putE_eq]
  unfold refPutE
  rcases Nat.lt_or_ge (eIx l x.path) l.length with hlt | hge
  · have hd := List.drop_eq_getElem_cons hlt
    have hnl : ¬ (l[eIx l x.path]).path < x.path := by
      have := eIx_ge hs (Nat.le_refl _) hlt
      simpa [List.getD, hlt] using this
    have hs1 : step1E x (l.take (eIx l x.path), false) l[eIx l x.path] = (l.take (eIx l x.path) ++ [x], true) := by simp [step1E, hnl]
    by_cases hh : hasE l x.path = true
    · have hp : (l[eIx l x.path]).path = x.path := by
        simp only [hasE, Bool.and_eq_true, decide_eq_true_eq] at hh
        have := hh.2
        simpa [List.getD, hlt] using this
      have hst : putStepE x (l.take (eIx l x.path), false) l[eIx l x.path] = (l.take (eIx l x.path) ++ [x], true) := by rw [putStepE, if_neg (by simp [hp]), hs1]
      have hb := foldE_behind (x := x) (l.drop (eIx l x.path + 1)) (l.take (eIx l x.path) ++ [x]) fun e he => drop_gt hs (by rw [if_pos hh]; exact he)
      rw [hfull, hd, List.foldl_cons, hst, hb, if_neg (by simp), if_pos hh]
      simp
    · have hp : ¬ (l[eIx l x.path]).path = x.path := fun e => hh ((hasE_iff hs).2 ⟨_, List.getElem_mem hlt, e⟩)
      have hst : putStepE x (l.take (eIx l x.path), false) l[eIx l x.path] = (l.take (eIx l x.path) ++ [x] ++ [l[eIx l x.path]], true) := by rw [putStepE, if_pos hp, hs1]
      have hb := foldE_behind (x := x) (l.drop (eIx l x.path + 1)) (l.take (eIx l x.path) ++ [x] ++ [l[eIx l x.path]]) fun e he => drop_gt hs (by rw [if_neg hh, hd]; exact List.mem_cons_of_mem _ he)
      rw [hfull, hd, List.foldl_cons, hst, hb, if_neg (by simp), if_neg hh, hd]
      simp
  · have hk : eIx l x.path = l.length := by omega
    have hh : ¬ hasE l x.path = true := by simp [hasE, hk]
    rw [hfull, if_neg hh, hk]
    simp
end Tether
end
section
set_option linter.unusedVariables false
set_option linter.unusedSimpArgs false
open Go Go.VM Go.Proofs Tether
namespace Go.VM.Tryd
set_option maxRecDepth 100000
theorem PutEntry0_c (l : List Entry) (x : Entry) (hl : l.length ≤ 1048576) : Meets Tryd.prog 52 [esV l, .agg x.enc] (.own none 0 4 0 (refPutE l x).length .loose) [.arr 4 (refPutE l x).length (En Entry.enc default (refPutE l x))] := by
  refine meets_x (fn := Tryd.f52) Tryd.func52 rfl fb52 (by kernel_rfl) (Nat.le_of_ble_eq_true rfl) ?_
  refine cx_sr ?_
  simp only [go_sem]
  repeat first | (with_reducible refine side_d ?_ ?_; exact byD) | (with_reducible refine side_q ?_ ?_; exact byQ)
  refine cx_sr ?_
  simp only [go_sem]
  repeat first | (with_reducible refine side_d ?_ ?_; exact byD) | (with_reducible refine side_q ?_ ?_; exact byQ)
  refine cx_virt 5 4 (En Entry.enc default []) rfl ?_
  refine cx_sr ?_
  simp only [go_sem]
  repeat first | (with_reducible refine side_d ?_ ?_; exact byD) | (with_reducible refine side_q ?_ ?_; exact byQ)
  refine cx_seq ?_
  refine cx_sr ?_
  simp only [go_sem]
  repeat first | (with_reducible refine side_d ?_ ?_; exact byD) | (with_reducible refine side_q ?_ ?_; exact byQ)
  refine cx_block ?_
  refine cx_loopk (σ := Nat) (fun i => i ≤ l.length) (fun i => [⟨7, 0, [], .int .i64 (i : Nat)⟩, ⟨5, 0, [], .own none 1 4 0 (putSE l x i).1.length .loose⟩, ⟨6, 0, [], .bool (putSE l x i).2⟩]) [0, 3, 4] (fun i => [.box x.enc, .arr 4 (putSE l x i).1.length (En Entry.enc default (putSE l x i).1)]) (fun i => l.length - i) 0 (by first | trivial | omega | simp) (fun _ => (Nat.zero_le _)) byC (fun i hI1 => ?_)
  simp only [go_sem]
  have hwl := putSE_len l x i
  refine cx_seq ?_
  refine cx_sr ?_
  simp only [go_sem]
  repeat first | (with_reducible refine side_d ?_ ?_; exact byD) | (with_reducible refine side_q ?_ ?_; exact byQ)
  intro t11 e11
  repeat first | (with_reducible refine side_d ?_ ?_; exact byD) | (with_reducible refine side_q ?_ ?_; exact byQ)
  subst e11
  refine cx_if _ rfl (fun h11 => ?_) (fun h11 => ?_)
  ·
    (try simp only [go_sem] at h11)
    refine cx_skip ?_
    (try simp only [go_sem])
    refine cx_seq (cx_block ?_)
    refine cx_seq ?_
    refine cx_seq (cx_draw mixed [] (.first 0 (.first 1 (.first 2 (.first 3 (.first 4 (.first 5 (.first 6 (.first 7 (.first 8 (.first 9 (.first 10 (.first 11 (.done))))))))))))) (by kernel_rfl) ?_)
    simp only [go_sem]
    repeat first | (with_reducible refine side_d ?_ ?_; exact byD) | (with_reducible refine side_q ?_ ?_; exact byQ)
    intro t15 e15
    repeat first | (with_reducible refine side_d ?_ ?_; exact byD) | (with_reducible refine side_q ?_ ?_; exact byQ)
    intro t24 e24
    repeat first | (with_reducible refine side_d ?_ ?_; exact byD) | (with_reducible refine side_q ?_ ?_; exact byQ)
    intro t25 e25
    rw [bsel_and] at e25
    repeat first | (with_reducible refine side_d ?_ ?_; exact byD) | (with_reducible refine side_q ?_ ?_; exact byQ)
    subst e15 e24 e25
    refine cx_meet (σ := List Entry × Bool) (fun m => m = step1E x (putSE l x i) (l.getD i default) ∧ m.1.length ≤ 2 * i + 1) (fun m => [⟨5, 0, [], .own none 1 4 0 m.1.length .loose⟩, ⟨6, 0, [], .bool m.2⟩]) [0, 3, 4, 7] (fun m => [.box x.enc, .arr 4 m.1.length (En Entry.enc default m.1)]) (fun _ => (Nat.zero_le _)) ?_ (fun m hIM1 => ?_)
    ·
      refine cx_if _ rfl (fun h25 => ?_) (fun h25 => ?_)
      ·
        (try simp only [go_sem] at h25)
        refine cx_sr ?_
        simp only [go_sem]
        repeat first | (with_reducible refine side_d ?_ ?_; exact byD) | (with_reducible refine side_q ?_ ?_; exact byQ)
        refine cx_region ?_
        simp only [go_sem]
        repeat first | (with_reducible refine side_d ?_ ?_; exact byD) | (with_reducible refine side_q ?_ ?_; exact byQ)
        have hs1 : step1E x (putSE l x i) (l.getD i default) = ((putSE l x i).1 ++ [x], true) := by
          rw [step1E, if_pos]
          rw [← blt_iff]
          grind
        refine mt_nextr ((putSE l x i).1 ++ [x], true) [0, 3] ⟨hs1.symm, by simp; omega⟩ ⟨rfl, rfl, ?_, ?_⟩
        · exact byC
        · skip
          simp only [go_sem, wk, wks, wkB, wkH, List.length_append, List.length_cons, List.length_nil]
          first | exact fun q hq => wks_mp_snoc (fun x => rnVs_no _ rfl) (by rfl) hq | (and_intros <;> first | trivial | rfl | (exact fun q hq => wks_mp_snoc (fun x => rnVs_no _ rfl) (by rfl) hq) | exact wks_refl _ | exact byC)
      ·
        (try simp only [go_sem] at h25)
        refine cx_skip ?_
        (try simp only [go_sem])
        have hs1 : step1E x (putSE l x i) (l.getD i default) = putSE l x i := by
          rw [step1E, if_neg]
          rw [← blt_iff]
          grind
        refine mt_next (putSE l x i) ⟨hs1.symm, by omega⟩ byC
    simp only [go_sem]
    refine cx_seq (cx_draw mixed [] (.first 0 (.first 1 (.first 2 (.first 3 (.first 4 (.first 5 (.first 6 (.first 7 (.done))))))))) (by kernel_rfl) ?_)
    simp only [go_sem]
    repeat first | (with_reducible refine side_d ?_ ?_; exact byD) | (with_reducible refine side_q ?_ ?_; exact byQ)
    intro t37 e37
    repeat first | (with_reducible refine side_d ?_ ?_; exact byD) | (with_reducible refine side_q ?_ ?_; exact byQ)
    subst e37
    refine cx_if _ rfl (fun h37 => ?_) (fun h37 => ?_)
    ·
      (try simp only [go_sem] at h37)
      have hp := putSE_next (l := l) (x := x) (i := i) (by omega)
      rw [putStepE, if_pos (by simpa using h37), ← hIM1.1] at hp
      refine cx_region ?_
      simp only [go_sem]
      repeat first | (with_reducible refine side_d ?_ ?_; exact byD) | (with_reducible refine side_q ?_ ?_; exact byQ)
      refine cx_region ?_
      simp only [go_sem]
      repeat first | (with_reducible refine side_d ?_ ?_; exact byD) | (with_reducible refine side_q ?_ ?_; exact byQ)
      intro t13 e13
      (try replace e13 := w64 e13 (by omega) (by omega))
      repeat first | (with_reducible refine side_d ?_ ?_; exact byD) | (with_reducible refine side_q ?_ ?_; exact byQ)
      refine rnd_nextr (i + 1) [0, 3] (by omega) (by first | omega | (dsimp only; omega)) ⟨rfl, rfl, ?_, ?_⟩
      · rw [hp]; exact byC
      · rw [hp]; skip
        simp only [go_sem, wk, wks, wkB, wkH, List.length_append, List.length_cons, List.length_nil]
        first | exact fun q hq => wks_mp_snoc (fun x => rnVs_no _ rfl) (by rfl) hq | (and_intros <;> first | trivial | rfl | (exact fun q hq => wks_mp_snoc (fun x => rnVs_no _ rfl) (by rfl) hq) | exact wks_refl _ | exact byC)
    ·
      (try simp only [go_sem] at h37)
      have hp := putSE_next (l := l) (x := x) (i := i) (by omega)
      rw [putStepE, if_neg (by simpa using h37), ← hIM1.1] at hp
      refine cx_skip ?_
      (try simp only [go_sem])
      refine cx_region ?_
      simp only [go_sem]
      repeat first | (with_reducible refine side_d ?_ ?_; exact byD) | (with_reducible refine side_q ?_ ?_; exact byQ)
      intro t13 e13
      (try replace e13 := w64 e13 (by omega) (by omega))
      repeat first | (with_reducible refine side_d ?_ ?_; exact byD) | (with_reducible refine side_q ?_ ?_; exact byQ)
      refine rnd_next (i + 1) (by omega) (by first | omega | (dsimp only; omega)) ?_
      rw [hp]
      exact byC
  ·
    (try simp only [go_sem] at h11)
    refine cx_exit ?_
    simp only [go_sem]
    refine cx_seq ?_
    refine cx_sr ?_
    simp only [go_sem]
    repeat first | (with_reducible refine side_d ?_ ?_; exact byD) | (with_reducible refine side_q ?_ ?_; exact byQ)
    intro t46 e46
    repeat first | (with_reducible refine side_d ?_ ?_; exact byD) | (with_reducible refine side_q ?_ ?_; exact byQ)
    subst e46
    refine cx_if _ rfl (fun h46 => ?_) (fun h46 => ?_)
    ·
      (try simp only [go_sem] at h46)
      refine cx_region ?_
      simp only [go_sem]
      repeat first | (with_reducible refine side_d ?_ ?_; exact byD) | (with_reducible refine side_q ?_ ?_; exact byQ)
      refine cx_sr ?_
      simp only [go_sem]
      repeat first | (with_reducible refine side_d ?_ ?_; exact byD) | (with_reducible refine side_q ?_ ?_; exact byQ)
      refine cx_ret ?_
      simp only [go_sem]
      have hi : i = l.length := by omega
      have hput : refPutE l x = (putSE l x i).1 ++ [x] := by rw [refPutE, ← hi]; exact if_pos (by simpa using h46)
      rw [hput]
      refine finx_w (.own none 3 4 0 ((putSE l x i).1 ++ [x]).length .loose) [.dead, .dead, .dead, .arr 4 ((putSE l x i).1 ++ [x]).length (En Entry.enc default ((putSE l x i).1 ++ [x]))] ?_ ?_ ?_
      · exact byC
      · simp only [go_sem, wkB, wkH, List.length_append, List.length_cons, List.length_nil]
        exact fun q hq => wks_En_snoc (x := x) (by exact wks_refl _) hq
      · exact finx_of 1 [3] rfl byC byC byC byC
    ·
      (try simp only [go_sem] at h46)
      refine cx_skip ?_
      (try simp only [go_sem])
      refine cx_sr ?_
      simp only [go_sem]
      repeat first | (with_reducible refine side_d ?_ ?_; exact byD) | (with_reducible refine side_q ?_ ?_; exact byQ)
      refine cx_ret ?_
      simp only [go_sem]
      have hi : i = l.length := by omega
      have hput : refPutE l x = (putSE l x i).1 := by rw [refPutE, ← hi]; exact if_neg (by simpa using h46)
      rw [hput]
      exact finx_of 1 [1] rfl byC byC byC byC
theorem PutEntry_c (l : List Entry) (x : Entry) (hl : l.length ≤ 1048576) (hs : SortedE l) : Meets Tryd.prog 52 [esV l, .agg x.enc] (.own none 0 4 0 (putE l x).length .loose) [.arr 4 (putE l x).length (En Entry.enc default (putE l x))] := by
  have h := PutEntry0_c l x hl
  rwa [refPutE_eq hs] at h
end Go.VM.Tryd
end
section
set_option linter.unusedVariables false
set_option linter.unusedSimpArgs false
open Go Go.VM Go.Proofs Tether
namespace Go.VM.Tryd
set_option maxRecDepth 100000
set_option maxHeartbeats 4000000
theorem ChangeForm_c (c : Change) (ok : okC c) : Meets Tryd.prog 51 [.agg c.enc] (.int .i64 (formP c)) [] := by
  refine meets_x (fn := Tryd.f51) Tryd.func51 rfl fb51 (by kernel_rfl) (Nat.le_of_ble_eq_true rfl) ?_
  obtain ⟨ok1, ok2, ok3⟩ := ok
  refine cx_sr ?_
  simp only [go_sem]
  repeat first | (with_reducible refine side_d ?_ ?_; exact byD) | (with_reducible refine side_q ?_ ?_; exact byQ)
  refine cx_seq ?_
  refine cx_sr ?_
  simp only [go_sem]
  repeat first | (with_reducible refine side_d ?_ ?_; exact byD) | (with_reducible refine side_q ?_ ?_; exact byQ)
  intro t6 e6
  repeat first | (with_reducible refine side_d ?_ ?_; exact byD) | (with_reducible refine side_q ?_ ?_; exact byQ)
  intro t10 e10
  repeat first | (with_reducible refine side_d ?_ ?_; exact byD) | (with_reducible refine side_q ?_ ?_; exact byQ)
  intro t11 e11
  rw [bsel_or] at e11
  repeat first | (with_reducible refine side_d ?_ ?_; exact byD) | (with_reducible refine side_q ?_ ?_; exact byQ)
  subst e6 e10 e11
  refine cx_if _ rfl (fun h11 => ?_) (fun h11 => ?_)
  ·
    (try simp only [go_sem] at h11)
    refine cx_sr ?_
    simp only [go_sem]
    repeat first | (with_reducible refine side_d ?_ ?_; exact byD) | (with_reducible refine side_q ?_ ?_; exact byQ)
    refine cx_ret ?_
    simp only [go_sem]
    refine finw_int ?_
    unfold formP
    grind
  ·
    (try simp only [go_sem] at h11)
    refine cx_skip ?_
    (try simp only [go_sem])
    refine cx_sr ?_
    simp only [go_sem]
    repeat first | (with_reducible refine side_d ?_ ?_; exact byD) | (with_reducible refine side_q ?_ ?_; exact byQ)
    refine cw_m (CheckPath_c c.path (by omega)) byW byT ?_
    simp only [go_sem]
    repeat first | (with_reducible refine side_d ?_ ?_; exact byD) | (with_reducible refine side_q ?_ ?_; exact byQ)
    refine cx_seq ?_
    refine cx_sr ?_
    simp only [go_sem]
    repeat first | (with_reducible refine side_d ?_ ?_; exact byD) | (with_reducible refine side_q ?_ ?_; exact byQ)
    intro t16 e16
    repeat first | (with_reducible refine side_d ?_ ?_; exact byD) | (with_reducible refine side_q ?_ ?_; exact byQ)
    intro t20 e20
    repeat first | (with_reducible refine side_d ?_ ?_; exact byD) | (with_reducible refine side_q ?_ ?_; exact byQ)
    intro t21 e21
    rw [bsel_and] at e21
    repeat first | (with_reducible refine side_d ?_ ?_; exact byD) | (with_reducible refine side_q ?_ ?_; exact byQ)
    subst e16 e20 e21
    refine cx_if _ rfl (fun h21 => ?_) (fun h21 => ?_)
    ·
      (try simp only [go_sem] at h21)
      refine cx_region ?_
      simp only [go_sem]
      repeat first | (with_reducible refine side_d ?_ ?_; exact byD) | (with_reducible refine side_q ?_ ?_; exact byQ)
      refine cw_m (CheckPath_c c.to (by omega)) byW byT ?_
      simp only [go_sem]
      repeat first | (with_reducible refine side_d ?_ ?_; exact byD) | (with_reducible refine side_q ?_ ?_; exact byQ)
      refine cx_seq (cx_block ?_)
      refine cx_sr ?_
      simp only [go_sem]
      repeat first | (with_reducible refine side_d ?_ ?_; exact byD) | (with_reducible refine side_q ?_ ?_; exact byQ)
      intro t27 e27
      repeat first | (with_reducible refine side_d ?_ ?_; exact byD) | (with_reducible refine side_q ?_ ?_; exact byQ)
      subst e27
      refine cx_if _ rfl (fun h25 => ?_) (fun h25 => ?_)
      ·
        (try simp only [go_sem] at h25)
        refine cx_sr ?_
        simp only [go_sem]
        repeat first | (with_reducible refine side_d ?_ ?_; exact byD) | (with_reducible refine side_q ?_ ?_; exact byQ)
        refine cx_ret ?_
        simp only [go_sem]
        refine finw_int ?_
        unfold formP
        grind
      ·
        (try simp only [go_sem] at h25)
        refine cx_seq ?_
        refine cx_sr ?_
        simp only [go_sem]
        repeat first | (with_reducible refine side_d ?_ ?_; exact byD) | (with_reducible refine side_q ?_ ?_; exact byQ)
        intro t32 e32
        repeat first | (with_reducible refine side_d ?_ ?_; exact byD) | (with_reducible refine side_q ?_ ?_; exact byQ)
        intro t36 e36
        repeat first | (with_reducible refine side_d ?_ ?_; exact byD) | (with_reducible refine side_q ?_ ?_; exact byQ)
        intro t37 e37
        rw [bsel_and] at e37
        repeat first | (with_reducible refine side_d ?_ ?_; exact byD) | (with_reducible refine side_q ?_ ?_; exact byQ)
        subst e32 e36 e37
        refine cx_if _ rfl (fun h29 => ?_) (fun h29 => ?_)
        ·
          (try simp only [go_sem] at h29)
          refine cx_skip ?_
          (try simp only [go_sem])
          refine cx_if _ rfl (fun h29b => ?_) (fun h29b => no_if h29b)
          refine cx_sr ?_
          simp only [go_sem]
          repeat first | (with_reducible refine side_d ?_ ?_; exact byD) | (with_reducible refine side_q ?_ ?_; exact byQ)
          refine cx_ret ?_
          simp only [go_sem]
          refine finw_int ?_
          unfold formP
          grind
        ·
          (try simp only [go_sem] at h29)
          refine cx_region ?_
          simp only [go_sem]
          repeat first | (with_reducible refine side_d ?_ ?_; exact byD) | (with_reducible refine side_q ?_ ?_; exact byQ)
          intro t40 e40
          repeat first | (with_reducible refine side_d ?_ ?_; exact byD) | (with_reducible refine side_q ?_ ?_; exact byQ)
          intro t44 e44
          repeat first | (with_reducible refine side_d ?_ ?_; exact byD) | (with_reducible refine side_q ?_ ?_; exact byQ)
          intro t45 e45
          rw [bsel_and] at e45
          repeat first | (with_reducible refine side_d ?_ ?_; exact byD) | (with_reducible refine side_q ?_ ?_; exact byQ)
          subst e40 e44 e45
          refine cx_if _ rfl (fun h29b => ?_) (fun h29b => ?_)
          ·
            (try simp only [go_sem] at h29b)
            refine cx_sr ?_
            simp only [go_sem]
            repeat first | (with_reducible refine side_d ?_ ?_; exact byD) | (with_reducible refine side_q ?_ ?_; exact byQ)
            refine cx_ret ?_
            simp only [go_sem]
            refine finw_int ?_
            unfold formP
            grind
          ·
            (try simp only [go_sem] at h29b)
            refine cx_sr ?_
            simp only [go_sem]
            repeat first | (with_reducible refine side_d ?_ ?_; exact byD) | (with_reducible refine side_q ?_ ?_; exact byQ)
            intro t50 e50
            repeat first | (with_reducible refine side_d ?_ ?_; exact byD) | (with_reducible refine side_q ?_ ?_; exact byQ)
            subst e50
            refine cx_if _ rfl (fun h46 => ?_) (fun h46 => ?_)
            ·
              (try simp only [go_sem] at h46)
              refine cx_sr ?_
              simp only [go_sem]
              repeat first | (with_reducible refine side_d ?_ ?_; exact byD) | (with_reducible refine side_q ?_ ?_; exact byQ)
              refine cx_ret ?_
              simp only [go_sem]
              refine finw_int ?_
              unfold formP
              grind
            ·
              (try simp only [go_sem] at h46)
              refine cx_sr ?_
              simp only [go_sem]
              repeat first | (with_reducible refine side_d ?_ ?_; exact byD) | (with_reducible refine side_q ?_ ?_; exact byQ)
              intro t54 e54
              repeat first | (with_reducible refine side_d ?_ ?_; exact byD) | (with_reducible refine side_q ?_ ?_; exact byQ)
              intro t58 e58
              repeat first | (with_reducible refine side_d ?_ ?_; exact byD) | (with_reducible refine side_q ?_ ?_; exact byQ)
              intro t59 e59
              rw [bsel_or] at e59
              repeat first | (with_reducible refine side_d ?_ ?_; exact byD) | (with_reducible refine side_q ?_ ?_; exact byQ)
              subst e54 e58 e59
              refine cx_if _ rfl (fun h51 => ?_) (fun h51 => ?_)
              ·
                (try simp only [go_sem] at h51)
                refine cx_sr ?_
                simp only [go_sem]
                repeat first | (with_reducible refine side_d ?_ ?_; exact byD) | (with_reducible refine side_q ?_ ?_; exact byQ)
                refine cx_ret ?_
                simp only [go_sem]
                refine finw_int ?_
                unfold formP
                grind
              ·
                (try simp only [go_sem] at h51)
                refine cx_skip ?_
                (try simp only [go_sem])
                refine cx_sr ?_
                simp only [go_sem]
                repeat first | (with_reducible refine side_d ?_ ?_; exact byD) | (with_reducible refine side_q ?_ ?_; exact byQ)
                refine cx_ret ?_
                simp only [go_sem]
                refine finw_int ?_
                unfold formP
                grind
    ·
      (try simp only [go_sem] at h21)
      refine cx_skip ?_
      (try simp only [go_sem])
      refine cx_seq (cx_block ?_)
      refine cx_sr ?_
      simp only [go_sem]
      repeat first | (with_reducible refine side_d ?_ ?_; exact byD) | (with_reducible refine side_q ?_ ?_; exact byQ)
      intro t27 e27
      repeat first | (with_reducible refine side_d ?_ ?_; exact byD) | (with_reducible refine side_q ?_ ?_; exact byQ)
      subst e27
      refine cx_if _ rfl (fun h25 => ?_) (fun h25 => ?_)
      ·
        (try simp only [go_sem] at h25)
        refine cx_sr ?_
        simp only [go_sem]
        repeat first | (with_reducible refine side_d ?_ ?_; exact byD) | (with_reducible refine side_q ?_ ?_; exact byQ)
        refine cx_ret ?_
        simp only [go_sem]
        refine finw_int ?_
        unfold formP
        grind
      ·
        (try simp only [go_sem] at h25)
        refine cx_seq ?_
        refine cx_sr ?_
        simp only [go_sem]
        repeat first | (with_reducible refine side_d ?_ ?_; exact byD) | (with_reducible refine side_q ?_ ?_; exact byQ)
        intro t32 e32
        repeat first | (with_reducible refine side_d ?_ ?_; exact byD) | (with_reducible refine side_q ?_ ?_; exact byQ)
        intro t36 e36
        repeat first | (with_reducible refine side_d ?_ ?_; exact byD) | (with_reducible refine side_q ?_ ?_; exact byQ)
        intro t37 e37
        rw [bsel_and] at e37
        repeat first | (with_reducible refine side_d ?_ ?_; exact byD) | (with_reducible refine side_q ?_ ?_; exact byQ)
        subst e32 e36 e37
        refine cx_if _ rfl (fun h29 => ?_) (fun h29 => ?_)
        ·
          (try simp only [go_sem] at h29)
          refine cx_skip ?_
          (try simp only [go_sem])
          refine cx_if _ rfl (fun h29b => ?_) (fun h29b => no_if h29b)
          refine cx_sr ?_
          simp only [go_sem]
          repeat first | (with_reducible refine side_d ?_ ?_; exact byD) | (with_reducible refine side_q ?_ ?_; exact byQ)
          refine cx_ret ?_
          simp only [go_sem]
          refine finw_int ?_
          unfold formP
          grind
        ·
          (try simp only [go_sem] at h29)
          refine cx_region ?_
          simp only [go_sem]
          repeat first | (with_reducible refine side_d ?_ ?_; exact byD) | (with_reducible refine side_q ?_ ?_; exact byQ)
          intro t40 e40
          repeat first | (with_reducible refine side_d ?_ ?_; exact byD) | (with_reducible refine side_q ?_ ?_; exact byQ)
          intro t44 e44
          repeat first | (with_reducible refine side_d ?_ ?_; exact byD) | (with_reducible refine side_q ?_ ?_; exact byQ)
          intro t45 e45
          rw [bsel_and] at e45
          repeat first | (with_reducible refine side_d ?_ ?_; exact byD) | (with_reducible refine side_q ?_ ?_; exact byQ)
          subst e40 e44 e45
          refine cx_if _ rfl (fun h29b => ?_) (fun h29b => ?_)
          ·
            (try simp only [go_sem] at h29b)
            refine cx_sr ?_
            simp only [go_sem]
            repeat first | (with_reducible refine side_d ?_ ?_; exact byD) | (with_reducible refine side_q ?_ ?_; exact byQ)
            refine cx_ret ?_
            simp only [go_sem]
            refine finw_int ?_
            unfold formP
            grind
          ·
            (try simp only [go_sem] at h29b)
            refine cx_sr ?_
            simp only [go_sem]
            repeat first | (with_reducible refine side_d ?_ ?_; exact byD) | (with_reducible refine side_q ?_ ?_; exact byQ)
            intro t50 e50
            repeat first | (with_reducible refine side_d ?_ ?_; exact byD) | (with_reducible refine side_q ?_ ?_; exact byQ)
            subst e50
            refine cx_if _ rfl (fun h46 => ?_) (fun h46 => ?_)
            ·
              (try simp only [go_sem] at h46)
              refine cx_sr ?_
              simp only [go_sem]
              repeat first | (with_reducible refine side_d ?_ ?_; exact byD) | (with_reducible refine side_q ?_ ?_; exact byQ)
              refine cx_ret ?_
              simp only [go_sem]
              refine finw_int ?_
              unfold formP
              grind
            ·
              (try simp only [go_sem] at h46)
              refine cx_sr ?_
              simp only [go_sem]
              repeat first | (with_reducible refine side_d ?_ ?_; exact byD) | (with_reducible refine side_q ?_ ?_; exact byQ)
              intro t54 e54
              repeat first | (with_reducible refine side_d ?_ ?_; exact byD) | (with_reducible refine side_q ?_ ?_; exact byQ)
              intro t58 e58
              repeat first | (with_reducible refine side_d ?_ ?_; exact byD) | (with_reducible refine side_q ?_ ?_; exact byQ)
              intro t59 e59
              rw [bsel_or] at e59
              repeat first | (with_reducible refine side_d ?_ ?_; exact byD) | (with_reducible refine side_q ?_ ?_; exact byQ)
              subst e54 e58 e59
              refine cx_if _ rfl (fun h51 => ?_) (fun h51 => ?_)
              ·
                (try simp only [go_sem] at h51)
                refine cx_sr ?_
                simp only [go_sem]
                repeat first | (with_reducible refine side_d ?_ ?_; exact byD) | (with_reducible refine side_q ?_ ?_; exact byQ)
                refine cx_ret ?_
                simp only [go_sem]
                refine finw_int ?_
                unfold formP
                grind
              ·
                (try simp only [go_sem] at h51)
                refine cx_skip ?_
                (try simp only [go_sem])
                refine cx_sr ?_
                simp only [go_sem]
                repeat first | (with_reducible refine side_d ?_ ?_; exact byD) | (with_reducible refine side_q ?_ ?_; exact byQ)
                refine cx_ret ?_
                simp only [go_sem]
                refine finw_int ?_
                unfold formP
                grind
/-- whether something is at a path, by the document -/
theorem at_has {l : List Entry} (hs : SortedE l) (p : Str) : (idxF (isAt p) l = -1 ∧ hasE l p = false) ∨ (idxF (isAt p) l = (eIx l p : Nat) ∧ hasE l p = true ∧ eIx l p < l.length) := by
  by_cases hh : hasE l p = true
  · right
    have hlt : eIx l p < l.length := by simp [hasE] at hh; exact hh.1
    rcases find_idx l p with ⟨_, h2⟩ | ⟨i, h1, h2, h3⟩
    · rw [findE_eq hs, if_pos hh] at h2
      cases h2
    · refine ⟨?_, hh, hlt⟩
      rw [h1]
      have hp := (findE_some h3).2
      have hp2 : (l.getD (eIx l p) default).path = p := by simp only [hasE, Bool.and_eq_true, decide_eq_true_eq] at hh; exact hh.2
      have h4 : (l[i]'h2).path = (l[eIx l p]'hlt).path := by
        have e1 : l.getD i default = l[i] := by simp [List.getD, h2]
        have e2 : l.getD (eIx l p) default = l[eIx l p] := by simp [List.getD, hlt]
        rw [← e1, ← e2, hp, hp2]
      rw [sorted_inj hs h2 hlt h4]
  · left
    refine ⟨?_, by simpa using hh⟩
    rcases find_idx l p with ⟨h1, _⟩ | ⟨i, h1, h2, h3⟩
    · exact h1
    · rw [findE_eq hs, if_neg hh] at h3
      cases h3
theorem form_base {c : Change} (h : formP c = 0) : -1 ≤ c.base := by
  unfold formP at h
  grind
theorem form_kind {c : Change} (h : formP c = 0) : 1 ≤ c.kind ∧ c.kind ≤ 4 := by
  unfold formP at h
  grind
theorem filter_snoc {l : List Entry} {p : Entry → Bool} {i : Nat} (h : i < l.length) : (l.take (i + 1)).filter p = if p (l.getD i default) = true then (l.take i).filter p ++ [l.getD i default] else (l.take i).filter p := by
  have hd : l.getD i default = l[i] := by simp [List.getD, h]
  rw [hd, List.take_add_one, List.getElem?_eq_getElem h, List.filter_append]
  by_cases hb : p l[i] = true
  · rw [if_pos hb]; simp [hb]
  · rw [if_neg hb]; simp [hb]
theorem ChangeOf_c (l : List Entry) (c : Change) (v : Int) (g : GoodT l) (ok : okC c) : Meets Tryd.prog 25 [esV l, .agg c.enc, .int .i64 v]
    (.tup [.own none 0 4 0 (rawP l c v).length .loose, .int .i64 (rawErr l c v)]) [.arr 4 (rawP l c v).length (En Entry.enc default (rawP l c v))] := by
  refine meets_x (fn := Tryd.f25) Tryd.func25 rfl fb25 (by kernel_rfl) (Nat.le_of_ble_eq_true rfl) ?_
  have hl := g.ok.1
  have hl2 := g.paths.1
  have hs := g.sorted
  obtain ⟨ok1, ok2, ok3⟩ := id ok
  have hgl : (goalP c).length ≤ 1048576 := by unfold goalP; split <;> omega
  have hah := at_has hs
  refine cx_sr ?_
  simp only [go_sem]
  repeat first | (with_reducible refine side_d ?_ ?_; exact byD) | (with_reducible refine side_q ?_ ?_; exact byQ)
  refine cx_sr ?_
  simp only [go_sem]
  repeat first | (with_reducible refine side_d ?_ ?_; exact byD) | (with_reducible refine side_q ?_ ?_; exact byQ)
  refine cw_m (ChangeForm_c c ok) byW byT ?_
  simp only [go_sem]
  repeat first | (with_reducible refine side_d ?_ ?_; exact byD) | (with_reducible refine side_q ?_ ?_; exact byQ)
  refine cx_seq ?_
  refine cx_sr ?_
  simp only [go_sem]
  repeat first | (with_reducible refine side_d ?_ ?_; exact byD) | (with_reducible refine side_q ?_ ?_; exact byQ)
  intro t19 e19
  repeat first | (with_reducible refine side_d ?_ ?_; exact byD) | (with_reducible refine side_q ?_ ?_; exact byQ)
  subst e19
  refine cx_if _ rfl (fun h19 => ?_) (fun h19 => ?_)
  ·
    (try simp only [go_sem] at h19)
    refine cx_sr ?_
    simp only [go_sem]
    repeat first | (with_reducible refine side_d ?_ ?_; exact byD) | (with_reducible refine side_q ?_ ?_; exact byQ)
    refine cx_virt 6 4 (En Entry.enc default []) rfl ?_
    simp only [go_sem]
    refine cx_ret ?_
    simp only [go_sem]
    have h1 : ¬ formP c = 0 := by simpa using h19
    have he : rawErr l c v = formP c := by rw [rawErr, if_pos h1]
    have hp : rawP l c v = [] := by rw [rawP, he, if_neg h1]
    rw [he, hp]
    exact finx_of 1 [1] rfl byC byC byC byC
  ·
    (try simp only [go_sem] at h19)
    have hF : formP c = 0 := by simpa using h19
    refine cx_skip ?_
    (try simp only [go_sem])
    refine cx_sr ?_
    simp only [go_sem]
    repeat first | (with_reducible refine side_d ?_ ?_; exact byD) | (with_reducible refine side_q ?_ ?_; exact byQ)
    refine cx_seq ?_
    refine cx_sr ?_
    simp only [go_sem]
    repeat first | (with_reducible refine side_d ?_ ?_; exact byD) | (with_reducible refine side_q ?_ ?_; exact byQ)
    intro t25 e25
    repeat first | (with_reducible refine side_d ?_ ?_; exact byD) | (with_reducible refine side_q ?_ ?_; exact byQ)
    subst e25
    refine cx_meet0 (σ := Unit) (fun u => True) (fun u => [⟨9, 0, [], .str (goalP c)⟩]) [0, 2, 4, 6, 7] (Nat.zero_le _) ?_ (fun u hIM1 => ?_)
    ·
      refine cx_if _ rfl (fun h25 => ?_) (fun h25 => ?_)
      ·
        (try simp only [go_sem] at h25)
        refine cx_region ?_
        simp only [go_sem]
        repeat first | (with_reducible refine side_d ?_ ?_; exact byD) | (with_reducible refine side_q ?_ ?_; exact byQ)
        have hk : c.kind = 3 := by simpa using h25
        refine mt_next () trivial ?_
        rw [goalP, if_pos hk]
        exact byC
      ·
        (try simp only [go_sem] at h25)
        refine cx_skip ?_
        (try simp only [go_sem])
        have hk : ¬ c.kind = 3 := by simpa using h25
        refine mt_next () trivial ?_
        rw [goalP, if_neg hk]
        exact byC
    simp only [go_sem]
    refine cx_sr ?_
    simp only [go_sem]
    repeat first | (with_reducible refine side_d ?_ ?_; exact byD) | (with_reducible refine side_q ?_ ?_; exact byQ)
    refine cw_m (ParentOf2_c (goalP c) (by omega)) byW byT ?_
    simp only [go_sem]
    repeat first | (with_reducible refine side_d ?_ ?_; exact byD) | (with_reducible refine side_q ?_ ?_; exact byQ)
    refine cw_m (IsFolder_c l (headOf (goalP c)) (by omega)) byW byT ?_
    simp only [go_sem]
    repeat first | (with_reducible refine side_d ?_ ?_; exact byD) | (with_reducible refine side_q ?_ ?_; exact byQ)
    refine cx_seq ?_
    refine cx_sr ?_
    simp only [go_sem]
    repeat first | (with_reducible refine side_d ?_ ?_; exact byD) | (with_reducible refine side_q ?_ ?_; exact byQ)
    intro t33 e33
    repeat first | (with_reducible refine side_d ?_ ?_; exact byD) | (with_reducible refine side_q ?_ ?_; exact byQ)
    subst e33
    refine cx_if _ rfl (fun h33 => ?_) (fun h33 => ?_)
    ·
      (try simp only [go_sem] at h33)
      refine cx_sr ?_
      simp only [go_sem]
      repeat first | (with_reducible refine side_d ?_ ?_; exact byD) | (with_reducible refine side_q ?_ ?_; exact byQ)
      refine cx_virt 6 4 (En Entry.enc default []) rfl ?_
      simp only [go_sem]
      refine cx_ret ?_
      simp only [go_sem]
      have hm : mayP l c = isFolderP l (headOf (goalP c)) := by
        rw [isFolder_par hs] at h33 ⊢
        unfold mayP
        grind
      have he : rawErr l c v = isFolderP l (headOf (goalP c)) := by rw [rawErr, if_neg (by simpa using hF), if_pos (by rw [hm]; simpa using h33), hm]
      have hp : rawP l c v = [] := by rw [rawP, he, if_neg (by simpa using h33)]
      rw [he, hp]
      exact finx_of 1 [1] rfl byC byC byC byC
    ·
      (try simp only [go_sem] at h33)
      refine cx_skip ?_
      (try simp only [go_sem])
      refine cx_sr ?_
      simp only [go_sem]
      repeat first | (with_reducible refine side_d ?_ ?_; exact byD) | (with_reducible refine side_q ?_ ?_; exact byQ)
      refine cw_m (EntryAt_c l c.path (by omega)) byW byT ?_
      simp only [go_sem]
      repeat first | (with_reducible refine side_d ?_ ?_; exact byD) | (with_reducible refine side_q ?_ ?_; exact byQ)
      refine cx_seq (cx_block ?_)
      refine cx_sr ?_
      simp only [go_sem]
      repeat first | (with_reducible refine side_d ?_ ?_; exact byD) | (with_reducible refine side_q ?_ ?_; exact byQ)
      intro t42 e42
      repeat first | (with_reducible refine side_d ?_ ?_; exact byD) | (with_reducible refine side_q ?_ ?_; exact byQ)
      intro t45 e45
      repeat first | (with_reducible refine side_d ?_ ?_; exact byD) | (with_reducible refine side_q ?_ ?_; exact byQ)
      intro t46 e46
      rw [bsel_and] at e46
      repeat first | (with_reducible refine side_d ?_ ?_; exact byD) | (with_reducible refine side_q ?_ ?_; exact byQ)
      subst e42 e45 e46
      refine cx_if _ rfl (fun h39 => ?_) (fun h39 => ?_)
      ·
        (try simp only [go_sem] at h39)
        refine cx_sr ?_
        simp only [go_sem]
        repeat first | (with_reducible refine side_d ?_ ?_; exact byD) | (with_reducible refine side_q ?_ ?_; exact byQ)
        refine cx_virt 6 4 (En Entry.enc default []) rfl ?_
        simp only [go_sem]
        refine cx_ret ?_
        simp only [go_sem]
        have hm : mayP l c = 6 := by
          have q2 := hah c.to
          have q9 := form_kind hF
          rw [isFolder_par hs] at h33
          unfold mayP
          rcases hah c.path with ⟨a1, a2⟩ | ⟨a1, a2, a3⟩ <;> (try simp only [a1, Int.toNat_natCast] at h47) <;> grind
        have he : rawErr l c v = 6 := by rw [rawErr, if_neg (by simpa using hF), if_pos (by rw [hm]; decide), hm]
        have hp : rawP l c v = [] := by rw [rawP, he, if_neg (by decide)]
        rw [he, hp]
        exact finx_of 1 [1] rfl byC byC byC byC
      ·
        (try simp only [go_sem] at h39)
        refine cx_sr ?_
        simp only [go_sem]
        repeat first | (with_reducible refine side_d ?_ ?_; exact byD) | (with_reducible refine side_q ?_ ?_; exact byQ)
        intro t50 e50
        repeat first | (with_reducible refine side_d ?_ ?_; exact byD) | (with_reducible refine side_q ?_ ?_; exact byQ)
        intro t53 e53
        repeat first | (with_reducible refine side_d ?_ ?_; exact byD) | (with_reducible refine side_q ?_ ?_; exact byQ)
        intro t54 e54
        rw [bsel_and] at e54
        repeat ((with_reducible first | refine side_d ?_ ?_ | refine side_q ?_ ?_); focus (first | exact byD | exact byQ | ((refine Sd.of fun hp => ?_; simp only [pc, and_true] at hp; (have hq := hah c.path); grind))))
        repeat first | (with_reducible refine side_d ?_ ?_; exact byD) | (with_reducible refine side_q ?_ ?_; exact byQ)
        intro t61 e61
        rw [bsel_and] at e61
        repeat first | (with_reducible refine side_d ?_ ?_; exact byD) | (with_reducible refine side_q ?_ ?_; exact byQ)
        subst e50 e53 e54 e61
        refine cx_if _ rfl (fun h47 => ?_) (fun h47 => ?_)
        ·
          (try simp only [go_sem] at h47)
          refine cx_sr ?_
          simp only [go_sem]
          repeat first | (with_reducible refine side_d ?_ ?_; exact byD) | (with_reducible refine side_q ?_ ?_; exact byQ)
          refine cx_virt 6 4 (En Entry.enc default []) rfl ?_
          simp only [go_sem]
          refine cx_ret ?_
          simp only [go_sem]
          have hm : mayP l c = 4 := by
            have q2 := hah c.to
            have q9 := form_kind hF
            rw [isFolder_par hs] at h33
            unfold mayP
            rcases hah c.path with ⟨a1, a2⟩ | ⟨a1, a2, a3⟩ <;> (try simp only [a1, Int.toNat_natCast] at h47) <;> grind
          have he : rawErr l c v = 4 := by rw [rawErr, if_neg (by simpa using hF), if_pos (by rw [hm]; decide), hm]
          have hp : rawP l c v = [] := by rw [rawP, he, if_neg (by decide)]
          rw [he, hp]
          exact finx_of 1 [1] rfl byC byC byC byC
        ·
          (try simp only [go_sem] at h47)
          refine cx_sr ?_
          simp only [go_sem]
          repeat first | (with_reducible refine side_d ?_ ?_; exact byD) | (with_reducible refine side_q ?_ ?_; exact byQ)
          intro t65 e65
          repeat first | (with_reducible refine side_d ?_ ?_; exact byD) | (with_reducible refine side_q ?_ ?_; exact byQ)
          intro t68 e68
          repeat first | (with_reducible refine side_d ?_ ?_; exact byD) | (with_reducible refine side_q ?_ ?_; exact byQ)
          intro t69 e69
          rw [bsel_and] at e69
          repeat first | (with_reducible refine side_d ?_ ?_; exact byD) | (with_reducible refine side_q ?_ ?_; exact byQ)
          subst e65 e68 e69
          refine cx_if _ rfl (fun h62 => ?_) (fun h62 => ?_)
          ·
            (try simp only [go_sem] at h62)
            refine cx_sr ?_
            simp only [go_sem]
            repeat first | (with_reducible refine side_d ?_ ?_; exact byD) | (with_reducible refine side_q ?_ ?_; exact byQ)
            refine cx_virt 6 4 (En Entry.enc default []) rfl ?_
            simp only [go_sem]
            refine cx_ret ?_
            simp only [go_sem]
            have hm : mayP l c = 5 := by
              have q2 := hah c.to
              have q9 := form_kind hF
              rw [isFolder_par hs] at h33
              unfold mayP
              rcases hah c.path with ⟨a1, a2⟩ | ⟨a1, a2, a3⟩ <;> (try simp only [a1, Int.toNat_natCast] at h47) <;> grind
            have he : rawErr l c v = 5 := by rw [rawErr, if_neg (by simpa using hF), if_pos (by rw [hm]; decide), hm]
            have hp : rawP l c v = [] := by rw [rawP, he, if_neg (by decide)]
            rw [he, hp]
            exact finx_of 1 [1] rfl byC byC byC byC
          ·
            (try simp only [go_sem] at h62)
            refine cx_sr ?_
            simp only [go_sem]
            repeat first | (with_reducible refine side_d ?_ ?_; exact byD) | (with_reducible refine side_q ?_ ?_; exact byQ)
            intro t73 e73
            repeat first | (with_reducible refine side_d ?_ ?_; exact byD) | (with_reducible refine side_q ?_ ?_; exact byQ)
            refine ⟨_, fun hp => cw_m (IsIn2_c c.to c.path (by omega) (by omega)) byW byT ⟨rfl, rfl⟩, ?_⟩
            simp only [go_sem]
            repeat first | (with_reducible refine side_d ?_ ?_; exact byD) | (with_reducible refine side_q ?_ ?_; exact byQ)
            intro t80 e80
            rw [bsel_and] at e80
            repeat first | (with_reducible refine side_d ?_ ?_; exact byD) | (with_reducible refine side_q ?_ ?_; exact byQ)
            subst e73 e80
            refine cx_if _ rfl (fun h70 => ?_) (fun h70 => ?_)
            ·
              (try simp only [go_sem] at h70)
              refine cx_sr ?_
              simp only [go_sem]
              repeat first | (with_reducible refine side_d ?_ ?_; exact byD) | (with_reducible refine side_q ?_ ?_; exact byQ)
              refine cx_virt 6 4 (En Entry.enc default []) rfl ?_
              simp only [go_sem]
              refine cx_ret ?_
              simp only [go_sem]
              have hm : mayP l c = 3 := by
                have q2 := hah c.to
                have q9 := form_kind hF
                rw [isFolder_par hs] at h33
                unfold mayP
                rcases hah c.path with ⟨a1, a2⟩ | ⟨a1, a2, a3⟩ <;> (try simp only [a1, Int.toNat_natCast] at h47) <;> grind
              have he : rawErr l c v = 3 := by rw [rawErr, if_neg (by simpa using hF), if_pos (by rw [hm]; decide), hm]
              have hp : rawP l c v = [] := by rw [rawP, he, if_neg (by decide)]
              rw [he, hp]
              exact finx_of 1 [1] rfl byC byC byC byC
            ·
              (try simp only [go_sem] at h70)
              refine cx_sr ?_
              simp only [go_sem]
              repeat first | (with_reducible refine side_d ?_ ?_; exact byD) | (with_reducible refine side_q ?_ ?_; exact byQ)
              intro t84 e84
              repeat first | (with_reducible refine side_d ?_ ?_; exact byD) | (with_reducible refine side_q ?_ ?_; exact byQ)
              refine ⟨_, fun hp => cw_m (EntryAt_c l c.to (by omega)) byW byT ⟨rfl, rfl⟩, ?_⟩
              simp only [go_sem]
              repeat first | (with_reducible refine side_d ?_ ?_; exact byD) | (with_reducible refine side_q ?_ ?_; exact byQ)
              intro t90 e90
              repeat first | (with_reducible refine side_d ?_ ?_; exact byD) | (with_reducible refine side_q ?_ ?_; exact byQ)
              intro t91 e91
              rw [bsel_and] at e91
              repeat first | (with_reducible refine side_d ?_ ?_; exact byD) | (with_reducible refine side_q ?_ ?_; exact byQ)
              subst e84 e90 e91
              refine cx_if _ rfl (fun h81 => ?_) (fun h81 => ?_)
              ·
                (try simp only [go_sem] at h81)
                refine cx_sr ?_
                simp only [go_sem]
                repeat first | (with_reducible refine side_d ?_ ?_; exact byD) | (with_reducible refine side_q ?_ ?_; exact byQ)
                refine cx_virt 6 4 (En Entry.enc default []) rfl ?_
                simp only [go_sem]
                refine cx_ret ?_
                simp only [go_sem]
                have hm : mayP l c = 6 := by
                  have q2 := hah c.to
                  have q9 := form_kind hF
                  rw [isFolder_par hs] at h33
                  unfold mayP
                  rcases hah c.path with ⟨a1, a2⟩ | ⟨a1, a2, a3⟩ <;> (try simp only [a1, Int.toNat_natCast] at h47) <;> grind
                have he : rawErr l c v = 6 := by rw [rawErr, if_neg (by simpa using hF), if_pos (by rw [hm]; decide), hm]
                have hp : rawP l c v = [] := by rw [rawP, he, if_neg (by decide)]
                rw [he, hp]
                exact finx_of 1 [1] rfl byC byC byC byC
              ·
                (try simp only [go_sem] at h81)
                refine cx_skip ?_
                (try simp only [go_sem])
                refine cx_seq ?_
                refine cx_sr ?_
                simp only [go_sem]
                repeat first | (with_reducible refine side_d ?_ ?_; exact byD) | (with_reducible refine side_q ?_ ?_; exact byQ)
                refine cx_block ?_
                refine cx_loop0 (σ := Nat) (fun i => i ≤ l.length ∧ ∀ j, j < i → staleB c (l.getD j default) = false) (fun i => [⟨11, 0, [], .int .i64 (i : Nat)⟩]) [0, 2, 4] (fun i => l.length - i) 0 ⟨Nat.zero_le _, fun j hj => absurd hj (Nat.not_lt_zero j)⟩ (Nat.zero_le _) byC (fun i hI1 => ?_)
                simp only [go_sem]
                refine cx_seq ?_
                refine cx_sr ?_
                simp only [go_sem]
                repeat first | (with_reducible refine side_d ?_ ?_; exact byD) | (with_reducible refine side_q ?_ ?_; exact byQ)
                intro t95 e95
                repeat first | (with_reducible refine side_d ?_ ?_; exact byD) | (with_reducible refine side_q ?_ ?_; exact byQ)
                intro t99 e99
                repeat first | (with_reducible refine side_d ?_ ?_; exact byD) | (with_reducible refine side_q ?_ ?_; exact byQ)
                intro t100 e100
                rw [bsel_and] at e100
                repeat first | (with_reducible refine side_d ?_ ?_; exact byD) | (with_reducible refine side_q ?_ ?_; exact byQ)
                subst e95 e99 e100
                refine cx_if _ rfl (fun h100 => ?_) (fun h100 => ?_)
                ·
                  (try simp only [go_sem] at h100)
                  have hxp := checkP_len (g.paths.2 (l.getD i default) (getD_mem (by omega)))
                  refine cx_skip ?_
                  (try simp only [go_sem])
                  refine cx_seq (cx_block ?_)
                  refine cx_seq (cx_draw mixed [] (.first 0 (.first 1 (.first 2 (.first 3 (.first 4 (.first 5 (.first 6 (.one 7 (.first 8 (.first 9 (.first 10 (.first 11 (.first 12 (.first 13 (.first 14 (.first 15 (.first 16 (.first 17 (.done))))))))))))))))))) (by kernel_rfl) ?_)
                  simp only [go_sem]
                  repeat first | (with_reducible refine side_d ?_ ?_; exact byD) | (with_reducible refine side_q ?_ ?_; exact byQ)
                  refine cwE_m (IsIn2_c (l.getD i default).path c.path (by omega) (by omega)) byW byT ?_
                  simp only [go_sem]
                  repeat first | (with_reducible refine side_d ?_ ?_; exact byD) | (with_reducible refine side_q ?_ ?_; exact byQ)
                  intro t119 e119
                  repeat first | (with_reducible refine side_d ?_ ?_; exact byD) | (with_reducible refine side_q ?_ ?_; exact byQ)
                  intro t120 e120
                  rw [bsel_and] at e120
                  repeat first | (with_reducible refine side_d ?_ ?_; exact byD) | (with_reducible refine side_q ?_ ?_; exact byQ)
                  subst e119 e120
                  refine cx_if _ rfl (fun h120 => ?_) (fun h120 => ?_)
                  ·
                    (try simp only [go_sem] at h120)
                    refine cx_sr ?_
                    simp only [go_sem]
                    repeat first | (with_reducible refine side_d ?_ ?_; exact byD) | (with_reducible refine side_q ?_ ?_; exact byQ)
                    refine cx_virt 6 4 (En Entry.enc default []) rfl ?_
                    simp only [go_sem]
                    refine cx_ret ?_
                    simp only [go_sem]
                    have hst : l.any (staleB c) = true := List.any_eq_true.2 ⟨l.getD i default, getD_mem (by grind), by unfold staleB; grind⟩
                    have hm : mayP l c = 8 := by
                      have q2 := hah c.to
                      have q9 := form_kind hF
                      rw [isFolder_par hs] at h33
                      unfold mayP
                      rcases hah c.path with ⟨a1, a2⟩ | ⟨a1, a2, a3⟩ <;> (try simp only [a1, Int.toNat_natCast] at h47) <;> grind
                    have he : rawErr l c v = 8 := by rw [rawErr, if_neg (by simpa using hF), if_pos (by rw [hm]; decide), hm]
                    have hp : rawP l c v = [] := by rw [rawP, he, if_neg (by decide)]
                    rw [he, hp]
                    exact finx_of 1 [1] rfl byC byC byC byC
                  ·
                    (try simp only [go_sem] at h120)
                    refine cx_skip ?_
                    (try simp only [go_sem])
                    refine cx_region ?_
                    simp only [go_sem]
                    repeat first | (with_reducible refine side_d ?_ ?_; exact byD) | (with_reducible refine side_q ?_ ?_; exact byQ)
                    intro t102 e102
                    (try replace e102 := w64 e102 (by omega) (by omega))
                    repeat first | (with_reducible refine side_d ?_ ?_; exact byD) | (with_reducible refine side_q ?_ ?_; exact byQ)
                    have hst : staleB c (l.getD i default) = false := by unfold staleB; grind
                    refine rnd_next (i + 1) ⟨by grind, all_next hI1.2 hst⟩ (by first | omega | (dsimp only; omega)) byC
                ·
                  (try simp only [go_sem] at h100)
                  have hM : mayP l c = 0 := by
                    have q2 := hah c.to
                    have q9 := form_kind hF
                    have q3 := form_base hF
                    have q4 : c.base ≠ -1 → l.any (staleB c) = false := by
                      intro hb
                      rw [List.any_eq_false]
                      intro x hx
                      obtain ⟨j, hj, rfl⟩ := List.getElem_of_mem hx
                      have := hI1.2 j (by grind)
                      have e1 : l.getD j default = l[j] := by simp [List.getD, hj]
                      rw [e1] at this
                      simp [this]
                    rw [isFolder_par hs] at h33
                    unfold mayP
                    rcases hah c.path with ⟨a1, a2⟩ | ⟨a1, a2, a3⟩ <;> (try simp only [a1, Int.toNat_natCast] at h47) <;> grind
                  refine cx_exit ?_
                  simp only [go_sem]
                  refine cx_sr ?_
                  simp only [go_sem]
                  repeat first | (with_reducible refine side_d ?_ ?_; exact byD) | (with_reducible refine side_q ?_ ?_; exact byQ)
                  refine cx_virt 12 4 (En Entry.enc default []) rfl ?_
                  simp only [go_sem]
                  refine cx_seq ?_
                  refine cx_sr ?_
                  simp only [go_sem]
                  repeat first | (with_reducible refine side_d ?_ ?_; exact byD) | (with_reducible refine side_q ?_ ?_; exact byQ)
                  refine cx_meet (σ := Unit) (fun u => c.kind = 3 → greatG l c v = false) (fun u => [⟨12, 0, [], .own none 1 4 0 (madeP l c v).length .loose⟩]) [] (fun u => [.box c.enc, .arr 4 (madeP l c v).length (En Entry.enc default (madeP l c v))]) (fun _ => (Nat.zero_le _)) ?_ (fun u hIM2 => ?_)
                  ·
                    refine cx_block ?_
                    refine cx_sr ?_
                    simp only [go_sem]
                    repeat first | (with_reducible refine side_d ?_ ?_; exact byD) | (with_reducible refine side_q ?_ ?_; exact byQ)
                    intro t199 e199
                    repeat first | (with_reducible refine side_d ?_ ?_; exact byD) | (with_reducible refine side_q ?_ ?_; exact byQ)
                    subst e199
                    refine cx_if _ rfl (fun h198 => ?_) (fun h198 => ?_)
                    ·
                      (try simp only [go_sem] at h198)
                      refine cx_region ?_
                      simp only [go_sem]
                      repeat first | (with_reducible refine side_d ?_ ?_; exact byD) | (with_reducible refine side_q ?_ ?_; exact byQ)
                      refine cw_m (PutEntry_c l ⟨c.path, true, [], v⟩ hl hs) byW byT ?_
                      simp only [go_sem]
                      repeat first | (with_reducible refine side_d ?_ ?_; exact byD) | (with_reducible refine side_q ?_ ?_; exact byQ)
                      have hk : c.kind = 1 := by simpa using h198
                      have hm : madeP l c v = putE l ⟨c.path, true, [], v⟩ := by rw [madeP, if_pos hk]
                      refine mt_nextr () [0, 2] (by omega) ⟨rfl, rfl, ?_, ?_⟩
                      · rw [hm]; exact byC
                      · rw [hm]; exact byC
                    ·
                      (try simp only [go_sem] at h198)
                      refine cx_sr ?_
                      simp only [go_sem]
                      repeat first | (with_reducible refine side_d ?_ ?_; exact byD) | (with_reducible refine side_q ?_ ?_; exact byQ)
                      intro t207 e207
                      repeat first | (with_reducible refine side_d ?_ ?_; exact byD) | (with_reducible refine side_q ?_ ?_; exact byQ)
                      subst e207
                      refine cx_if _ rfl (fun h206 => ?_) (fun h206 => ?_)
                      ·
                        (try simp only [go_sem] at h206)
                        refine cx_region ?_
                        simp only [go_sem]
                        repeat first | (with_reducible refine side_d ?_ ?_; exact byD) | (with_reducible refine side_q ?_ ?_; exact byQ)
                        refine cw_m (PutEntry_c l ⟨c.path, false, c.text, v⟩ hl hs) byW byT ?_
                        simp only [go_sem]
                        repeat first | (with_reducible refine side_d ?_ ?_; exact byD) | (with_reducible refine side_q ?_ ?_; exact byQ)
                        have hk : c.kind = 2 := by simpa using h206
                        have hm : madeP l c v = putE l ⟨c.path, false, c.text, v⟩ := by rw [madeP, if_neg (by omega), if_pos hk]
                        refine mt_nextr () [0, 2] (by omega) ⟨rfl, rfl, ?_, ?_⟩
                        · rw [hm]; exact byC
                        · rw [hm]; exact byC
                      ·
                        (try simp only [go_sem] at h206)
                        refine cx_seq ?_
                        refine cx_sr ?_
                        simp only [go_sem]
                        repeat first | (with_reducible refine side_d ?_ ?_; exact byD) | (with_reducible refine side_q ?_ ?_; exact byQ)
                        refine cx_block ?_
                        refine cx_loopk (σ := Nat) (fun i => i ≤ l.length) (fun i => [⟨13, 0, [], .int .i64 (i : Nat)⟩, ⟨12, 0, [], .own none 1 4 0 ((l.take i).filter (outB c.path)).length .loose⟩]) [0, 2, 4] (fun i => [.box c.enc, .arr 4 ((l.take i).filter (outB c.path)).length (En Entry.enc default ((l.take i).filter (outB c.path)))]) (fun i => l.length - i) 0 (Nat.zero_le _) (fun _ => (Nat.zero_le _)) byC (fun i hI2 => ?_)
                        simp only [go_sem]
                        have hfl := List.length_filter_le (outB c.path) (l.take i)
                        have hfl2 : (l.take i).length ≤ i := by simp; omega
                        refine cx_seq ?_
                        refine cx_sr ?_
                        simp only [go_sem]
                        repeat first | (with_reducible refine side_d ?_ ?_; exact byD) | (with_reducible refine side_q ?_ ?_; exact byQ)
                        intro t126 e126
                        repeat first | (with_reducible refine side_d ?_ ?_; exact byD) | (with_reducible refine side_q ?_ ?_; exact byQ)
                        subst e126
                        refine cx_if _ rfl (fun h126 => ?_) (fun h126 => ?_)
                        ·
                          (try simp only [go_sem] at h126)
                          have hxp2 := checkP_len (g.paths.2 (l.getD i default) (getD_mem (by omega)))
                          refine cx_skip ?_
                          (try simp only [go_sem])
                          refine cx_seq (cx_block ?_)
                          refine cx_seq (cx_draw mixed [] (.first 0 (.first 1 (.first 2 (.first 3 (.first 4 (.first 5 (.first 6 (.one 7 (.first 8 (.done)))))))))) (by kernel_rfl) ?_)
                          simp only [go_sem]
                          repeat first | (with_reducible refine side_d ?_ ?_; exact byD) | (with_reducible refine side_q ?_ ?_; exact byQ)
                          refine cwE_m (IsIn2_c (l.getD i default).path c.path (by omega) (by omega)) byW byT ?_
                          simp only [go_sem]
                          repeat first | (with_reducible refine side_d ?_ ?_; exact byD) | (with_reducible refine side_q ?_ ?_; exact byQ)
                          intro t137 e137
                          repeat first | (with_reducible refine side_d ?_ ?_; exact byD) | (with_reducible refine side_q ?_ ?_; exact byQ)
                          subst e137
                          refine cx_if _ rfl (fun h137 => ?_) (fun h137 => ?_)
                          ·
                            (try simp only [go_sem] at h137)
                            refine cx_region ?_
                            simp only [go_sem]
                            repeat first | (with_reducible refine side_d ?_ ?_; exact byD) | (with_reducible refine side_q ?_ ?_; exact byQ)
                            refine cx_region ?_
                            simp only [go_sem]
                            repeat first | (with_reducible refine side_d ?_ ?_; exact byD) | (with_reducible refine side_q ?_ ?_; exact byQ)
                            intro t128 e128
                            (try replace e128 := w64 e128 (by omega) (by omega))
                            repeat first | (with_reducible refine side_d ?_ ?_; exact byD) | (with_reducible refine side_q ?_ ?_; exact byQ)
                            have hn : outB c.path (l.getD i default) = true := by simpa [outB] using h137
                            have hf : (l.take (i + 1)).filter (outB c.path) = (l.take i).filter (outB c.path) ++ [l.getD i default] := by rw [filter_snoc (by omega), if_pos hn]
                            refine rnd_nextr (i + 1) [0, 3] (by omega) (by first | omega | (dsimp only; omega)) ⟨rfl, rfl, ?_, ?_⟩
                            · rw [hf]; exact byC
                            · rw [hf]; skip
                              simp only [go_sem, wk, wks, wkB, wkH, List.length_append, List.length_cons, List.length_nil]
                              first | exact fun q hq => wks_mp_snoc (fun x => rnVs_no _ rfl) (by rfl) hq | (and_intros <;> first | trivial | rfl | (exact fun q hq => wks_mp_snoc (fun x => rnVs_no _ rfl) (by rfl) hq) | exact wks_refl _ | exact byC)
                          ·
                            (try simp only [go_sem] at h137)
                            refine cx_skip ?_
                            (try simp only [go_sem])
                            refine cx_region ?_
                            simp only [go_sem]
                            repeat first | (with_reducible refine side_d ?_ ?_; exact byD) | (with_reducible refine side_q ?_ ?_; exact byQ)
                            intro t128 e128
                            (try replace e128 := w64 e128 (by omega) (by omega))
                            repeat first | (with_reducible refine side_d ?_ ?_; exact byD) | (with_reducible refine side_q ?_ ?_; exact byQ)
                            have hn : ¬ outB c.path (l.getD i default) = true := by simpa [outB] using h137
                            have hf : (l.take (i + 1)).filter (outB c.path) = (l.take i).filter (outB c.path) := by rw [filter_snoc (by omega), if_neg hn]
                            refine rnd_next (i + 1) (by omega) (by first | omega | (dsimp only; omega)) ?_
                            rw [hf]
                            exact byC
                        ·
                          (try simp only [go_sem] at h126)
                          have hi : l.take i = l := List.take_of_length_le (by omega)
                          rw [hi]
                          refine cx_exit ?_
                          simp only [go_sem]
                          refine cx_sr ?_
                          simp only [go_sem]
                          repeat first | (with_reducible refine side_d ?_ ?_; exact byD) | (with_reducible refine side_q ?_ ?_; exact byQ)
                          refine cx_block ?_
                          refine cx_loopk (σ := Nat) (fun i => i ≤ l.length ∧ (c.kind = 3 → greatG (l.take i) c v = false) ∧ (¬ c.kind = 3 → i = 0)) (fun i => [⟨14, 0, [], .int .i64 (i : Nat)⟩, ⟨12, 0, [], .own none 1 4 0 ((goesP (l.take i) c v).foldl putE (l.filter (outB c.path))).length .loose⟩]) [0, 2, 4] (fun i => [.box c.enc, .arr 4 ((goesP (l.take i) c v).foldl putE (l.filter (outB c.path))).length (En Entry.enc default ((goesP (l.take i) c v).foldl putE (l.filter (outB c.path))))]) (fun i => l.length - i) 0 ⟨Nat.zero_le _, fun _ => rfl, fun _ => rfl⟩ (fun _ => (Nat.zero_le _)) byC (fun i hI3 => ?_)
                          simp only [go_sem]
                          have hfs := foldl_put_sorted (goesP (l.take i) c v) (filter_sorted hs (outB c.path))
                          have hfl := foldl_put_len (goesP (l.take i) c v) (l.filter (outB c.path))
                          have hfl2 := List.length_filter_le (outB c.path) l
                          have hgl3 := goes_len (l.take i) c v
                          have hgl4 : (l.take i).length ≤ i := by simp; omega
                          refine cx_seq ?_
                          refine cx_sr ?_
                          simp only [go_sem]
                          repeat first | (with_reducible refine side_d ?_ ?_; exact byD) | (with_reducible refine side_q ?_ ?_; exact byQ)
                          intro t148 e148
                          repeat first | (with_reducible refine side_d ?_ ?_; exact byD) | (with_reducible refine side_q ?_ ?_; exact byQ)
                          intro t152 e152
                          repeat first | (with_reducible refine side_d ?_ ?_; exact byD) | (with_reducible refine side_q ?_ ?_; exact byQ)
                          intro t153 e153
                          rw [bsel_and] at e153
                          repeat first | (with_reducible refine side_d ?_ ?_; exact byD) | (with_reducible refine side_q ?_ ?_; exact byQ)
                          subst e148 e152 e153
                          refine cx_if _ rfl (fun h153 => ?_) (fun h153 => ?_)
                          ·
                            (try simp only [go_sem] at h153)
                            have hk : c.kind = 3 ∧ i < l.length := by grind
                            have hck := form_ok hF
                            have hxp1 := g.paths.2 (l.getD i default) (getD_mem (by omega))
                            have hxp := checkP_len hxp1
                            have htp := checkP_len (hck.2 hk.1)
                            refine cx_skip ?_
                            (try simp only [go_sem])
                            refine cx_seq (cx_block ?_)
                            refine cx_seq ?_
                            refine cx_seq (cx_draw mixed [] (.first 0 (.first 1 (.first 2 (.first 3 (.first 4 (.first 5 (.first 6 (.one 7 (.first 8 (.done)))))))))) (by kernel_rfl) ?_)
                            simp only [go_sem]
                            repeat first | (with_reducible refine side_d ?_ ?_; exact byD) | (with_reducible refine side_q ?_ ?_; exact byQ)
                            refine cwE_m (IsIn2_c (l.getD i default).path c.path (by omega) (by omega)) byW byT ?_
                            simp only [go_sem]
                            repeat first | (with_reducible refine side_d ?_ ?_; exact byD) | (with_reducible refine side_q ?_ ?_; exact byQ)
                            intro t164 e164
                            repeat first | (with_reducible refine side_d ?_ ?_; exact byD) | (with_reducible refine side_q ?_ ?_; exact byQ)
                            subst e164
                            refine cx_if _ rfl (fun h164 => ?_) (fun h164 => ?_)
                            ·
                              (try simp only [go_sem] at h164)
                              refine cx_exit ?_
                              simp only [go_sem]
                              refine cx_region ?_
                              simp only [go_sem]
                              repeat first | (with_reducible refine side_d ?_ ?_; exact byD) | (with_reducible refine side_q ?_ ?_; exact byQ)
                              intro t155 e155
                              (try replace e155 := w64 e155 (by omega) (by omega))
                              repeat first | (with_reducible refine side_d ?_ ?_; exact byD) | (with_reducible refine side_q ?_ ?_; exact byQ)
                              have hn : ¬ inB c.path (l.getD i default) = true := by simpa [inB] using h164
                              have hg : goesP (l.take (i + 1)) c v = goesP (l.take i) c v := by rw [goes_snoc (by omega), if_neg hn]
                              refine rnd_next (i + 1) ⟨by omega, fun hk3 => by rw [greatG, hg]; exact hI3.2.1 hk3, fun hk3 => absurd hk.1 hk3⟩ (by first | omega | (dsimp only; omega)) ?_
                              rw [hg]
                              exact byC
                            ·
                              (try simp only [go_sem] at h164)
                              have hin : isIn (l.getD i default).path c.path = true := by simpa using h164
                              have hb : inB c.path (l.getD i default) = true := hin
                              have hinp : inP (pcs (l.getD i default).path) (pcs c.path) = true := by rw [← isIn_pcs]; exact hin
                              have hpl : (pcs c.path).length ≤ (pcs (l.getD i default).path).length := by have h := hinp; unfold inP at h; rw [Bool.and_eq_true, decide_eq_true_eq] at h; exact h.1
                              have hpl2 : (pcs (l.getD i default).path).length ≤ 81 := by rw [pcs_cnt]; have := List.count_le_length (a := (47 : UInt8)) (l := (l.getD i default).path); omega
                              have hdl : (c.to ++ (l.getD i default).path.drop c.path.length).length ≤ 160 := by rw [List.length_append, List.length_drop]; omega
                              have hpl3 : (pcs c.to).length ≤ 81 := by rw [pcs_cnt]; have := List.count_le_length (a := (47 : UInt8)) (l := c.to); omega
                              refine cx_skip ?_
                              (try simp only [go_sem])
                              refine cx_sr ?_
                              simp only [go_sem]
                              repeat first | (with_reducible refine side_d ?_ ?_; exact byD) | (with_reducible refine side_q ?_ ?_; exact byQ)
                              refine cx_seq ?_
                              refine cx_sr ?_
                              simp only [go_sem]
                              repeat first | (with_reducible refine side_d ?_ ?_; exact byD) | (with_reducible refine side_q ?_ ?_; exact byQ)
                              intro t173 e173
                              repeat first | (with_reducible refine side_d ?_ ?_; exact byD) | (with_reducible refine side_q ?_ ?_; exact byQ)
                              subst e173
                              refine cx_meet (σ := Unit) (fun u3 => True) (fun u3 => []) [0, 2, 4, 12, 14, 15] (fun u3 => [.box c.enc, .arr 4 ((goesP (l.take i) c v).foldl putE (l.filter (outB c.path))).length (En Entry.enc default ((goesP (l.take i) c v).foldl putE (l.filter (outB c.path)))), .box [.str (l.getD i default).path, .bool (l.getD i default).folder, .str (l.getD i default).text, .int .i64 (if (l.getD i default).path = c.path then v else (l.getD i default).version)]]) (fun _ => (Nat.zero_le _)) ?_ (fun u3 hIM3 => ?_)
                              ·
                                refine cx_if _ rfl (fun h173 => ?_) (fun h173 => ?_)
                                ·
                                  (try simp only [go_sem] at h173)
                                  refine cx_region ?_
                                  simp only [go_sem]
                                  repeat first | (with_reducible refine side_d ?_ ?_; exact byD) | (with_reducible refine side_q ?_ ?_; exact byQ)
                                  have hk : (l.getD i default).path = c.path := by simpa using h173
                                  refine mt_next () trivial ?_
                                  rw [if_pos hk]
                                  exact byC
                                ·
                                  (try simp only [go_sem] at h173)
                                  refine cx_skip ?_
                                  (try simp only [go_sem])
                                  have hk : ¬ (l.getD i default).path = c.path := by simpa using h173
                                  refine mt_next () trivial ?_
                                  rw [if_neg hk]
                                  exact byC
                              simp only [go_sem]
                              refine cx_seq (cx_draw mixed [13, 16] (.first 1 (.first 2 (.first 5 (.first 6 (.first 8 (.first 9 (.alt 0 (.one 3 (.one 4 (.one 7 (.one 10 (.first 11 (.first 12 (.one 13 (.one 14 (.first 15 (.one 16 (.done))))))))))) (.one 3 (.one 0 (.one 4 (.one 7 (.one 10 (.first 11 (.first 12 (.one 13 (.one 14 (.first 15 (.one 16 (.done))))))))))))))))))) (by kernel_rfl) ?_)
                              simp only [go_sem]
                              repeat first | (with_reducible refine side_d ?_ ?_; exact byD) | (with_reducible refine side_q ?_ ?_; exact byQ)
                              refine ⟨?_, ?_⟩
                              ·
                                repeat first | (with_reducible refine side_d ?_ ?_; exact byD) | (with_reducible refine side_q ?_ ?_; exact byQ)
                                refine cwE_m (NamesOf_c c.to (by omega)) byW byT ?_
                                simp only [go_sem]
                                repeat first | (with_reducible refine side_d ?_ ?_; exact byD) | (with_reducible refine side_q ?_ ?_; exact byQ)
                                refine cwE_m (NamesOf_c (l.getD i default).path (by omega)) byW byT ?_
                                simp only [go_sem]
                                repeat first | (with_reducible refine side_d ?_ ?_; exact byD) | (with_reducible refine side_q ?_ ?_; exact byQ)
                                refine cwE_m (NamesOf_c c.path (by omega)) byW byT ?_
                                simp only [go_sem]
                                repeat ((with_reducible first | refine side_d ?_ ?_ | refine side_q ?_ ?_); focus (first | exact byD | exact byQ | ((refine Sd.mk ?_; omega))))
                                repeat first | (with_reducible refine side_d ?_ ?_; exact byD) | (with_reducible refine side_q ?_ ?_; exact byQ)
                                refine cwE_v 2 (PathOfM_c c.to hin (by omega) (by omega)) byV byC rfl ?_
                                simp only [go_sem]
                                repeat first | (with_reducible refine side_d ?_ ?_; exact byD) | (with_reducible refine side_q ?_ ?_; exact byQ)
                                refine cx_seq ?_
                                refine cx_sr ?_
                                simp only [go_sem]
                                repeat first | (with_reducible refine side_d ?_ ?_; exact byD) | (with_reducible refine side_q ?_ ?_; exact byQ)
                                refine cw_m (TooGreat_c (c.to ++ (l.getD i default).path.drop c.path.length) (by omega)) byW byT ?_
                                simp only [go_sem]
                                repeat first | (with_reducible refine side_d ?_ ?_; exact byD) | (with_reducible refine side_q ?_ ?_; exact byQ)
                                refine cx_if _ rfl (fun h194 => ?_) (fun h194 => ?_)
                                ·
                                  (try simp only [go_sem] at h194)
                                  refine cx_sr ?_
                                  simp only [go_sem]
                                  repeat first | (with_reducible refine side_d ?_ ?_; exact byD) | (with_reducible refine side_q ?_ ?_; exact byQ)
                                  refine cx_virt 6 4 (En Entry.enc default []) rfl ?_
                                  simp only [go_sem]
                                  refine cx_ret ?_
                                  simp only [go_sem]
                                  have hd : doneErr l c v = 2 := by rw [doneErr, if_pos ⟨hk.1, great_at hk.2 hb h194⟩]
                                  have he : rawErr l c v = 2 := by rw [rawErr, if_neg (by simpa using hF), if_neg (by simpa using hM), hd]
                                  have hp : rawP l c v = [] := by rw [rawP, he, if_neg (by decide)]
                                  rw [he, hp]
                                  exact finx_of 1 [6] rfl byC byC byC byC
                                ·
                                  (try simp only [go_sem] at h194)
                                  refine cx_skip ?_
                                  (try simp only [go_sem])
                                  refine cx_region ?_
                                  simp only [go_sem]
                                  repeat first | (with_reducible refine side_d ?_ ?_; exact byD) | (with_reducible refine side_q ?_ ?_; exact byQ)
                                  refine cw_n 2 (PutEntry_c ((goesP (l.take i) c v).foldl putE (l.filter (outB c.path))) (mvE c v (l.getD i default)) (by omega) hfs) byV byC rfl byN ?_
                                  simp only [go_sem]
                                  repeat first | (with_reducible refine side_d ?_ ?_; exact byD) | (with_reducible refine side_q ?_ ?_; exact byQ)
                                  refine cx_region ?_
                                  simp only [go_sem]
                                  repeat first | (with_reducible refine side_d ?_ ?_; exact byD) | (with_reducible refine side_q ?_ ?_; exact byQ)
                                  intro t155 e155
                                  (try replace e155 := w64 e155 (by omega) (by omega))
                                  repeat first | (with_reducible refine side_d ?_ ?_; exact byD) | (with_reducible refine side_q ?_ ?_; exact byQ)
                                  have hg : goesP (l.take (i + 1)) c v = goesP (l.take i) c v ++ [mvE c v (l.getD i default)] := by rw [goes_snoc hk.2, if_pos hb]
                                  have hgg : greatG (l.take (i + 1)) c v = false := by
                                    rw [greatG, hg, List.any_append]
                                    have := hI3.2.1 hk.1
                                    rw [greatG] at this
                                    rw [this]
                                    simpa [mvE] using h194
                                  have hsn : (goesP (l.take (i + 1)) c v).foldl putE (l.filter (outB c.path)) = putE ((goesP (l.take i) c v).foldl putE (l.filter (outB c.path))) (mvE c v (l.getD i default)) := by rw [hg, List.foldl_append]; rfl
                                  refine rnd_nextr (i + 1) [0, 6] ⟨by omega, fun _ => hgg, fun hk3 => absurd hk.1 hk3⟩ (by first | omega | (dsimp only; omega)) ⟨rfl, rfl, ?_, ?_⟩
                                  · rw [hsn]; exact byC
                                  · rw [hsn]; exact byC
                              ·
                                repeat first | (with_reducible refine side_d ?_ ?_; exact byD) | (with_reducible refine side_q ?_ ?_; exact byQ)
                                refine cwE_m (NamesOf_c c.to (by omega)) byW byT ?_
                                simp only [go_sem]
                                repeat first | (with_reducible refine side_d ?_ ?_; exact byD) | (with_reducible refine side_q ?_ ?_; exact byQ)
                                refine cwE_m (NamesOf_c (l.getD i default).path (by omega)) byW byT ?_
                                simp only [go_sem]
                                repeat first | (with_reducible refine side_d ?_ ?_; exact byD) | (with_reducible refine side_q ?_ ?_; exact byQ)
                                refine cwE_m (NamesOf_c c.path (by omega)) byW byT ?_
                                simp only [go_sem]
                                repeat ((with_reducible first | refine side_d ?_ ?_ | refine side_q ?_ ?_); focus (first | exact byD | exact byQ | ((refine Sd.mk ?_; omega))))
                                repeat first | (with_reducible refine side_d ?_ ?_; exact byD) | (with_reducible refine side_q ?_ ?_; exact byQ)
                                refine cwE_v 2 (PathOfM_c c.to hin (by omega) (by omega)) byV byC rfl ?_
                                simp only [go_sem]
                                repeat first | (with_reducible refine side_d ?_ ?_; exact byD) | (with_reducible refine side_q ?_ ?_; exact byQ)
                                refine cx_seq ?_
                                refine cx_sr ?_
                                simp only [go_sem]
                                repeat first | (with_reducible refine side_d ?_ ?_; exact byD) | (with_reducible refine side_q ?_ ?_; exact byQ)
                                refine cw_m (TooGreat_c (c.to ++ (l.getD i default).path.drop c.path.length) (by omega)) byW byT ?_
                                simp only [go_sem]
                                repeat first | (with_reducible refine side_d ?_ ?_; exact byD) | (with_reducible refine side_q ?_ ?_; exact byQ)
                                refine cx_if _ rfl (fun h194 => ?_) (fun h194 => ?_)
                                ·
                                  (try simp only [go_sem] at h194)
                                  refine cx_sr ?_
                                  simp only [go_sem]
                                  repeat first | (with_reducible refine side_d ?_ ?_; exact byD) | (with_reducible refine side_q ?_ ?_; exact byQ)
                                  refine cx_virt 6 4 (En Entry.enc default []) rfl ?_
                                  simp only [go_sem]
                                  refine cx_ret ?_
                                  simp only [go_sem]
                                  have hd : doneErr l c v = 2 := by rw [doneErr, if_pos ⟨hk.1, great_at hk.2 hb h194⟩]
                                  have he : rawErr l c v = 2 := by rw [rawErr, if_neg (by simpa using hF), if_neg (by simpa using hM), hd]
                                  have hp : rawP l c v = [] := by rw [rawP, he, if_neg (by decide)]
                                  rw [he, hp]
                                  exact finx_of 1 [6] rfl byC byC byC byC
                                ·
                                  (try simp only [go_sem] at h194)
                                  refine cx_skip ?_
                                  (try simp only [go_sem])
                                  refine cx_region ?_
                                  simp only [go_sem]
                                  repeat first | (with_reducible refine side_d ?_ ?_; exact byD) | (with_reducible refine side_q ?_ ?_; exact byQ)
                                  refine cw_n 2 (PutEntry_c ((goesP (l.take i) c v).foldl putE (l.filter (outB c.path))) (mvE c v (l.getD i default)) (by omega) hfs) byV byC rfl byN ?_
                                  simp only [go_sem]
                                  repeat first | (with_reducible refine side_d ?_ ?_; exact byD) | (with_reducible refine side_q ?_ ?_; exact byQ)
                                  refine cx_region ?_
                                  simp only [go_sem]
                                  repeat first | (with_reducible refine side_d ?_ ?_; exact byD) | (with_reducible refine side_q ?_ ?_; exact byQ)
                                  intro t155 e155
                                  (try replace e155 := w64 e155 (by omega) (by omega))
                                  repeat first | (with_reducible refine side_d ?_ ?_; exact byD) | (with_reducible refine side_q ?_ ?_; exact byQ)
                                  have hg : goesP (l.take (i + 1)) c v = goesP (l.take i) c v ++ [mvE c v (l.getD i default)] := by rw [goes_snoc hk.2, if_pos hb]
                                  have hgg : greatG (l.take (i + 1)) c v = false := by
                                    rw [greatG, hg, List.any_append]
                                    have := hI3.2.1 hk.1
                                    rw [greatG] at this
                                    rw [this]
                                    simpa [mvE] using h194
                                  have hsn : (goesP (l.take (i + 1)) c v).foldl putE (l.filter (outB c.path)) = putE ((goesP (l.take i) c v).foldl putE (l.filter (outB c.path))) (mvE c v (l.getD i default)) := by rw [hg, List.foldl_append]; rfl
                                  refine rnd_nextr (i + 1) [0, 6] ⟨by omega, fun _ => hgg, fun hk3 => absurd hk.1 hk3⟩ (by first | omega | (dsimp only; omega)) ⟨rfl, rfl, ?_, ?_⟩
                                  · rw [hsn]; exact byC
                                  · rw [hsn]; exact byC
                          ·
                            (try simp only [go_sem] at h153)
                            refine cx_exit ?_
                            simp only [go_sem]
                            have hfk := form_kind hF
                            have hm : madeP l c v = (goesP (l.take i) c v).foldl putE (l.filter (outB c.path)) := by
                              have h1 : ¬ c.kind = 1 := by simpa using h198
                              have h2 : ¬ c.kind = 2 := by simpa using h206
                              rw [madeP, if_neg h1, if_neg h2]
                              by_cases h3 : c.kind = 3
                              · rw [if_neg (by omega), if_pos h3, movedL, List.take_of_length_le (by grind)]
                              · rw [if_pos (by omega), hI3.2.2 h3]
                                rfl
                            have hgr : c.kind = 3 → greatG l c v = false := by
                              intro h3
                              have := hI3.2.1 h3
                              rwa [List.take_of_length_le (by grind)] at this
                            refine mt_next () hgr ?_
                            rw [hm]
                            exact byC
                  simp only [go_sem]
                  refine cx_seq ?_
                  refine cx_sr ?_
                  simp only [go_sem]
                  repeat first | (with_reducible refine side_d ?_ ?_; exact byD) | (with_reducible refine side_q ?_ ?_; exact byQ)
                  intro t218 e218
                  repeat first | (with_reducible refine side_d ?_ ?_; exact byD) | (with_reducible refine side_q ?_ ?_; exact byQ)
                  subst e218
                  refine cx_if _ rfl (fun h218 => ?_) (fun h218 => ?_)
                  ·
                    (try simp only [go_sem] at h218)
                    refine cx_sr ?_
                    simp only [go_sem]
                    repeat first | (with_reducible refine side_d ?_ ?_; exact byD) | (with_reducible refine side_q ?_ ?_; exact byQ)
                    refine cx_virt 6 4 (En Entry.enc default []) rfl ?_
                    simp only [go_sem]
                    refine cx_ret ?_
                    simp only [go_sem]
                    have hd : doneErr l c v = 2 := by rw [doneErr]; split <;> first | rfl | (rw [if_pos (by omega)])
                    have he : rawErr l c v = 2 := by rw [rawErr, if_neg (by simpa using hF), if_neg (by simpa using hM), hd]
                    have hp : rawP l c v = [] := by rw [rawP, he, if_neg (by decide)]
                    rw [he, hp]
                    exact finx_of 1 [2] rfl byC byC byC byC
                  ·
                    (try simp only [go_sem] at h218)
                    refine cx_skip ?_
                    (try simp only [go_sem])
                    refine cx_sr ?_
                    simp only [go_sem]
                    repeat first | (with_reducible refine side_d ?_ ?_; exact byD) | (with_reducible refine side_q ?_ ?_; exact byQ)
                    refine cx_ret ?_
                    simp only [go_sem]
                    have hd : doneErr l c v = 0 := by rw [doneErr, if_neg (by rintro ⟨h1, h2⟩; rw [hIM2 h1] at h2; cases h2), if_neg (by omega)]
                    have he : rawErr l c v = 0 := by rw [rawErr, if_neg (by simpa using hF), if_neg (by simpa using hM), hd]
                    have hp : rawP l c v = madeP l c v := by rw [rawP, if_pos he]
                    rw [he, hp]
                    exact finx_of 1 [1] rfl byC byC byC byC
end Go.VM.Tryd
end
section
set_option linter.unusedVariables false
set_option linter.unusedSimpArgs false
open Go Go.VM Go.Proofs Tether
namespace Go.VM.Tryd
set_option maxRecDepth 100000
/-- the same, of a tree that nobody writes any more -/
theorem ChangeOfF_c (l : List Entry) (c : Change) (v : Int) (g : GoodT l) (ok : okC c) : Meets Tryd.prog 25 [esV l, .agg c.enc, .int .i64 v] (.tup [esV (rawP l c v), .int .i64 (rawErr l c v)]) [] :=
  ((ChangeOf_c l c v g ok).freeze 1 byC).wk (wks_refl _) byC byC
theorem rawP_len (l : List Entry) (c : Change) (v : Int) : (rawP l c v).length ≤ 2 * l.length + 1 := by
  have := madeP_len l c v
  unfold rawP
  split
  · omega
  · simp
end Go.VM.Tryd
end
section
set_option linter.unusedVariables false
set_option linter.unusedSimpArgs false
open Go Go.VM Go.Proofs Tether
namespace Go.VM.Tryd
set_option maxRecDepth 100000
def chooseP (c n : Int) : Int := (if c < 0 then -(c + 1) else c) % n
theorem choose_c (c : Int) (h0 : -9223372036854775808 ≤ c) (h1 : c ≤ 9223372036854775807) (n : Int) (hn : 0 < n) (hn2 : n ≤ 1000001) : Meets Tryd.prog 32 [.int .i64 c, .int .i64 n] (.int .i64 (chooseP c n)) [] := by
  refine meets_x (fn := Tryd.f32) Tryd.func32 rfl fb32 (by kernel_rfl) (Nat.le_of_ble_eq_true rfl) ?_
  have h2c : -(c + 1) = -c - 1 := by omega
  refine cx_sr ?_
  simp only [go_sem]
  repeat first | (with_reducible refine side_d ?_ ?_; exact byD) | (with_reducible refine side_q ?_ ?_; exact byQ)
  refine cx_seq ?_
  refine cx_sr ?_
  simp only [go_sem]
  repeat first | (with_reducible refine side_d ?_ ?_; exact byD) | (with_reducible refine side_q ?_ ?_; exact byQ)
  intro t6 e6
  repeat first | (with_reducible refine side_d ?_ ?_; exact byD) | (with_reducible refine side_q ?_ ?_; exact byQ)
  subst e6
  refine cx_if _ rfl (fun h6 => ?_) (fun h6 => ?_)
  ·
    (try simp only [go_sem] at h6)
    refine cx_region ?_
    simp only [go_sem]
    repeat first | (with_reducible refine side_d ?_ ?_; exact byD) | (with_reducible refine side_q ?_ ?_; exact byQ)
    intro t8 e8
    (try replace e8 := w64 e8 (by omega) (by omega))
    repeat first | (with_reducible refine side_d ?_ ?_; exact byD) | (with_reducible refine side_q ?_ ?_; exact byQ)
    intro t9 e9
    repeat first | (with_reducible refine side_d ?_ ?_; exact byD) | (with_reducible refine side_q ?_ ?_; exact byQ)
    refine cx_sr ?_
    simp only [go_sem]
    repeat first | (with_reducible refine side_d ?_ ?_; exact byD) | (with_reducible refine side_q ?_ ?_; exact byQ)
    intro t12 e12
    repeat first | (with_reducible refine side_d ?_ ?_; exact byD) | (with_reducible refine side_q ?_ ?_; exact byQ)
    refine cx_ret ?_
    simp only [go_sem]
    refine finw_int ?_
    have h6' : c < 0 := by simpa using h6
    have e9' : t9 = -(c + 1) := by rw [e9]; simp [IntKind.wrap, IntKind.bits, IntKind.signed]; omega
    rw [chooseP, if_pos h6', ← e9', e12, Int.tmod_eq_emod_of_nonneg (by omega)]
  ·
    (try simp only [go_sem] at h6)
    refine cx_skip ?_
    (try simp only [go_sem])
    refine cx_sr ?_
    simp only [go_sem]
    repeat first | (with_reducible refine side_d ?_ ?_; exact byD) | (with_reducible refine side_q ?_ ?_; exact byQ)
    intro t12 e12
    repeat first | (with_reducible refine side_d ?_ ?_; exact byD) | (with_reducible refine side_q ?_ ?_; exact byQ)
    refine cx_ret ?_
    simp only [go_sem]
    refine finw_int ?_
    have h6' : ¬ c < 0 := by simpa using h6
    rw [chooseP, if_neg h6', e12, Int.tmod_eq_emod_of_nonneg (by omega)]
end Go.VM.Tryd
end
section
set_option linter.unusedVariables false
set_option linter.unusedSimpArgs false
open Go Go.VM Go.Proofs Tether
namespace Go.VM.Tryd
structure FullT (l : List Entry) : Prop where
  len : l.length ≤ 60
  ents : ∀ x ∈ l, entErr x = 0
  sorted : SortedE l
  par : ∀ x ∈ l, headOf x.path = [] ∨ ∃ y ∈ l, y.path = headOf x.path ∧ y.folder = true
theorem parE_in {l : List Entry} (hs : SortedE l) {p : Str} : ((parE l p).2 = true ∧ (parE l p).1.folder = true) ↔ (headOf p = [] ∨ ∃ y ∈ l, y.path = headOf p ∧ y.folder = true) := by
  unfold parE
  by_cases h : headOf p = []
  · simp [h, topE]
  · rw [if_neg h]
    by_cases hh : hasE l (headOf p) = true
    · rw [if_pos hh]
      have hf := findE_eq hs (headOf p)
      rw [if_pos hh] at hf
      obtain ⟨h1, h2⟩ := findE_some hf
      constructor
      · rintro ⟨_, h3⟩
        exact .inr ⟨_, h1, h2, h3⟩
      · rintro (h3 | ⟨y, h3, h4, h5⟩)
        · exact absurd h3 h
        · have := sorted_mem_inj hs h3 h1 (h4.trans h2.symm)
          exact ⟨rfl, by rw [← this]; exact h5⟩
    · rw [if_neg hh]
      constructor
      · rintro ⟨h1, _⟩
        cases h1
      · rintro (h3 | ⟨y, h3, h4, h5⟩)
        · exact absurd h3 h
        · exact absurd ((hasE_iff hs).2 ⟨y, h3, h4⟩) hh
theorem checkT_iff {l : List Entry} : checkT l = 0 ↔ FullT l := by
  constructor
  · intro h
    unfold checkT at h
    have h1 : (l.length : Int) ≤ 60 := by grind
    have h2 : firstErr entErr l = 0 := by grind
    have h3 : sortedB l = true := by grind
    have h4 : parsB l = true := by grind
    have h5 : parfB l = true := by grind
    have hs := sortedB_iff.1 h3
    exact ⟨by omega, firstErr_0.1 h2, hs, fun x hx => (parE_in hs).1 ⟨List.all_eq_true.1 h4 x hx, List.all_eq_true.1 h5 x hx⟩⟩
  · rintro ⟨h1, h2, h3, h4⟩
    have e2 : firstErr entErr l = 0 := firstErr_0.2 h2
    have e3 : sortedB l = true := sortedB_iff.2 h3
    have e4 : parsB l = true := List.all_eq_true.2 fun x hx => ((parE_in h3).2 (h4 x hx)).1
    have e5 : parfB l = true := List.all_eq_true.2 fun x hx => ((parE_in h3).2 (h4 x hx)).2
    rw [checkT, if_neg (by omega), if_neg (by simpa using e2), if_neg (by simp [e3]), if_neg (by simp [e4]), if_neg (by simp [e5])]
theorem FullT.path {l : List Entry} (h : FullT l) {x : Entry} (hx : x ∈ l) : checkP [x.path] = 0 := entErr_path (h.ents x hx)
theorem FullT.ok {l : List Entry} (h : FullT l) : okE l := by
  refine ⟨by have := h.len; omega, fun x hx => ⟨by have := checkP_len (h.path hx); omega, ?_⟩⟩
  have := h.ents x hx
  unfold entErr at this
  grind
theorem FullT.good {l : List Entry} (h : FullT l) : GoodT l := checkT_good h.ok (checkT_iff.2 h)
theorem isIn_refl (p : Str) : isIn p p = true := (isIn_iff p p).2 (.inl rfl)
theorem isIn_trans {a b c : Str} (h : isIn a b = true) (k : isIn b c = true) : isIn a c = true := by
  rw [isIn_iff] at *
  rcases h with rfl | ⟨t, rfl⟩
  · exact k
  · rcases k with rfl | ⟨u, rfl⟩
    · exact .inr ⟨t, rfl⟩
    · exact .inr ⟨u ++ 47 :: t, by simp⟩
/-- a path that is not of one name is its front, a slash and its last name -/
theorem front_eq {p : Str} (h : headOf p ≠ []) : p = headOf p ++ 47 :: tailOf p := by
  rcases cut_last p with hp | ⟨f, x, rfl, hx⟩
  · exact absurd (headOf_no hp) h
  · rw [headOf_join hx, tailOf_join hx]
theorem in_front {p : Str} (h : headOf p ≠ []) : isIn p (headOf p) = true := by
  rw [isIn_iff]
  exact .inr ⟨tailOf p, front_eq h⟩
theorem front_lt {p : Str} (h : headOf p ≠ []) : (headOf p).length < p.length := by
  have := congrArg List.length (front_eq h)
  simp at this
  omega
theorem front_ne {p : Str} (h : headOf p ≠ []) : headOf p ≠ p := fun e => by
  have := front_lt h
  rw [e] at this
  omega
/-- what is properly within something has its front in it -/
theorem front_in {p q : Str} (h : isIn p q = true) (hne : p ≠ q) (hp : 47 ∉ tailOf p) : isIn (headOf p) q = true ∧ headOf p = q ++ (headOf p).drop q.length := by
  rw [isIn_iff] at h
  rcases h with h | ⟨t, rfl⟩
  · exact absurd h hne
  · rcases cut_last t with ht | ⟨f, x, rfl, hx⟩
    · rw [headOf_join ht]
      exact ⟨isIn_refl q, by simp⟩
    · rw [show q ++ 47 :: (f ++ 47 :: x) = (q ++ 47 :: f) ++ 47 :: x by simp, headOf_join hx]
      exact ⟨(isIn_iff _ _).2 (.inr ⟨f, rfl⟩), by simp⟩
theorem tail_no (p : Str) : 47 ∉ tailOf p := by
  rcases cut_last p with hp | ⟨f, x, rfl, hx⟩
  · rw [tailOf_no hp]; exact hp
  · rw [tailOf_join hx]; exact hx
theorem front_in' {p q : Str} (h : isIn p q = true) (hne : p ≠ q) : isIn (headOf p) q = true := (front_in h hne (tail_no p)).1
theorem front_ne_nil {p q : Str} (hq : q ≠ []) (h : isIn p q = true) (hne : p ≠ q) : headOf p ≠ [] := fun e => by
  have := isIn_len (front_in' h hne)
  rw [e] at this
  have : q.length = 0 := by simpa using this
  exact hq (List.length_eq_zero_iff.1 this)
/-- the front of a moved path -/
theorem front_moved {p f : Str} (t : Str) (h : isIn p f = true) (hne : p ≠ f) : headOf (t ++ p.drop f.length) = t ++ (headOf p).drop f.length := by
  rw [isIn_iff] at h
  rcases h with h | ⟨u, rfl⟩
  · exact absurd h hne
  · rw [List.drop_left]
    rcases cut_last u with hu | ⟨g, x, rfl, hx⟩
    · rw [headOf_join hu, headOf_join hu]
      simp
    · rw [show f ++ 47 :: (g ++ 47 :: x) = (f ++ 47 :: g) ++ 47 :: x by simp, show t ++ 47 :: (g ++ 47 :: x) = (t ++ 47 :: g) ++ 47 :: x by simp, headOf_join hx, headOf_join hx, List.drop_left]
theorem moved_eq_top {p f t : Str} (h : isIn p f = true) : t ++ p.drop f.length = t ↔ p = f := by
  rw [isIn_iff] at h
  rcases h with rfl | ⟨u, rfl⟩
  · simp
  · simp
theorem moved_inj {p q f t : Str} (hp : isIn p f = true) (hq : isIn q f = true) (h : t ++ p.drop f.length = t ++ q.drop f.length) : p = q := by
  have h := List.append_cancel_left h
  have e : ∀ {x : Str}, isIn x f = true → x = f ++ x.drop f.length := by
    intro x hx
    rw [isIn_iff] at hx
    rcases hx with rfl | ⟨u, rfl⟩
    · simp
    · simp
  rw [e hp, e hq, h]
theorem FullT.anc {l : List Entry} (g : FullT l) {q : Str} (hq : q ≠ []) : ∀ (n : Nat) (x : Entry), x.path.length ≤ n → x ∈ l → isIn x.path q = true → ∃ y ∈ l, y.path = q ∧ (x.path ≠ q → y.folder = true)
  | 0, x, hn, hx, h => by
    have := isIn_len h
    have : q.length = 0 := by omega
    exact absurd (List.length_eq_zero_iff.1 this) hq
  | n + 1, x, hn, hx, h => by
    by_cases he : x.path = q
    · exact ⟨x, hx, he, fun hne => absurd he hne⟩
    · have h1 := front_in' h he
      have h2 := front_ne_nil hq h he
      rcases g.par x hx with h3 | ⟨y, hy, hy2, hy3⟩
      · exact absurd h3 h2
      · obtain ⟨z, hz, hz2, hz3⟩ := FullT.anc g hq n y (by rw [hy2]; have := front_lt h2; omega) hy (by rw [hy2]; exact h1)
        refine ⟨z, hz, hz2, fun _ => ?_⟩
        by_cases hyq : y.path = q
        · have := sorted_mem_inj g.sorted hz hy (hz2.trans hyq.symm)
          rw [this]; exact hy3
        · exact hz3 hyq
theorem FullT.above {l : List Entry} (g : FullT l) {q : Str} (hq : q ≠ []) {x : Entry} (hx : x ∈ l) (h : isIn x.path q = true) : ∃ y ∈ l, y.path = q ∧ (x.path ≠ q → y.folder = true) :=
  g.anc hq _ x (Nat.le_refl _) hx h
theorem pass_ne {p : Str} (h : checkP [p] = 0) : p ≠ [] := by
  rintro rfl
  have := ((checkP_iff []).1 h).1 [] (by simp [pcs])
  exact isName_ne this rfl
theorem foldl_put_mem : ∀ (g t : List Entry), SortedE t → (g.Pairwise fun a b => a.path ≠ b.path) → ∀ y, y ∈ g.foldl putE t ↔ y ∈ g ∨ (y ∈ t ∧ ∀ z ∈ g, z.path ≠ y.path)
  | [], t, _, _, y => by simp
  | x :: g, t, ht, hg, y => by
    obtain ⟨h1, h2⟩ := List.pairwise_cons.1 hg
    rw [List.foldl_cons, foldl_put_mem g _ (putE_sorted ht x) h2 y, putE_mem ht]
    constructor
    · rintro (h | ⟨h | ⟨h, h3⟩, h4⟩)
      · exact .inl (by simp [h])
      · exact .inl (by simp [h])
      · refine .inr ⟨h, fun z hz => ?_⟩
        rcases List.mem_cons.1 hz with rfl | hz
        · exact fun e => h3 e.symm
        · exact h4 z hz
    · rintro (h | ⟨h, h3⟩)
      · rcases List.mem_cons.1 h with rfl | h
        · exact .inr ⟨.inl rfl, fun z hz e => h1 z hz e.symm⟩
        · exact .inl h
      · exact .inr ⟨.inr ⟨h, fun e => h3 x (by simp) e.symm⟩, fun z hz => h3 z (by simp [hz])⟩
theorem goes_pair {l : List Entry} (hs : SortedE l) (c : Change) (v : Int) : (goesP l c v).Pairwise fun a b => a.path ≠ b.path := by
  unfold goesP
  rw [List.pairwise_map]
  have h : (l.filter (inB c.path)).Pairwise fun a b => a.path < b.path := filter_sorted hs _
  refine (List.pairwise_iff_forall_sublist.2 fun {a b} hab => ?_)
  have hlt := List.pairwise_iff_forall_sublist.1 h hab
  have ha : a ∈ l.filter (inB c.path) := hab.subset (by simp)
  have hb : b ∈ l.filter (inB c.path) := hab.subset (by simp)
  intro e
  have := moved_inj (List.mem_filter.1 ha).2 (List.mem_filter.1 hb).2 e
  rw [this] at hlt
  exact lt_irrefl' _ hlt
end Go.VM.Tryd
end
