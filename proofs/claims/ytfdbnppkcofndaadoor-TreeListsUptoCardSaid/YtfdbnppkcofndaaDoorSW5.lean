import Derived.Test.YtfdbnppkcofndaaDoorSW4
section
set_option linter.unusedVariables false
set_option linter.unusedSimpArgs false
open Go Go.VM Go.Proofs Tether
namespace Go.VM.Tryd
structure MayT (l : List Entry) (c : Change) : Prop where
  par : headOf (goalP c) = [] ∨ ∃ y ∈ l, y.path = headOf (goalP c) ∧ y.folder = true
  new : c.kind = 1 → ∀ x ∈ l, x.path ≠ c.path
  file : c.kind = 2 → ∀ x ∈ l, x.path = c.path → x.folder = false
  is : c.kind ≠ 1 → c.kind ≠ 2 → ∃ x ∈ l, x.path = c.path
  apart : c.kind = 3 → isIn c.to c.path = false
  free : c.kind = 3 → ∀ x ∈ l, x.path ≠ c.to
theorem has_no {l : List Entry} (hs : SortedE l) {p : Str} (h : hasE l p = false) : ∀ x ∈ l, x.path ≠ p := fun x hx e => by
  rw [(hasE_iff hs).2 ⟨x, hx, e⟩] at h
  cases h
theorem may_iff {l : List Entry} (hs : SortedE l) {c : Change} (h : mayP l c = 0) : MayT l c := by
  have h1 : (parE l (goalP c)).2 = true ∧ (parE l (goalP c)).1.folder = true := by unfold mayP at h; grind
  have h2 : c.kind = 1 → hasE l c.path = false := by unfold mayP at h; grind
  have h3 : c.kind = 2 → hasE l c.path = true → (l.getD (eIx l c.path) default).folder = false := by unfold mayP at h; grind
  have h4 : c.kind ≠ 1 → c.kind ≠ 2 → hasE l c.path = true := by unfold mayP at h; grind
  have h5 : c.kind = 3 → isIn c.to c.path = false := by unfold mayP at h; grind
  have h6 : c.kind = 3 → hasE l c.to = false := by unfold mayP at h; grind
  refine ⟨(parE_in hs).1 h1, fun k => has_no hs (h2 k), fun k x hx e => ?_, fun k1 k2 => (hasE_iff hs).1 (h4 k1 k2), h5, fun k => has_no hs (h6 k)⟩
  have hh := (hasE_iff hs).2 ⟨x, hx, e⟩
  have hf := findE_eq hs c.path
  rw [if_pos hh] at hf
  obtain ⟨q1, q2⟩ := findE_some hf
  rw [sorted_mem_inj hs hx q1 (e.trans q2.symm)]
  exact h3 k hh
theorem may_of {l : List Entry} (hs : SortedE l) {c : Change} (hk : 1 ≤ c.kind ∧ c.kind ≤ 4) (m : MayT l c) (hst : c.base ≠ -1 → ∀ x ∈ l, staleB c x = false) : mayP l c = 0 := by
  obtain ⟨h1, h2⟩ := (parE_in hs).2 m.par
  have h3 : c.kind = 1 → hasE l c.path = false := fun k => by
    cases hh : hasE l c.path with
    | false => rfl
    | true => obtain ⟨x, hx, e⟩ := (hasE_iff hs).1 hh; exact absurd e (m.new k x hx)
  have h4 : c.kind = 2 → hasE l c.path = true → (l.getD (eIx l c.path) default).folder = false := fun k hh => by
    have hf := findE_eq hs c.path
    rw [if_pos hh] at hf
    obtain ⟨q1, q2⟩ := findE_some hf
    exact m.file k _ q1 q2
  have h5 : c.kind ≠ 1 → c.kind ≠ 2 → hasE l c.path = true := fun k1 k2 => (hasE_iff hs).2 (m.is k1 k2)
  have h6 := m.apart
  have h7 : c.kind = 3 → hasE l c.to = false := fun k => by
    cases hh : hasE l c.to with
    | false => rfl
    | true => obtain ⟨x, hx, e⟩ := (hasE_iff hs).1 hh; exact absurd e (m.free k x hx)
  have h8 : c.base ≠ -1 → l.any (staleB c) = false := fun hb => by
    rw [List.any_eq_false]
    intro x hx
    simp [hst hb x hx]
  unfold mayP
  grind
theorem goes_mem {l : List Entry} {c : Change} {v : Int} {y : Entry} : y ∈ goesP l c v ↔ ∃ x ∈ l, isIn x.path c.path = true ∧ mvE c v x = y := by
  unfold goesP
  rw [List.mem_map]
  constructor
  · rintro ⟨x, hx, e⟩
    exact ⟨x, (List.mem_filter.1 hx).1, (List.mem_filter.1 hx).2, e⟩
  · rintro ⟨x, hx, h, e⟩
    exact ⟨x, List.mem_filter.2 ⟨hx, h⟩, e⟩
theorem goes_in {l : List Entry} {c : Change} {v : Int} {y : Entry} (h : y ∈ goesP l c v) : isIn y.path c.to = true := by
  obtain ⟨x, hx, h1, rfl⟩ := goes_mem.1 h
  exact moved_in c.to h1
/-- nothing is where nothing may be -/
theorem FullT.clear {l : List Entry} (g : FullT l) {q : Str} (hq : checkP [q] = 0) (h : ∀ x ∈ l, x.path ≠ q) : ∀ x ∈ l, isIn x.path q = false := by
  intro x hx
  cases hi : isIn x.path q with
  | false => rfl
  | true =>
    obtain ⟨y, hy, e, _⟩ := g.above (pass_ne hq) hx hi
    exact absurd e (h y hy)
/-- the members of a moved tree -/
theorem movedL_mem {l : List Entry} {c : Change} {v : Int} (g : FullT l) (m : MayT l c) (hk : c.kind = 3) (ht : checkP [c.to] = 0) {y : Entry} :
    y ∈ movedL l c v ↔ y ∈ goesP l c v ∨ (y ∈ l ∧ isIn y.path c.path = false) := by
  unfold movedL
  rw [foldl_put_mem _ _ (filter_sorted g.sorted _) (goes_pair g.sorted c v)]
  have hcl := g.clear ht (m.free hk)
  constructor
  · rintro (h | ⟨h, _⟩)
    · exact .inl h
    · obtain ⟨h1, h2⟩ := List.mem_filter.1 h
      exact .inr ⟨h1, by simpa [outB] using h2⟩
  · rintro (h | ⟨h1, h2⟩)
    · exact .inl h
    · refine .inr ⟨List.mem_filter.2 ⟨h1, by simpa [outB] using h2⟩, fun z hz e => ?_⟩
      have := goes_in hz
      rw [e, hcl y h1] at this
      cases this
theorem verB_iff {v : Int} : verB v = true ↔ 1 ≤ v ∧ v ≤ 1000000 := by simp [verB]
theorem entErr_iff {x : Entry} : entErr x = 0 ↔ checkP [x.path] = 0 ∧ ¬ (x.folder = true ∧ x.text ≠ []) ∧ x.text.length ≤ 300 ∧ 1 ≤ x.version ∧ x.version ≤ 1000000 := by
  unfold entErr
  grind
theorem form_text {c : Change} (h : formP c = 0) : c.text.length ≤ 300 := by
  unfold formP at h
  grind
/-- nothing is within something that is a file -/
theorem out_front {p q : Str} (h : isIn p q = false) (hp : headOf p ≠ []) : isIn (headOf p) q = false := by
  cases hi : isIn (headOf p) q with
  | false => rfl
  | true => rw [isIn_trans (in_front hp) hi] at h; cases h
theorem made_full {l : List Entry} {c : Change} {v : Int} (g : FullT l) (hv : verB v = true) (h : rawErr l c v = 0) : FullT (madeP l c v) := by
  obtain ⟨hf, hm, hd⟩ := raw_0 h
  obtain ⟨hgr, hlen⟩ := done_0 hd
  obtain ⟨hcp, hct⟩ := form_ok hf
  have hfk := form_kind hf
  have m := may_iff g.sorted hm
  have hver := verB_iff.1 hv
  have htx := form_text hf
  by_cases k1 : c.kind = 1
  · have e : madeP l c v = putE l ⟨c.path, true, [], v⟩ := by rw [madeP, if_pos k1]
    have hg : goalP c = c.path := by rw [goalP, if_neg (by omega)]
    rw [e] at hlen ⊢
    refine ⟨hlen, fun x hx => ?_, putE_sorted g.sorted _, fun x hx => ?_⟩
    · rcases (putE_mem g.sorted).1 hx with rfl | ⟨hx, _⟩
      · exact entErr_iff.2 ⟨hcp, by simp, by simp, hver.1, hver.2⟩
      · exact g.ents x hx
    · have keep : ∀ y ∈ l, y ∈ putE l ⟨c.path, true, [], v⟩ := fun y hy => (putE_mem g.sorted).2 (.inr ⟨hy, m.new k1 y hy⟩)
      rcases (putE_mem g.sorted).1 hx with rfl | ⟨hx, _⟩
      · have := m.par
        rw [hg] at this
        rcases this with h | ⟨y, hy, h1, h2⟩
        · exact .inl h
        · exact .inr ⟨y, keep y hy, h1, h2⟩
      · rcases g.par x hx with h | ⟨y, hy, h1, h2⟩
        · exact .inl h
        · exact .inr ⟨y, keep y hy, h1, h2⟩
  · by_cases k2 : c.kind = 2
    · have e : madeP l c v = putE l ⟨c.path, false, c.text, v⟩ := by rw [madeP, if_neg k1, if_pos k2]
      have hg : goalP c = c.path := by rw [goalP, if_neg (by omega)]
      rw [e] at hlen ⊢
      refine ⟨hlen, fun x hx => ?_, putE_sorted g.sorted _, fun x hx => ?_⟩
      · rcases (putE_mem g.sorted).1 hx with rfl | ⟨hx, _⟩
        · exact entErr_iff.2 ⟨hcp, by simp, htx, hver.1, hver.2⟩
        · exact g.ents x hx
      · have keep : ∀ y ∈ l, y.folder = true → y ∈ putE l ⟨c.path, false, c.text, v⟩ := fun y hy hfy => (putE_mem g.sorted).2 (.inr ⟨hy, fun e => by rw [m.file k2 y hy e] at hfy; cases hfy⟩)
        rcases (putE_mem g.sorted).1 hx with rfl | ⟨hx, _⟩
        · have := m.par
          rw [hg] at this
          rcases this with h | ⟨y, hy, h1, h2⟩
          · exact .inl h
          · exact .inr ⟨y, keep y hy h2, h1, h2⟩
        · rcases g.par x hx with h | ⟨y, hy, h1, h2⟩
          · exact .inl h
          · exact .inr ⟨y, keep y hy h2, h1, h2⟩
    · by_cases k4 : c.kind = 4
      · have e : madeP l c v = l.filter (outB c.path) := by rw [madeP, if_neg k1, if_neg k2, if_pos k4]
        rw [e] at hlen ⊢
        refine ⟨hlen, fun x hx => g.ents x (List.mem_filter.1 hx).1, filter_sorted g.sorted _, fun x hx => ?_⟩
        obtain ⟨h1, h2⟩ := List.mem_filter.1 hx
        have h2 : isIn x.path c.path = false := by simpa [outB] using h2
        by_cases h0 : headOf x.path = []
        · exact .inl h0
        · rcases g.par x h1 with h | ⟨y, hy, h3, h4⟩
          · exact .inl h
          · exact .inr ⟨y, List.mem_filter.2 ⟨hy, by simp [outB, h3, out_front h2 h0]⟩, h3, h4⟩
      · have k3 : c.kind = 3 := by omega
        have e : madeP l c v = movedL l c v := by rw [madeP, if_neg k1, if_neg k2, if_neg k4, if_pos k3]
        have ht := hct k3
        have hmem : ∀ {y : Entry}, y ∈ movedL l c v ↔ y ∈ goesP l c v ∨ (y ∈ l ∧ isIn y.path c.path = false) := movedL_mem g m k3 ht
        have hg : goalP c = c.to := by rw [goalP, if_pos k3]
        rw [e] at hlen ⊢
        refine ⟨hlen, fun x hx => ?_, foldl_put_sorted _ (filter_sorted g.sorted _), fun x hx => ?_⟩
        · rcases hmem.1 hx with h1 | ⟨h1, _⟩
          · have hp := goes_path (fun y hy => g.path hy) ht (hgr k3) h1
            obtain ⟨y, hy, h2, rfl⟩ := goes_mem.1 h1
            obtain ⟨q1, q2, q3, q4, q5⟩ := entErr_iff.1 (g.ents y hy)
            refine entErr_iff.2 ⟨hp, q2, q3, ?_⟩
            show 1 ≤ (if y.path = c.path then v else y.version) ∧ (if y.path = c.path then v else y.version) ≤ 1000000
            split
            · exact hver
            · exact ⟨q4, q5⟩
          · exact g.ents x h1
        · rcases hmem.1 hx with h1 | ⟨h1, h2⟩
          · obtain ⟨y, hy, h2, rfl⟩ := goes_mem.1 h1
            by_cases hyp : y.path = c.path
            · have hxp : (mvE c v y).path = c.to := by show c.to ++ y.path.drop c.path.length = c.to; rw [(moved_eq_top h2).2 hyp]
              rw [hxp]
              have hpar := m.par
              rw [hg] at hpar
              rcases hpar with h | ⟨z, hz, h3, h4⟩
              · exact .inl h
              · by_cases h0 : headOf c.to = []
                · exact .inl h0
                · refine .inr ⟨z, hmem.2 (.inr ⟨hz, ?_⟩), h3, h4⟩
                  rw [h3]
                  exact out_front (m.apart k3) h0
            · have hne := front_ne_nil (pass_ne hcp) h2 hyp
              rcases g.par y hy with h | ⟨z, hz, h3, h4⟩
              · exact absurd h hne
              · right
                have hzin : isIn z.path c.path = true := by rw [h3]; exact front_in' h2 hyp
                refine ⟨mvE c v z, hmem.2 (.inl (goes_mem.2 ⟨z, hz, hzin, rfl⟩)), ?_, h4⟩
                show c.to ++ z.path.drop c.path.length = headOf (c.to ++ y.path.drop c.path.length)
                rw [front_moved c.to h2 hyp, h3]
          · by_cases h0 : headOf x.path = []
            · exact .inl h0
            · rcases g.par x h1 with h | ⟨y, hy, h3, h4⟩
              · exact .inl h
              · exact .inr ⟨y, hmem.2 (.inr ⟨hy, by rw [h3]; exact out_front h2 h0⟩), h3, h4⟩
theorem apply_0 {l : List Entry} {c : Change} {v : Int} (h : applyErr l c v = 0) : FullT l ∧ verB v = true ∧ rawErr l c v = 0 ∧ applyP l c v = madeP l c v := by
  have hp : applyP l c v = madeP l c v := by rw [applyP, if_pos h]
  unfold applyErr at h
  have h1 : checkT l = 0 := by grind
  have h2 : verB v = true := by grind
  have h3 : rawErr l c v = 0 := by grind
  exact ⟨checkT_iff.1 h1, h2, h3, hp⟩
theorem apply_of {l : List Entry} {c : Change} {v : Int} (g : FullT l) (hv : verB v = true) (h : rawErr l c v = 0) : applyErr l c v = 0 := by
  rw [applyErr, if_neg (by simp [checkT_iff.2 g]), if_neg (by simp [hv]), h]
end Go.VM.Tryd
end
section
set_option linter.unusedVariables false
set_option linter.unusedSimpArgs false
open Go Go.VM Go.Proofs Tether
namespace Go.VM.Tryd
set_option maxRecDepth 100000
def shapeE (x : Entry) : Str × Bool × Str := (x.path, x.folder, x.text)
def likeL (a b : List Entry) : Bool := decide (a.map shapeE = b.map shapeE)
theorem LikeTrees_c (a b : List Entry) (ha : a.length < 4611686018427387904) (hb : b.length < 4611686018427387904) : Meets Tryd.prog 21 [esV a, esV b] (.bool (likeL a b)) [] := by
  refine meets_x (fn := Tryd.f21) Tryd.func21 rfl fb21 (by kernel_rfl) (Nat.le_of_ble_eq_true rfl) ?_
  refine cx_sr ?_
  simp only [go_sem]
  repeat first | (with_reducible refine side_d ?_ ?_; exact byD) | (with_reducible refine side_q ?_ ?_; exact byQ)
  refine cx_seq ?_
  refine cx_sr ?_
  simp only [go_sem]
  repeat first | (with_reducible refine side_d ?_ ?_; exact byD) | (with_reducible refine side_q ?_ ?_; exact byQ)
  intro t10 e10
  repeat first | (with_reducible refine side_d ?_ ?_; exact byD) | (with_reducible refine side_q ?_ ?_; exact byQ)
  subst e10
  refine cx_if _ rfl (fun h10 => ?_) (fun h10 => ?_)
  ·
    (try simp only [go_sem] at h10)
    refine cx_sr ?_
    simp only [go_sem]
    repeat first | (with_reducible refine side_d ?_ ?_; exact byD) | (with_reducible refine side_q ?_ ?_; exact byQ)
    refine cx_ret ?_
    simp only [go_sem]
    refine finw_bool ?_
    have : ¬ a.map shapeE = b.map shapeE := fun e => by
      have := congrArg List.length e
      simp only [List.length_map] at this
      grind
    simp [likeL, this]
  ·
    (try simp only [go_sem] at h10)
    refine cx_skip ?_
    (try simp only [go_sem])
    refine cx_seq ?_
    refine cx_sr ?_
    simp only [go_sem]
    repeat first | (with_reducible refine side_d ?_ ?_; exact byD) | (with_reducible refine side_q ?_ ?_; exact byQ)
    refine cx_block ?_
    refine cx_loop0 (σ := Nat) (fun i => i ≤ a.length ∧ ∀ j, j < i → shapeE (a.getD j default) = shapeE (b.getD j default)) (fun i => [⟨5, 0, [], .int .i64 (i : Nat)⟩]) [0, 1] (fun i => a.length - i) 0 ⟨Nat.zero_le _, fun j hj => absurd hj (Nat.not_lt_zero j)⟩ (Nat.zero_le _) byC (fun i hI1 => ?_)
    simp only [go_sem]
    refine cx_seq ?_
    refine cx_sr ?_
    simp only [go_sem]
    repeat first | (with_reducible refine side_d ?_ ?_; exact byD) | (with_reducible refine side_q ?_ ?_; exact byQ)
    intro t14 e14
    repeat first | (with_reducible refine side_d ?_ ?_; exact byD) | (with_reducible refine side_q ?_ ?_; exact byQ)
    subst e14
    refine cx_if _ rfl (fun h14 => ?_) (fun h14 => ?_)
    ·
      (try simp only [go_sem] at h14)
      refine cx_skip ?_
      (try simp only [go_sem])
      refine cx_seq (cx_block ?_)
      refine cx_seq (cx_draw mixed [] (.first 0 (.first 1 (.first 2 (.first 3 (.first 4 (.first 5 (.first 6 (.first 7 (.first 8 (.first 9 (.first 10 (.first 11 (.first 12 (.first 13 (.first 14 (.first 15 (.first 16 (.first 17 (.first 18 (.first 19 (.first 20 (.first 21 (.first 22 (.first 23 (.first 24 (.first 25 (.first 26 (.first 27 (.first 28 (.first 29 (.first 30 (.first 31 (.first 32 (.first 33 (.first 34 (.first 35 (.first 36 (.done)))))))))))))))))))))))))))))))))))))) (by kernel_rfl) ?_)
      simp only [go_sem]
      repeat first | (with_reducible refine side_d ?_ ?_; exact byD) | (with_reducible refine side_q ?_ ?_; exact byQ)
      intro t27 e27
      repeat first | (with_reducible refine side_d ?_ ?_; exact byD) | (with_reducible refine side_q ?_ ?_; exact byQ)
      intro t39 e39
      repeat first | (with_reducible refine side_d ?_ ?_; exact byD) | (with_reducible refine side_q ?_ ?_; exact byQ)
      intro t40 e40
      rw [bsel_or] at e40
      repeat first | (with_reducible refine side_d ?_ ?_; exact byD) | (with_reducible refine side_q ?_ ?_; exact byQ)
      intro t52 e52
      repeat first | (with_reducible refine side_d ?_ ?_; exact byD) | (with_reducible refine side_q ?_ ?_; exact byQ)
      intro t53 e53
      rw [bsel_or] at e53
      repeat first | (with_reducible refine side_d ?_ ?_; exact byD) | (with_reducible refine side_q ?_ ?_; exact byQ)
      subst e27 e39 e40 e52 e53
      refine cx_if _ rfl (fun h53 => ?_) (fun h53 => ?_)
      ·
        (try simp only [go_sem] at h53)
        refine cx_sr ?_
        simp only [go_sem]
        repeat first | (with_reducible refine side_d ?_ ?_; exact byD) | (with_reducible refine side_q ?_ ?_; exact byQ)
        refine cx_ret ?_
        simp only [go_sem]
        refine finw_bool ?_
        have : ¬ a.map shapeE = b.map shapeE := fun e => by
          have h1 := congrArg (fun z => z[i]?) e
          simp only [List.getElem?_map, List.getElem?_eq_getElem (show i < a.length by omega), List.getElem?_eq_getElem (show i < b.length by omega), Option.map_some, Option.some.injEq] at h1
          have e1 : a.getD i default = a[i] := by simp [List.getD, show i < a.length by omega]
          have e2 : b.getD i default = b[i] := by simp [List.getD, show i < b.length by omega]
          rw [e1, e2] at h53
          unfold shapeE at h1
          grind
        simp [likeL, this]
      ·
        (try simp only [go_sem] at h53)
        refine cx_skip ?_
        (try simp only [go_sem])
        refine cx_region ?_
        simp only [go_sem]
        repeat first | (with_reducible refine side_d ?_ ?_; exact byD) | (with_reducible refine side_q ?_ ?_; exact byQ)
        intro t16 e16
        (try replace e16 := w64 e16 (by omega) (by omega))
        repeat first | (with_reducible refine side_d ?_ ?_; exact byD) | (with_reducible refine side_q ?_ ?_; exact byQ)
        have hk : shapeE (a.getD i default) = shapeE (b.getD i default) := by unfold shapeE; grind
        refine rnd_next (i + 1) ⟨by omega, all_next hI1.2 hk⟩ (by first | omega | (dsimp only; omega)) byC
    ·
      (try simp only [go_sem] at h14)
      refine cx_exit ?_
      simp only [go_sem]
      refine cx_sr ?_
      simp only [go_sem]
      repeat first | (with_reducible refine side_d ?_ ?_; exact byD) | (with_reducible refine side_q ?_ ?_; exact byQ)
      refine cx_ret ?_
      simp only [go_sem]
      refine finw_bool ?_
      have : a.map shapeE = b.map shapeE := by
        apply List.ext_getElem (by simp; omega)
        intro i h1 h2
        simp only [List.length_map] at h1 h2
        have := hI1.2 i (by omega)
        simpa [List.getD, h1, h2] using this
      simp [likeL, this]
end Go.VM.Tryd
end
