import Derived.Test.YtkcbjhjpepdkcaaTR
set_option linter.unusedVariables false
set_option linter.unusedSimpArgs false
open Go Go.VM
namespace Tether
theorem wrap_id {n : Int} (h1 : -9223372036854775808 ≤ n) (h2 : n ≤ 9223372036854775807) : wrap n = n := by
  simp only [wrap, IntKind.wrap_i64]
  omega
/-- somebody's sizes together -/
def sumW (who : Str) : List Session → Int
  | [] => 0
  | s :: l => (if s.who = who then s.size else 0) + sumW who l
theorem sumW_bound {who : Str} : ∀ {l : List Session}, (∀ s ∈ l, 0 ≤ s.size ∧ s.size ≤ 300) → 0 ≤ sumW who l ∧ sumW who l ≤ 300 * (l.length : Int)
  | [], _ => by simp [sumW]
  | s :: l, h => by
    have h1 := sumW_bound (who := who) (l := l) fun x hx => h x (List.mem_cons_of_mem _ hx)
    have h2 := h s (List.mem_cons.2 (Or.inl rfl))
    simp only [sumW, List.length_cons]
    split <;> omega
theorem openW_acc {who : Str} : ∀ (l : List Session) (a : Int), 0 ≤ a → (∀ s ∈ l, 0 ≤ s.size ∧ s.size ≤ 300) → a + 300 * (l.length : Int) ≤ 1099511627776 →
    l.foldl (fun n s => if s.who = who then wrap (n + s.size) else n) a = a + sumW who l
  | [], a, _, _, _ => by simp [sumW]
  | s :: l, a, h0, h, hb => by
    have h2 := h s (List.mem_cons.2 (Or.inl rfl))
    have h3 : ∀ x ∈ l, 0 ≤ x.size ∧ x.size ≤ 300 := fun x hx => h x (List.mem_cons_of_mem _ hx)
    simp only [List.length_cons] at hb
    simp only [List.foldl_cons, sumW]
    split
    · rw [wrap_id (by omega) (by omega), openW_acc l _ (by omega) h3 (by omega)]
      omega
    · rw [openW_acc l a h0 h3 (by omega)]
      omega
theorem openW_sum {who : Str} {l : List Session} (h : ∀ s ∈ l, 0 ≤ s.size ∧ s.size ≤ 300) (hl : l.length ≤ 1000) : openW l who = sumW who l := by
  unfold openW
  rw [openW_acc l 0 (by omega) h (by omega)]
  omega
theorem sumW_append {who : Str} (l m : List Session) : sumW who (l ++ m) = sumW who l + sumW who m := by
  induction l with
  | nil => simp [sumW]
  | cons s l ih => simp only [List.cons_append, sumW, ih]; omega
theorem sumW_filter {who : Str} {p : Session → Bool} : ∀ {l : List Session}, (∀ s ∈ l, 0 ≤ s.size) → sumW who (l.filter p) ≤ sumW who l
  | [], _ => by simp [sumW]
  | s :: l, h => by
    have h1 := sumW_filter (who := who) (p := p) (l := l) fun x hx => h x (List.mem_cons_of_mem _ hx)
    have h2 := h s (List.mem_cons.2 (Or.inl rfl))
    rw [List.filter_cons]
    split
    · simp only [sumW]; omega
    · simp only [sumW]; split <;> omega
theorem sessErr_iff {u : Uploads} {s : Session} : sessErr u s = 0 ↔ (1 ≤ s.num ∧ s.num ≤ wrap (u.next - 1)) ∧ (0 ≤ s.size ∧ s.size ≤ 300) ∧ (0 ≤ s.till ∧ s.till ≤ 2199023255552) ∧ isName s.who = true ∧ (s.text.length : Int) ≤ s.size := by
  unfold sessErr
  constructor
  · intro h
    split at h
    · simp at h
    rename_i h1
    split at h
    · simp at h
    rename_i h2
    split at h
    · simp at h
    rename_i h3
    simp only [Bool.or_eq_true, Bool.not_eq_true', not_or, Bool.not_eq_false, within_iff] at h1
    exact ⟨h1.1.1, h1.1.2, h1.2, by simpa using h2, by omega⟩
  · rintro ⟨h1, h2, h3, h4, h5⟩
    rw [if_neg, if_neg (by simp [h4]), if_neg (by omega)]
    simp [within_iff.2 h1, within_iff.2 h2, within_iff.2 h3]
theorem rises_iff {l : List Session} : ((List.range l.length).all fun i => i = 0 || risesAt l i) = true ↔ l.Pairwise fun a b => a.num < b.num := by
  rw [List.all_eq_true]
  constructor
  · intro h
    have step : ∀ j, j + 1 < l.length → (l.getD j default).num < (l.getD (j + 1) default).num := fun j hj => by
      have := h (j + 1) (List.mem_range.2 hj)
      simpa [risesAt] using this
    have key : ∀ j i, i < j → j < l.length → (l.getD i default).num < (l.getD j default).num := by
      intro j
      induction j with
      | zero => intro i hi; omega
      | succ j ih =>
        intro i hi hj
        rcases Nat.lt_or_ge i j with h1 | h1
        · exact Int.lt_trans (ih i h1 (by omega)) (step j hj)
        · obtain rfl : i = j := by omega
          exact step i hj
    rw [List.pairwise_iff_getElem]
    intro i j hi hj hij
    have := key j i hij hj
    simpa [List.getD, hi, hj] using this
  · intro h i hi
    have hi := List.mem_range.1 hi
    by_cases h0 : i = 0
    · simp [h0]
    · rw [List.pairwise_iff_getElem] at h
      have := h (i - 1) i (by omega) hi (by omega)
      simp [risesAt, List.getD, hi, show i - 1 < l.length by omega, this]
theorem firstErr_zero {α : Type} {f : α → Int} {l : List α} : firstErr f l = 0 ↔ ∀ x ∈ l, f x = 0 := by
  induction l with
  | nil => simp [firstErr]
  | cons x l ih =>
    simp only [firstErr, List.mem_cons, forall_eq_or_imp]
    split
    · rename_i h; exact ⟨fun h' => absurd h' h, fun h' => absurd h'.1 h⟩
    · rename_i h
      rw [ih]
      exact ⟨fun h' => ⟨by simpa using h, h'⟩, fun h' => h'.2⟩
/-- what a list of uploads is that is in order -/
structure GoodU (u : Uploads) : Prop where
  lasts : 1 ≤ u.lasts ∧ u.lasts ≤ 1000000
  room : 0 ≤ u.room ∧ u.room ≤ 100000
  next : 1 ≤ u.next ∧ u.next ≤ 1099511627776
  len : u.ss.length ≤ 20
  sess : ∀ s ∈ u.ss, sessErr u s = 0
  rise : u.ss.Pairwise fun a b => a.num < b.num
  sums : ∀ s ∈ u.ss, sumW s.who u.ss ≤ u.room
theorem GoodU.sizes {u : Uploads} (h : GoodU u) : ∀ s ∈ u.ss, 0 ≤ s.size ∧ s.size ≤ 300 := fun s hs => (sessErr_iff.1 (h.sess s hs)).2.1
theorem checkU_iff {u : Uploads} : checkU u = 0 ↔ GoodU u := by
  constructor
  · intro h
    obtain ⟨h1, h2, h3, h4, h5⟩ := checkU_ok h
    have hz : ∀ s ∈ u.ss, 0 ≤ s.size ∧ s.size ≤ 300 := fun s hs => (sessErr_iff.1 (h5 s hs)).2.1
    unfold checkU at h
    split at h
    · simp at h
    split at h
    · simp at h
    split at h
    · rename_i h3; exact absurd h h3
    split at h
    · simp at h
    rename_i h6
    split at h
    · simp at h
    rename_i h7
    refine ⟨h1, h2, h3, h4, h5, rises_iff.1 (eq_true_of_ne_false h6), fun s hs => ?_⟩
    have := (List.all_eq_true.1 (eq_true_of_ne_false h7)) s hs
    rw [openW_sum hz (by omega)] at this
    simpa using this
  · intro h
    have h3 := firstErr_zero.2 h.sess
    unfold checkU
    rw [if_neg, if_neg, if_neg, if_neg, if_neg]
    · have : (u.ss.all fun s => decide (openW u.ss s.who ≤ u.room)) = true := List.all_eq_true.2 fun s hs => by
        rw [openW_sum h.sizes (by have := h.len; omega)]
        simpa using h.sums s hs
      simp [this]
    · rw [rises_iff.2 h.rise]; simp
    · simp [h3]
    · have := h.len; omega
    · simp [within_iff.2 h.lasts, within_iff.2 h.room, within_iff.2 h.next]
theorem GoodU.swept {u : Uploads} (h : GoodU u) (now : Int) : GoodU (swept u now) where
  lasts := h.lasts
  room := h.room
  next := h.next
  len := Nat.le_trans (List.length_filter_le _ _) h.len
  sess := fun s hs => h.sess s (List.mem_filter.1 hs).1
  rise := h.rise.filter _
  sums := fun s hs => Int.le_trans (sumW_filter fun x hx => (h.sizes x hx).1) (h.sums s (List.mem_filter.1 hs).1)
/-- behind an opening -/
structure Opened (u : Uploads) (who : Str) (size now : Int) (x : Uploads) : Prop where
  hnow : 0 ≤ now ∧ now ≤ 1099511627776
  hname : isName who = true
  good : GoodU u
  hsize : 0 ≤ size ∧ size ≤ 300
  next : u.next < 1099511627776
  ss : x.ss = (swept u now).ss ++ [⟨u.next, who, [], size, now + u.lasts⟩]
  rest : x.next = u.next + 1 ∧ x.lasts = u.lasts ∧ x.room = u.room
  out : (openU u who size now).1 = x ∧ (openU u who size now).2.1 = u.next ∧ (openU u who size now).2.2 = 0
  goodx : GoodU x
theorem opened {u : Uploads} {who : Str} {size now : Int} (h : openErr u who size now = 0) : ∃ x, Opened u who size now x := by
  have ho : openU u who size now = ({ swept u now with ss := (swept u now).ss ++ [⟨u.next, who, [], size, now + u.lasts⟩], next := u.next + 1 }, u.next, 0) := if_pos h
  unfold openErr at h
  split at h
  · rename_i h1; exact absurd h h1
  rename_i h1
  split at h
  · simp at h
  rename_i h2
  split at h
  · simp at h
  rename_i h3
  split at h
  · simp at h
  rename_i h4
  split at h
  · simp at h
  rename_i h5
  obtain ⟨hc, hn⟩ := begin_facts (u := u) (now := now) (by simpa using h1)
  have hg := checkU_iff.1 hc
  have hs := hg.swept now
  have hl := hs.len
  have hsz : 0 ≤ size ∧ size ≤ 300 := within_iff.1 (by have := not_or.1 h3; simpa using this.1)
  have hnx : u.next < 1099511627776 := by have := (not_or.1 h3).2; have := hg.next; omega
  have hnm : isName who = true := by simpa using h2
  have hsum : sumW who (swept u now).ss + size ≤ u.room := by
    rw [openW_sum hs.sizes (by omega)] at h5
    have := sumW_bound (who := who) hs.sizes
    rw [wrap_id (by omega) (by omega)] at h5
    omega
  refine ⟨Uploads.mk ((swept u now).ss ++ [⟨u.next, who, [], size, now + u.lasts⟩]) (u.next + 1) u.lasts u.room, hn, hnm, hg, hsz, hnx, rfl, ⟨rfl, rfl, rfl⟩, ⟨congrArg Prod.fst ho, congrArg (fun p => p.2.1) ho, congrArg (fun p => p.2.2) ho⟩, ?_⟩
  have hw1 : wrap (u.next - 1) = u.next - 1 := wrap_id (by have := hg.next; omega) (by omega)
  have hw2 : wrap (u.next + 1 - 1) = u.next := by rw [wrap_id (by have := hg.next; omega) (by omega)]; omega
  have hnum : ∀ s ∈ (swept u now).ss, s.num < u.next := fun s hm => by
    have := (sessErr_iff.1 (hg.sess s (List.mem_filter.1 hm).1)).1
    rw [hw1] at this
    omega
  refine ⟨hg.lasts, hg.room, ?_, ?_, ?_, ?_, ?_⟩
  · have := hg.next
    show 1 ≤ u.next + 1 ∧ u.next + 1 ≤ _
    omega
  · simp only [List.length_append, List.length_cons, List.length_nil]
    omega
  · intro s hm
    rw [sessErr_iff]
    show (1 ≤ s.num ∧ s.num ≤ wrap (u.next + 1 - 1)) ∧ _
    rw [hw2]
    rcases List.mem_append.1 hm with hm | hm
    · obtain ⟨h6, h7⟩ := sessErr_iff.1 (hs.sess s hm)
      exact ⟨⟨h6.1, Int.le_of_lt (hnum s hm)⟩, h7⟩
    · obtain rfl := List.mem_singleton.1 hm
      refine ⟨⟨hg.next.1, Int.le_refl _⟩, hsz, ?_, hnm, by simpa using hsz.1⟩
      have := hg.lasts
      show 0 ≤ now + u.lasts ∧ now + u.lasts ≤ _
      omega
  · rw [List.pairwise_append]
    refine ⟨hs.rise, by simp, fun a ha b hb => ?_⟩
    obtain rfl := List.mem_singleton.1 hb
    exact hnum a ha
  · intro s hm
    show sumW s.who ((swept u now).ss ++ _) ≤ u.room
    rw [sumW_append]
    simp only [sumW]
    rcases List.mem_append.1 hm with hm | hm
    · have := hs.sums s hm
      have hr : (swept u now).room = u.room := rfl
      split
      · rename_i he
        rw [← he]
        omega
      · omega
    · obtain rfl := List.mem_singleton.1 hm
      simp only [if_true]
      omega
theorem idxF_append_none {α : Type} {p : α → Bool} {l m : List α} (h : ∀ x ∈ l, p x = false) (hm : ∀ x ∈ m, p x = false) : idxF p (l ++ m) = -1 := by
  unfold idxF
  rw [List.findIdx?_eq_none_iff.2]
  intro x hx
  rcases List.mem_append.1 hx with hx | hx
  · exact h x hx
  · exact hm x hx
theorem Opened.num {u x : Uploads} {who : Str} {size now : Int} (h : Opened u who size now x) : ∀ s ∈ (swept u now).ss, s.num ≠ u.next := fun s hs => by
  have := (sessErr_iff.1 ((h.good.swept now).sess s hs)).1
  rw [swept_next, wrap_id (by have := h.good.next; omega) (by have := h.good.next; omega)] at this
  omega
theorem Opened.begin {u x : Uploads} {who : Str} {size now : Int} (h : Opened u who size now x) {t : Int} (h0 : 0 ≤ t) (h1 : t ≤ 1099511627776) : beginErr x t = 0 := by
  unfold beginErr
  rw [if_neg (by simpa using checkU_iff.2 h.goodx), if_neg (by simp [within_iff.2 ⟨h0, h1⟩])]
/-- nobody else has it -/
theorem Opened.other {u x : Uploads} {who other : Str} {size now : Int} (h : Opened u who size now x) : (queryU x other u.next now).2 = 1 ∨ ((queryU x other u.next now).2 = 0 ↔ other = who) := by
  have hb := h.begin h.hnow.1 h.hnow.2
  have hq : (queryU x other u.next now).2 = mineErr x other u.next now := by
    unfold queryU
    split
    · rename_i e; simp [e]
    · rfl
  rw [hq]
  by_cases hn : isName other = false
  · exact Or.inl (mineErr_n hb hn)
  right
  have hsw : (swept x now).ss = (swept u now).ss ++ [⟨u.next, who, [], size, now + u.lasts⟩] := by
    show x.ss.filter _ = _
    rw [h.ss, List.filter_append]
    have hl := h.good.lasts
    have : ¬ now + u.lasts < now := by omega
    congr 1
    · show (u.ss.filter _).filter _ = _
      rw [List.filter_filter]
      simp [swept]
    · simp [this]
  by_cases he : other = who
  · subst he
    have : ¬ mineIx x other u.next now < 0 := by
      unfold mineIx
      rw [hsw, idxF_at (i := (swept u now).ss.length) (d := default) (by simp)]
      · omega
      · intro j hj
        have hm : ((swept u now).ss ++ [Session.mk u.next other [] size (now + u.lasts)]).getD j default ∈ (swept u now).ss := by
          have e : ((swept u now).ss ++ [Session.mk u.next other [] size (now + u.lasts)]).getD j default = (swept u now).ss.getD j default := by
            simp [List.getD, List.getElem?_append_left hj]
          rw [e]; exact getD_mem hj
        unfold isMine
        rw [decide_eq_false (h.num _ hm), Bool.false_and]
      · simp [List.getD, isMine]
    simp [mineErr_0 hb hn this]
  · have : mineIx x other u.next now < 0 := by
      unfold mineIx
      rw [hsw, idxF_append_none]
      · decide
      · intro s hs; simp [isMine, h.num s hs]
      · intro s hs
        obtain rfl := List.mem_singleton.1 hs
        simp [isMine, Ne.symm he]
    simp [mineErr_i hb hn this, he]
/-- who lets time go has it no more -/
theorem Opened.late {u x : Uploads} {who : Str} {size now : Int} (h : Opened u who size now x) : idxF (isMine who u.next) (swept x (now + u.lasts + 1)).ss = -1 := by
  have hsw : (swept x (now + u.lasts + 1)).ss = (swept u now).ss.filter (fun s => !decide (s.till < now + u.lasts + 1)) := by
    show x.ss.filter _ = _
    rw [h.ss, List.filter_append]
    have : now + u.lasts < now + u.lasts + 1 := by omega
    simp [this]
  rw [hsw]
  have := idxF_append_none (p := isMine who u.next) (l := (swept u now).ss.filter (fun s => !decide (s.till < now + u.lasts + 1))) (m := []) (fun s hs => by simp [isMine, h.num s (List.mem_filter.1 hs).1]) (by simp)
  simpa using this
theorem Opened.gone {u x : Uploads} {who : Str} {size now : Int} (h : Opened u who size now x) (hl : now + u.lasts + 1 ≤ 1099511627776) : queryU x who u.next (now + u.lasts + 1) = (0, 5) := by
  have hb := h.begin (t := now + u.lasts + 1) (by have := h.hnow; have := h.good.lasts; omega) hl
  have he : mineErr x who u.next (now + u.lasts + 1) = 5 := mineErr_i hb (by simp [h.hname]) (by unfold mineIx; rw [h.late]; decide)
  unfold queryU
  rw [if_neg (by simp [he]), he]
theorem openU_err {u : Uploads} {who : Str} {size now : Int} (h : ¬ openErr u who size now = 0) : openU u who size now = (zeroU, 0, openErr u who size now) := if_neg h
end Tether
