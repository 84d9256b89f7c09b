import Derived.Test.YtfdbnppkcofndaaDoorSW5
import Derived.Test.YtfdbnppkcofndaaDoorSV6
import Derived.Shelf.Lay
section
set_option linter.unusedVariables false
set_option linter.unusedSimpArgs false
open Go Go.VM Go.Proofs Tether
namespace Tether
def insI (l : List Str) (s : Str) : Nat := l.findIdx fun x => !(blt x s)
def insP (l : List Str) (s : Str) : List Str := l.take (insI l s) ++ s :: l.drop (insI l s)
theorem insI_le (l : List Str) (s : Str) : insI l s ≤ l.length := List.findIdx_le_length
theorem insP_length (l : List Str) (s : Str) : (insP l s).length = l.length + 1 := by
  have := insI_le l s
  simp [insP]; omega
theorem insP_perm (l : List Str) (s : Str) : (insP l s).Perm (s :: l) := by
  unfold insP
  refine List.perm_middle.trans ?_
  rw [List.take_append_drop]
theorem insP_sorted {l : List Str} {s : Str} (h : l.Pairwise (· < ·)) (hs : s ∉ l) : (insP l s).Pairwise (· < ·) := by
  have hlt : ∀ x ∈ l.take (insI l s), x < s := by
    intro x hx
    obtain ⟨j, hj, rfl⟩ := List.getElem_of_mem hx
    simp only [List.length_take] at hj
    have := List.not_of_lt_findIdx (p := fun x : Str => !(blt x s)) (show j < insI l s by omega)
    rw [List.getElem_take]
    exact blt_iff.1 (by simpa using this)
  have hge : ∀ x ∈ l.drop (insI l s), s < x := by
    intro x hx
    obtain ⟨j, hj, rfl⟩ := List.getElem_of_mem hx
    simp only [List.length_drop] at hj
    have hi : insI l s < l.length := by omega
    have h1 : ¬ l[insI l s] < s := by
      have : (!(blt (l[insI l s]) s)) = true := List.findIdx_getElem (p := fun x : Str => !(blt x s)) (w := hi)
      intro h2
      rw [blt_iff.2 h2] at this
      cases this
    have h0 : s < l[insI l s] := by
      rcases str_tri s l[insI l s] with h | h | h
      · exact h
      · exact absurd (h ▸ List.getElem_mem hi) hs
      · exact absurd h h1
    rw [List.getElem_drop]
    rcases Nat.eq_or_lt_of_le (Nat.zero_le j) with hj0 | hj0
    · subst hj0; exact h0
    · exact lt_trans' h0 (List.pairwise_iff_getElem.1 h _ _ hi (by omega) (by omega))
  unfold insP
  rw [List.pairwise_append]
  refine ⟨h.sublist (List.take_sublist _ _), List.pairwise_cons.2 ⟨hge, h.sublist (List.drop_sublist _ _)⟩, ?_⟩
  intro a ha b hb
  have h1 := hlt a ha
  rcases List.mem_cons.1 hb with rfl | hb
  · exact h1
  · exact lt_trans' h1 (hge b hb)
/-- all put in, one by one -/
def insAll (ns : List Str) : List Str := ns.foldl insP []
theorem insAll_snoc (ns : List Str) (s : Str) : insAll (ns ++ [s]) = insP (insAll ns) s := by simp [insAll]
theorem insAll_perm (ns : List Str) : (insAll ns).Perm ns := by
  have key : ∀ (ns l : List Str), (ns.foldl insP l).Perm (l ++ ns) := by
    intro ns
    induction ns with
    | nil => intro l; simp
    | cons s ns ih =>
      intro l
      rw [List.foldl_cons]
      refine (ih _).trans ((insP_perm l s).append_right ns |>.trans ?_)
      exact (List.perm_middle (l₁ := l) (l₂ := ns) (a := s)).symm
  exact key ns []
theorem insAll_sorted {ns : List Str} (h : ns.Nodup) : (insAll ns).Pairwise (· < ·) := by
  have key : ∀ (ns l : List Str), l.Pairwise (· < ·) → (l ++ ns).Nodup → (ns.foldl insP l).Pairwise (· < ·) := by
    intro ns
    induction ns with
    | nil => intro l h _; exact h
    | cons s ns ih =>
      intro l h hn
      rw [List.foldl_cons]
      have hp : (insP l s ++ ns).Perm (l ++ s :: ns) := ((insP_perm l s).append_right ns).trans (List.perm_middle (l₁ := l) (l₂ := ns) (a := s)).symm
      refine ih _ (insP_sorted h fun hm => ?_) (hp.nodup_iff.2 hn)
      rw [List.nodup_append] at hn
      exact hn.2.2 s hm s (by simp) rfl
  exact key ns [] List.Pairwise.nil (by simpa using h)
theorem sortS_eq {ns : List Str} (h : ns.Nodup) : sortS ns = insAll ns := by
  have tr : ∀ a b c : Str, decide (a ≤ b) = true → decide (b ≤ c) = true → decide (a ≤ c) = true := by
    intro a b c h1 h2
    simp only [decide_eq_true_eq] at *
    exact List.le_trans h1 h2
  have to : ∀ a b : Str, (decide (a ≤ b) || decide (b ≤ a)) = true := by
    intro a b
    rcases List.le_total a b with h | h <;> simp [h]
  refine List.Perm.eq_of_pairwise (le := fun a b : Str => decide (a ≤ b) = true) (fun a b _ _ h1 h2 => ?_) (List.pairwise_mergeSort tr to ns) ?_ ((List.mergeSort_perm ns _).trans (insAll_perm ns).symm)
  · simp only [decide_eq_true_eq] at h1 h2
    exact List.le_antisymm h1 h2
  · refine (insAll_sorted h).imp fun {a b} hab => ?_
    simp only [decide_eq_true_eq]
    exact List.le_of_lt hab
end Tether
namespace Go.VM.Tryd
set_option maxRecDepth 100000
def inDir (p : Str) (x : Entry) : Bool := decide (headOf x.path = p)
def namesAt (l : List Entry) (p : Str) : List Str := (l.filter (inDir p)).map fun x => tailOf x.path
theorem namesAt_snoc (l : List Entry) (p : Str) (x : Entry) : namesAt (l ++ [x]) p = if inDir p x = true then namesAt l p ++ [tailOf x.path] else namesAt l p := by
  unfold namesAt
  rw [List.filter_append, List.map_append]
  by_cases h : inDir p x = true
  · rw [if_pos h]; simp [h]
  · rw [if_neg h]; simp [h]
theorem namesAt_take {l : List Entry} {p : Str} {i : Nat} (hi : i < l.length) : namesAt (l.take (i + 1)) p = if inDir p (l.getD i default) = true then namesAt (l.take i) p ++ [tailOf (l.getD i default).path] else namesAt (l.take i) p := by
  rw [List.take_succ_eq_append_getElem hi, namesAt_snoc]
  simp [List.getD, hi]
theorem namesAt_len (l : List Entry) (p : Str) : (namesAt l p).length ≤ l.length := by
  unfold namesAt
  rw [List.length_map]
  exact List.length_filter_le _ _
theorem path_inj {a b : Str} (ha : checkP [a] = 0) (hb : checkP [b] = 0) (h1 : headOf a = headOf b) (h2 : tailOf a = tailOf b) : a = b := by
  rw [← (parts ha).2.1, ← (parts hb).2.1, h1, h2]
theorem namesAt_nodup {l : List Entry} (g : FullT l) (p : Str) : (namesAt l p).Nodup := by
  unfold namesAt
  unfold List.Nodup
  rw [List.pairwise_map]
  refine List.Pairwise.imp_of_mem ?_ (g.sorted.filter (inDir p))
  intro a b ha hb hab h
  simp only [List.mem_filter, inDir, decide_eq_true_eq] at ha hb
  have h1 := entErr_path (g.ents a ha.1)
  have h2 := entErr_path (g.ents b hb.1)
  have := path_inj h1 h2 (ha.2.trans hb.2.symm) h
  rw [this] at hab
  exact lt_irrefl' _ hab
end Go.VM.Tryd
end
section
set_option linter.unusedVariables false
set_option linter.unusedSimpArgs false
open Go Go.VM Go.Proofs Tether
namespace Go.VM.Tryd
set_option maxRecDepth 100000
theorem HasText_c (l : List Str) (s : Str) (hl : l.length < 4611686018427387904) : Meets Tryd.prog 78 [strsV l, .str s] (.bool (decide (s ∈ l))) [] := by
  refine meets_x (fn := Tryd.f78) Tryd.func78 rfl fb78 (by kernel_rfl) (Nat.le_of_ble_eq_true rfl) ?_
  refine cx_sr ?_
  simp only [go_sem]
  repeat first | (with_reducible refine side_d ?_ ?_; exact byD) | (with_reducible refine side_q ?_ ?_; exact byQ)
  refine cx_seq ?_
  refine cx_sr ?_
  simp only [go_sem]
  repeat first | (with_reducible refine side_d ?_ ?_; exact byD) | (with_reducible refine side_q ?_ ?_; exact byQ)
  refine cx_block ?_
  refine cx_loop0 (σ := Nat) (fun i => i ≤ l.length ∧ ∀ j, j < i → ¬ l.getD j [] = s) (fun i => [⟨5, 0, [], .int .i64 (i : Nat)⟩]) [0, 1] (fun i => l.length - i) 0 ⟨Nat.zero_le _, fun j hj => absurd hj (Nat.not_lt_zero j)⟩ (Nat.zero_le _) byC (fun i hI1 => ?_)
  simp only [go_sem]
  refine cx_seq ?_
  refine cx_sr ?_
  simp only [go_sem]
  repeat first | (with_reducible refine side_d ?_ ?_; exact byD) | (with_reducible refine side_q ?_ ?_; exact byQ)
  intro t9 e9
  repeat first | (with_reducible refine side_d ?_ ?_; exact byD) | (with_reducible refine side_q ?_ ?_; exact byQ)
  subst e9
  refine cx_if _ rfl (fun h9 => ?_) (fun h9 => ?_)
  ·
    (try simp only [go_sem] at h9)
    refine cx_skip ?_
    (try simp only [go_sem])
    refine cx_seq (cx_block ?_)
    refine cx_sr ?_
    simp only [go_sem]
    repeat first | (with_reducible refine side_d ?_ ?_; exact byD) | (with_reducible refine side_q ?_ ?_; exact byQ)
    intro t17 e17
    repeat first | (with_reducible refine side_d ?_ ?_; exact byD) | (with_reducible refine side_q ?_ ?_; exact byQ)
    subst e17
    refine cx_if _ rfl (fun h17 => ?_) (fun h17 => ?_)
    ·
      (try simp only [go_sem] at h17)
      refine cx_sr ?_
      simp only [go_sem]
      repeat first | (with_reducible refine side_d ?_ ?_; exact byD) | (with_reducible refine side_q ?_ ?_; exact byQ)
      refine cx_ret ?_
      simp only [go_sem]
      refine finw_bool ?_
      have h : l.getD i [] = s := by simpa using h17
      have hm : s ∈ l := by
        rw [← h]
        exact getD_mem (by omega)
      simp [hm]
    ·
      (try simp only [go_sem] at h17)
      refine cx_skip ?_
      (try simp only [go_sem])
      refine cx_region ?_
      simp only [go_sem]
      repeat first | (with_reducible refine side_d ?_ ?_; exact byD) | (with_reducible refine side_q ?_ ?_; exact byQ)
      intro t11 e11
      (try replace e11 := w64 e11 (by omega) (by omega))
      repeat first | (with_reducible refine side_d ?_ ?_; exact byD) | (with_reducible refine side_q ?_ ?_; exact byQ)
      refine rnd_next (i + 1) ⟨by omega, all_next hI1.2 (by simpa using h17)⟩ (by first | omega | (dsimp only; omega)) byC
  ·
    (try simp only [go_sem] at h9)
    refine cx_exit ?_
    simp only [go_sem]
    refine cx_sr ?_
    simp only [go_sem]
    repeat first | (with_reducible refine side_d ?_ ?_; exact byD) | (with_reducible refine side_q ?_ ?_; exact byQ)
    refine cx_ret ?_
    simp only [go_sem]
    refine finw_bool ?_
    have hm : s ∉ l := by
      intro hm
      obtain ⟨j, hj, rfl⟩ := List.getElem_of_mem hm
      exact hI1.2 j (by omega) (by simp [List.getD, hj])
    simp [hm]
theorem SameTexts_c (a b : List Str) (ha : a.length < 4611686018427387904) (hb : b.length < 4611686018427387904) : Meets Tryd.prog 42 [strsV a, strsV b] (.bool (sameL a b)) [] := by
  refine meets_x (fn := Tryd.f42) Tryd.func42 rfl fb42 (by kernel_rfl) (Nat.le_of_ble_eq_true rfl) ?_
  refine cx_sr ?_
  simp only [go_sem]
  repeat first | (with_reducible refine side_d ?_ ?_; exact byD) | (with_reducible refine side_q ?_ ?_; exact byQ)
  refine cx_seq ?_
  refine cx_sr ?_
  simp only [go_sem]
  repeat first | (with_reducible refine side_d ?_ ?_; exact byD) | (with_reducible refine side_q ?_ ?_; exact byQ)
  intro t10 e10
  repeat first | (with_reducible refine side_d ?_ ?_; exact byD) | (with_reducible refine side_q ?_ ?_; exact byQ)
  subst e10
  refine cx_if _ rfl (fun h10 => ?_) (fun h10 => ?_)
  ·
    (try simp only [go_sem] at h10)
    refine cx_sr ?_
    simp only [go_sem]
    repeat first | (with_reducible refine side_d ?_ ?_; exact byD) | (with_reducible refine side_q ?_ ?_; exact byQ)
    refine cx_ret ?_
    simp only [go_sem]
    refine finw_bool ?_
    have : a ≠ b := fun e => by subst e; exact h10 rfl
    simp [sameL, this]
  ·
    (try simp only [go_sem] at h10)
    refine cx_skip ?_
    (try simp only [go_sem])
    refine cx_seq ?_
    refine cx_sr ?_
    simp only [go_sem]
    repeat first | (with_reducible refine side_d ?_ ?_; exact byD) | (with_reducible refine side_q ?_ ?_; exact byQ)
    refine cx_block ?_
    refine cx_loop0 (σ := Nat) (fun i => i ≤ a.length ∧ ∀ j, j < i → a.getD j [] = b.getD j []) (fun i => [⟨5, 0, [], .int .i64 (i : Nat)⟩]) [0, 1] (fun i => a.length - i) 0 ⟨Nat.zero_le _, fun j hj => absurd hj (Nat.not_lt_zero j)⟩ (Nat.zero_le _) byC (fun i hI1 => ?_)
    simp only [go_sem]
    refine cx_seq ?_
    refine cx_sr ?_
    simp only [go_sem]
    repeat first | (with_reducible refine side_d ?_ ?_; exact byD) | (with_reducible refine side_q ?_ ?_; exact byQ)
    intro t14 e14
    repeat first | (with_reducible refine side_d ?_ ?_; exact byD) | (with_reducible refine side_q ?_ ?_; exact byQ)
    subst e14
    refine cx_if _ rfl (fun h14 => ?_) (fun h14 => ?_)
    ·
      (try simp only [go_sem] at h14)
      refine cx_skip ?_
      (try simp only [go_sem])
      refine cx_seq (cx_block ?_)
      refine cx_seq (cx_draw mixed [] (.first 0 (.first 1 (.first 2 (.first 3 (.first 4 (.first 5 (.first 6 (.first 7 (.first 8 (.done)))))))))) (by kernel_rfl) ?_)
      simp only [go_sem]
      repeat first | (with_reducible refine side_d ?_ ?_; exact byD) | (with_reducible refine side_q ?_ ?_; exact byQ)
      intro t25 e25
      repeat first | (with_reducible refine side_d ?_ ?_; exact byD) | (with_reducible refine side_q ?_ ?_; exact byQ)
      subst e25
      refine cx_if _ rfl (fun h25 => ?_) (fun h25 => ?_)
      ·
        (try simp only [go_sem] at h25)
        refine cx_sr ?_
        simp only [go_sem]
        repeat first | (with_reducible refine side_d ?_ ?_; exact byD) | (with_reducible refine side_q ?_ ?_; exact byQ)
        refine cx_ret ?_
        simp only [go_sem]
        refine finw_bool ?_
        have : a ≠ b := fun e => by
          subst e
          simp at h25
        simp [sameL, this]
      ·
        (try simp only [go_sem] at h25)
        refine cx_skip ?_
        (try simp only [go_sem])
        refine cx_region ?_
        simp only [go_sem]
        repeat first | (with_reducible refine side_d ?_ ?_; exact byD) | (with_reducible refine side_q ?_ ?_; exact byQ)
        intro t16 e16
        (try replace e16 := w64 e16 (by omega) (by omega))
        repeat first | (with_reducible refine side_d ?_ ?_; exact byD) | (with_reducible refine side_q ?_ ?_; exact byQ)
        have hk : a.getD i [] = b.getD i [] := by
          simpa using h25
        refine rnd_next (i + 1) ⟨by omega, all_next hI1.2 hk⟩ (by first | omega | (dsimp only; omega)) byC
    ·
      (try simp only [go_sem] at h14)
      refine cx_exit ?_
      simp only [go_sem]
      refine cx_sr ?_
      simp only [go_sem]
      repeat first | (with_reducible refine side_d ?_ ?_; exact byD) | (with_reducible refine side_q ?_ ?_; exact byQ)
      refine cx_ret ?_
      simp only [go_sem]
      refine finw_bool ?_
      have : a = b := list_eq_of (d := []) (by omega) (fun j hj => hI1.2 j (by omega))
      simp [sameL, this]
end Go.VM.Tryd
end
section
set_option linter.unusedVariables false
set_option linter.unusedSimpArgs false
open Go Go.VM Go.Proofs Tether
namespace Go.VM.Tryd
set_option maxRecDepth 100000
theorem insI_next {l : List Str} {s : Str} {i : Nat} (h : i ≤ insI l s) (hi : i < l.length) (hb : blt (l.getD i []) s = true) : i + 1 ≤ insI l s := by
  rcases Nat.lt_or_ge i (insI l s) with h1 | h1
  · exact h1
  · have he : i = insI l s := by omega
    have : (!(blt (l[insI l s]'(by omega)) s)) = true := List.findIdx_getElem (p := fun x : Str => !(blt x s)) (w := show insI l s < l.length by omega)
    have hg : l.getD i [] = l[insI l s]'(by omega) := by
      subst he
      simp [List.getD, show insI l s < l.length by omega]
    rw [hg] at hb
    rw [hb] at this
    cases this
theorem insI_stop {l : List Str} {s : Str} {i : Nat} (h : i ≤ insI l s) (hb : i < l.length → blt (l.getD i []) s = false) : i = insI l s := by
  rcases Nat.lt_or_ge i (insI l s) with h1 | h1
  · have hi : i < l.length := Nat.lt_of_lt_of_le h1 (insI_le l s)
    have := List.not_of_lt_findIdx (p := fun x : Str => !(blt x s)) h1
    have hb := hb hi
    have hg : l.getD i [] = l[i] := by simp [List.getD, hi]
    rw [hg] at hb
    rw [hb] at this
    cases this
  · omega
theorem blt_no {a b : Nat} (h : ¬ a < b) : Nat.blt a b = false := by
  cases hb : Nat.blt a b with
  | false => rfl
  | true => exact absurd (by simpa using hb) h
theorem lit_new {l : List Str} {s : Str} {i q : Nat} (hi : i ≤ l.length) (hq : q < l.length + 1) :
    join i (En strE [] l) (join 1 (fun _ => [V.str s]) (En strE [] (l.drop i))) q = En strE [] (l.take i ++ s :: l.drop i) q := by
  rw [En_ins hi hq]
  unfold join
  by_cases h1 : q < i
  · rw [if_pos h1, show Nat.blt q i = true by simpa using h1]
    rfl
  · rw [if_neg h1, blt_no h1]
    by_cases h2 : q = i
    · rw [if_pos h2, h2, Nat.sub_self]
      rfl
    · rw [if_neg h2]
      have h3 : Nat.blt (q - i) 1 = false := blt_no (by omega)
      simp only [cond_false, h3]
      rw [← shF_En]
      unfold shF
      congr 1
      omega
theorem lit_in {l : List Str} {s : Str} {i q k : Nat} {g : Nat → List V} (hi : i = l.length) (hq : q < l.length + 1) :
    join i (En strE [] l) (over 1 k g (fun _ => [V.str s])) q = En strE [] (l.take i ++ s :: l.drop i) q := by
  rw [En_ins (by omega) hq]
  unfold join
  by_cases h1 : q < i
  · rw [if_pos h1, show Nat.blt q i = true by simpa using h1]
    rfl
  · have h2 : q = i := by omega
    rw [if_neg h1, blt_no h1, if_pos h2, h2, Nat.sub_self]
    simp only [cond_false]
    unfold over
    rw [if_neg (by omega)]
    rfl
theorem PutText_c (l : List Str) (s : Str) (hs : s ∉ l) (hl : l.length ≤ 1048576) : Meets Tryd.prog 62 [strsV l, .str s] (.own none 0 1 0 (insP l s).length .loose) [.arr 1 (insP l s).length (En strE [] (insP l s))] := by
  refine meets_x (fn := Tryd.f62) Tryd.func62 rfl fb62 (by kernel_rfl) (Nat.le_of_ble_eq_true rfl) ?_
  refine cx_sr ?_
  simp only [go_sem]
  repeat first | (with_reducible refine side_d ?_ ?_; exact byD) | (with_reducible refine side_q ?_ ?_; exact byQ)
  refine cx_seq ?_
  refine cx_sr ?_
  simp only [go_sem]
  repeat first | (with_reducible refine side_d ?_ ?_; exact byD) | (with_reducible refine side_q ?_ ?_; exact byQ)
  refine cw_m (HasText_c l s (by omega)) byW byT ?_
  simp only [go_sem]
  repeat first | (with_reducible refine side_d ?_ ?_; exact byD) | (with_reducible refine side_q ?_ ?_; exact byQ)
  refine cx_if _ rfl (fun h8 => ?_) (fun h8 => ?_)
  · simp [hs] at h8
  ·
    (try simp only [go_sem] at h8)
    refine cx_skip ?_
    (try simp only [go_sem])
    refine cx_sr ?_
    simp only [go_sem]
    repeat first | (with_reducible refine side_d ?_ ?_; exact byD) | (with_reducible refine side_q ?_ ?_; exact byQ)
    refine cx_seq (cx_block ?_)
    refine cx_loop0 (σ := Nat) (fun i => i ≤ insI l s) (fun i => [⟨5, 0, [], .int .i64 (i : Nat)⟩]) [0, 1, 4] (fun i => insI l s - i) 0 (by first | trivial | omega | simp) (Nat.zero_le _) byC (fun i hI1 => ?_)
    simp only [go_sem]
    have hk := insI_le l s
    refine cx_seq ?_
    refine cx_sr ?_
    simp only [go_sem]
    repeat first | (with_reducible refine side_d ?_ ?_; exact byD) | (with_reducible refine side_q ?_ ?_; exact byQ)
    intro t13 e13
    repeat first | (with_reducible refine side_d ?_ ?_; exact byD) | (with_reducible refine side_q ?_ ?_; exact byQ)
    intro t20 e20
    repeat first | (with_reducible refine side_d ?_ ?_; exact byD) | (with_reducible refine side_q ?_ ?_; exact byQ)
    intro t21 e21
    rw [bsel_and] at e21
    repeat first | (with_reducible refine side_d ?_ ?_; exact byD) | (with_reducible refine side_q ?_ ?_; exact byQ)
    subst e13 e20 e21
    refine cx_if _ rfl (fun h21 => ?_) (fun h21 => ?_)
    ·
      (try simp only [go_sem] at h21)
      have h21' : i < l.length ∧ blt (l.getD i []) s = true := by simpa using h21
      have hn := insI_next hI1 h21'.1 h21'.2
      refine cx_skip ?_
      (try simp only [go_sem])
      refine cx_block ?_
      refine cx_region ?_
      simp only [go_sem]
      repeat first | (with_reducible refine side_d ?_ ?_; exact byD) | (with_reducible refine side_q ?_ ?_; exact byQ)
      intro t23 e23
      (try replace e23 := w64 e23 (by omega) (by omega))
      repeat first | (with_reducible refine side_d ?_ ?_; exact byD) | (with_reducible refine side_q ?_ ?_; exact byQ)
      refine rnd_next (i + 1) hn (by first | omega | (dsimp only; omega)) byC
    ·
      (try simp only [go_sem] at h21)
      have hst : i = insI l s := insI_stop hI1 (fun hi => h21.elim (fun h => absurd (by omega) h) id)
      have hlen := insP_length l s
      refine cx_exit ?_
      simp only [go_sem]
      refine cx_seq (cx_draw mixed [3, 8, 9] (.first 0 (.first 1 (.first 2 (.first 4 (.first 6 (.first 7 (.alt 3 (.alt 5 (.one 8 (.one 9 (.one 10 (.first 11 (.done))))) (.one 8 (.one 5 (.one 9 (.one 10 (.first 11 (.done))))))) (.alt 5 (.alt 3 (.one 8 (.one 9 (.one 10 (.first 11 (.done))))) (.one 8 (.alt 3 (.one 9 (.one 10 (.first 11 (.done)))) (.one 9 (.one 3 (.one 10 (.first 11 (.done)))))))) (.one 8 (.alt 3 (.one 5 (.one 9 (.one 10 (.first 11 (.done))))) (.one 5 (.alt 3 (.one 9 (.one 10 (.first 11 (.done)))) (.one 9 (.one 3 (.one 10 (.first 11 (.done))))))))))))))))) (by kernel_rfl) ?_)
      simp only [go_sem]
      repeat first | (with_reducible refine side_d ?_ ?_; exact byD) | (with_reducible refine side_q ?_ ?_; exact byQ)
      refine ⟨?_, ?_⟩
      ·
        repeat first | (with_reducible refine side_d ?_ ?_; exact byD) | (with_reducible refine side_q ?_ ?_; exact byQ)
        refine ⟨?_, ?_⟩
        ·
          repeat first | (with_reducible refine side_d ?_ ?_; exact byD) | (with_reducible refine side_q ?_ ?_; exact byQ)
          refine ⟨fun hC33 => ?_, fun hC33 => ?_⟩
          ·
            repeat first | (with_reducible refine side_d ?_ ?_; exact byD) | (with_reducible refine side_q ?_ ?_; exact byQ)
            refine cx_ret ?_
            simp only [go_sem]
            have hn : i + (1 + (l.length - i)) = (insP l s).length := by omega
            rw [hn]
            first
            | (refine finx_w (.own none 2 1 0 (insP l s).length .loose) [.dead, .dead, .arr 1 (insP l s).length (En strE [] (insP l s))] ?_ ?_ ?_
               · exact byC
               · simp only [go_sem, wkB, wkH]
                 exact fun q hq => by
                   rw [insP, ← hst]
                   rw [lit_new (by omega) (by omega)]
                   exact wks_refl _
               · exact finx_of 1 [2] rfl byC byC byC byC)
            | (refine finx_w (.own none 1 1 0 (insP l s).length .loose) [.dead, .arr 1 (insP l s).length (En strE [] (insP l s))] ?_ ?_ ?_
               · exact byC
               · simp only [go_sem, wkB, wkH]
                 exact fun q hq => by
                   rw [insP, ← hst]
                   rw [lit_in (by omega) (by omega)]
                   exact wks_refl _
               · exact finx_of 1 [1] rfl byC byC byC byC)
          ·
            repeat first | (with_reducible refine side_d ?_ ?_; exact byD) | (with_reducible refine side_q ?_ ?_; exact byQ)
            refine cx_ret ?_
            simp only [go_sem]
            have hn : i + (1 + (l.length - i)) = (insP l s).length := by omega
            rw [hn]
            first
            | (refine finx_w (.own none 2 1 0 (insP l s).length .loose) [.dead, .dead, .arr 1 (insP l s).length (En strE [] (insP l s))] ?_ ?_ ?_
               · exact byC
               · simp only [go_sem, wkB, wkH]
                 exact fun q hq => by
                   rw [insP, ← hst]
                   rw [lit_new (by omega) (by omega)]
                   exact wks_refl _
               · exact finx_of 1 [2] rfl byC byC byC byC)
            | (refine finx_w (.own none 1 1 0 (insP l s).length .loose) [.dead, .arr 1 (insP l s).length (En strE [] (insP l s))] ?_ ?_ ?_
               · exact byC
               · simp only [go_sem, wkB, wkH]
                 exact fun q hq => by
                   rw [insP, ← hst]
                   rw [lit_in (by omega) (by omega)]
                   exact wks_refl _
               · exact finx_of 1 [1] rfl byC byC byC byC)
        ·
          repeat first | (with_reducible refine side_d ?_ ?_; exact byD) | (with_reducible refine side_q ?_ ?_; exact byQ)
          refine ⟨fun hC33 => ?_, fun hC33 => ?_⟩
          ·
            repeat first | (with_reducible refine side_d ?_ ?_; exact byD) | (with_reducible refine side_q ?_ ?_; exact byQ)
            refine cx_ret ?_
            simp only [go_sem]
            have hn : i + (1 + (l.length - i)) = (insP l s).length := by omega
            rw [hn]
            first
            | (refine finx_w (.own none 2 1 0 (insP l s).length .loose) [.dead, .dead, .arr 1 (insP l s).length (En strE [] (insP l s))] ?_ ?_ ?_
               · exact byC
               · simp only [go_sem, wkB, wkH]
                 exact fun q hq => by
                   rw [insP, ← hst]
                   rw [lit_new (by omega) (by omega)]
                   exact wks_refl _
               · exact finx_of 1 [2] rfl byC byC byC byC)
            | (refine finx_w (.own none 1 1 0 (insP l s).length .loose) [.dead, .arr 1 (insP l s).length (En strE [] (insP l s))] ?_ ?_ ?_
               · exact byC
               · simp only [go_sem, wkB, wkH]
                 exact fun q hq => by
                   rw [insP, ← hst]
                   rw [lit_in (by omega) (by omega)]
                   exact wks_refl _
               · exact finx_of 1 [1] rfl byC byC byC byC)
          ·
            repeat first | (with_reducible refine side_d ?_ ?_; exact byD) | (with_reducible refine side_q ?_ ?_; exact byQ)
            refine cx_ret ?_
            simp only [go_sem]
            have hn : i + (1 + (l.length - i)) = (insP l s).length := by omega
            rw [hn]
            first
            | (refine finx_w (.own none 2 1 0 (insP l s).length .loose) [.dead, .dead, .arr 1 (insP l s).length (En strE [] (insP l s))] ?_ ?_ ?_
               · exact byC
               · simp only [go_sem, wkB, wkH]
                 exact fun q hq => by
                   rw [insP, ← hst]
                   rw [lit_new (by omega) (by omega)]
                   exact wks_refl _
               · exact finx_of 1 [2] rfl byC byC byC byC)
            | (refine finx_w (.own none 1 1 0 (insP l s).length .loose) [.dead, .arr 1 (insP l s).length (En strE [] (insP l s))] ?_ ?_ ?_
               · exact byC
               · simp only [go_sem, wkB, wkH]
                 exact fun q hq => by
                   rw [insP, ← hst]
                   rw [lit_in (by omega) (by omega)]
                   exact wks_refl _
               · exact finx_of 1 [1] rfl byC byC byC byC)
      ·
        repeat first | (with_reducible refine side_d ?_ ?_; exact byD) | (with_reducible refine side_q ?_ ?_; exact byQ)
        refine ⟨?_, ?_⟩
        ·
          repeat first | (with_reducible refine side_d ?_ ?_; exact byD) | (with_reducible refine side_q ?_ ?_; exact byQ)
          refine ⟨?_, ?_⟩
          ·
            repeat first | (with_reducible refine side_d ?_ ?_; exact byD) | (with_reducible refine side_q ?_ ?_; exact byQ)
            refine ⟨fun hC33 => ?_, fun hC33 => ?_⟩
            ·
              repeat first | (with_reducible refine side_d ?_ ?_; exact byD) | (with_reducible refine side_q ?_ ?_; exact byQ)
              refine cx_ret ?_
              simp only [go_sem]
              have hn : i + (1 + (l.length - i)) = (insP l s).length := by omega
              rw [hn]
              first
              | (refine finx_w (.own none 2 1 0 (insP l s).length .loose) [.dead, .dead, .arr 1 (insP l s).length (En strE [] (insP l s))] ?_ ?_ ?_
                 · exact byC
                 · simp only [go_sem, wkB, wkH]
                   exact fun q hq => by
                     rw [insP, ← hst]
                     rw [lit_new (by omega) (by omega)]
                     exact wks_refl _
                 · exact finx_of 1 [2] rfl byC byC byC byC)
              | (refine finx_w (.own none 1 1 0 (insP l s).length .loose) [.dead, .arr 1 (insP l s).length (En strE [] (insP l s))] ?_ ?_ ?_
                 · exact byC
                 · simp only [go_sem, wkB, wkH]
                   exact fun q hq => by
                     rw [insP, ← hst]
                     rw [lit_in (by omega) (by omega)]
                     exact wks_refl _
                 · exact finx_of 1 [1] rfl byC byC byC byC)
            ·
              repeat first | (with_reducible refine side_d ?_ ?_; exact byD) | (with_reducible refine side_q ?_ ?_; exact byQ)
              refine cx_ret ?_
              simp only [go_sem]
              have hn : i + (1 + (l.length - i)) = (insP l s).length := by omega
              rw [hn]
              first
              | (refine finx_w (.own none 2 1 0 (insP l s).length .loose) [.dead, .dead, .arr 1 (insP l s).length (En strE [] (insP l s))] ?_ ?_ ?_
                 · exact byC
                 · simp only [go_sem, wkB, wkH]
                   exact fun q hq => by
                     rw [insP, ← hst]
                     rw [lit_new (by omega) (by omega)]
                     exact wks_refl _
                 · exact finx_of 1 [2] rfl byC byC byC byC)
              | (refine finx_w (.own none 1 1 0 (insP l s).length .loose) [.dead, .arr 1 (insP l s).length (En strE [] (insP l s))] ?_ ?_ ?_
                 · exact byC
                 · simp only [go_sem, wkB, wkH]
                   exact fun q hq => by
                     rw [insP, ← hst]
                     rw [lit_in (by omega) (by omega)]
                     exact wks_refl _
                 · exact finx_of 1 [1] rfl byC byC byC byC)
          ·
            repeat first | (with_reducible refine side_d ?_ ?_; exact byD) | (with_reducible refine side_q ?_ ?_; exact byQ)
            refine ⟨?_, ?_⟩
            ·
              repeat first | (with_reducible refine side_d ?_ ?_; exact byD) | (with_reducible refine side_q ?_ ?_; exact byQ)
              refine ⟨fun hC33 => ?_, fun hC33 => ?_⟩
              ·
                repeat first | (with_reducible refine side_d ?_ ?_; exact byD) | (with_reducible refine side_q ?_ ?_; exact byQ)
                refine cx_ret ?_
                simp only [go_sem]
                have hn : i + (1 + (l.length - i)) = (insP l s).length := by omega
                rw [hn]
                first
                | (refine finx_w (.own none 2 1 0 (insP l s).length .loose) [.dead, .dead, .arr 1 (insP l s).length (En strE [] (insP l s))] ?_ ?_ ?_
                   · exact byC
                   · simp only [go_sem, wkB, wkH]
                     exact fun q hq => by
                       rw [insP, ← hst]
                       rw [lit_new (by omega) (by omega)]
                       exact wks_refl _
                   · exact finx_of 1 [2] rfl byC byC byC byC)
                | (refine finx_w (.own none 1 1 0 (insP l s).length .loose) [.dead, .arr 1 (insP l s).length (En strE [] (insP l s))] ?_ ?_ ?_
                   · exact byC
                   · simp only [go_sem, wkB, wkH]
                     exact fun q hq => by
                       rw [insP, ← hst]
                       rw [lit_in (by omega) (by omega)]
                       exact wks_refl _
                   · exact finx_of 1 [1] rfl byC byC byC byC)
              ·
                repeat first | (with_reducible refine side_d ?_ ?_; exact byD) | (with_reducible refine side_q ?_ ?_; exact byQ)
                refine cx_ret ?_
                simp only [go_sem]
                have hn : i + (1 + (l.length - i)) = (insP l s).length := by omega
                rw [hn]
                first
                | (refine finx_w (.own none 2 1 0 (insP l s).length .loose) [.dead, .dead, .arr 1 (insP l s).length (En strE [] (insP l s))] ?_ ?_ ?_
                   · exact byC
                   · simp only [go_sem, wkB, wkH]
                     exact fun q hq => by
                       rw [insP, ← hst]
                       rw [lit_new (by omega) (by omega)]
                       exact wks_refl _
                   · exact finx_of 1 [2] rfl byC byC byC byC)
                | (refine finx_w (.own none 1 1 0 (insP l s).length .loose) [.dead, .arr 1 (insP l s).length (En strE [] (insP l s))] ?_ ?_ ?_
                   · exact byC
                   · simp only [go_sem, wkB, wkH]
                     exact fun q hq => by
                       rw [insP, ← hst]
                       rw [lit_in (by omega) (by omega)]
                       exact wks_refl _
                   · exact finx_of 1 [1] rfl byC byC byC byC)
            ·
              repeat first | (with_reducible refine side_d ?_ ?_; exact byD) | (with_reducible refine side_q ?_ ?_; exact byQ)
              refine ⟨fun hC33 => ?_, fun hC33 => ?_⟩
              ·
                repeat first | (with_reducible refine side_d ?_ ?_; exact byD) | (with_reducible refine side_q ?_ ?_; exact byQ)
                refine cx_ret ?_
                simp only [go_sem]
                have hn : i + (1 + (l.length - i)) = (insP l s).length := by omega
                rw [hn]
                first
                | (refine finx_w (.own none 2 1 0 (insP l s).length .loose) [.dead, .dead, .arr 1 (insP l s).length (En strE [] (insP l s))] ?_ ?_ ?_
                   · exact byC
                   · simp only [go_sem, wkB, wkH]
                     exact fun q hq => by
                       rw [insP, ← hst]
                       rw [lit_new (by omega) (by omega)]
                       exact wks_refl _
                   · exact finx_of 1 [2] rfl byC byC byC byC)
                | (refine finx_w (.own none 1 1 0 (insP l s).length .loose) [.dead, .arr 1 (insP l s).length (En strE [] (insP l s))] ?_ ?_ ?_
                   · exact byC
                   · simp only [go_sem, wkB, wkH]
                     exact fun q hq => by
                       rw [insP, ← hst]
                       rw [lit_in (by omega) (by omega)]
                       exact wks_refl _
                   · exact finx_of 1 [1] rfl byC byC byC byC)
              ·
                repeat first | (with_reducible refine side_d ?_ ?_; exact byD) | (with_reducible refine side_q ?_ ?_; exact byQ)
                refine cx_ret ?_
                simp only [go_sem]
                have hn : i + (1 + (l.length - i)) = (insP l s).length := by omega
                rw [hn]
                first
                | (refine finx_w (.own none 2 1 0 (insP l s).length .loose) [.dead, .dead, .arr 1 (insP l s).length (En strE [] (insP l s))] ?_ ?_ ?_
                   · exact byC
                   · simp only [go_sem, wkB, wkH]
                     exact fun q hq => by
                       rw [insP, ← hst]
                       rw [lit_new (by omega) (by omega)]
                       exact wks_refl _
                   · exact finx_of 1 [2] rfl byC byC byC byC)
                | (refine finx_w (.own none 1 1 0 (insP l s).length .loose) [.dead, .arr 1 (insP l s).length (En strE [] (insP l s))] ?_ ?_ ?_
                   · exact byC
                   · simp only [go_sem, wkB, wkH]
                     exact fun q hq => by
                       rw [insP, ← hst]
                       rw [lit_in (by omega) (by omega)]
                       exact wks_refl _
                   · exact finx_of 1 [1] rfl byC byC byC byC)
        ·
          repeat first | (with_reducible refine side_d ?_ ?_; exact byD) | (with_reducible refine side_q ?_ ?_; exact byQ)
          refine ⟨?_, ?_⟩
          ·
            repeat first | (with_reducible refine side_d ?_ ?_; exact byD) | (with_reducible refine side_q ?_ ?_; exact byQ)
            refine ⟨fun hC33 => ?_, fun hC33 => ?_⟩
            ·
              repeat first | (with_reducible refine side_d ?_ ?_; exact byD) | (with_reducible refine side_q ?_ ?_; exact byQ)
              refine cx_ret ?_
              simp only [go_sem]
              have hn : i + (1 + (l.length - i)) = (insP l s).length := by omega
              rw [hn]
              first
              | (refine finx_w (.own none 2 1 0 (insP l s).length .loose) [.dead, .dead, .arr 1 (insP l s).length (En strE [] (insP l s))] ?_ ?_ ?_
                 · exact byC
                 · simp only [go_sem, wkB, wkH]
                   exact fun q hq => by
                     rw [insP, ← hst]
                     rw [lit_new (by omega) (by omega)]
                     exact wks_refl _
                 · exact finx_of 1 [2] rfl byC byC byC byC)
              | (refine finx_w (.own none 1 1 0 (insP l s).length .loose) [.dead, .arr 1 (insP l s).length (En strE [] (insP l s))] ?_ ?_ ?_
                 · exact byC
                 · simp only [go_sem, wkB, wkH]
                   exact fun q hq => by
                     rw [insP, ← hst]
                     rw [lit_in (by omega) (by omega)]
                     exact wks_refl _
                 · exact finx_of 1 [1] rfl byC byC byC byC)
            ·
              repeat first | (with_reducible refine side_d ?_ ?_; exact byD) | (with_reducible refine side_q ?_ ?_; exact byQ)
              refine cx_ret ?_
              simp only [go_sem]
              have hn : i + (1 + (l.length - i)) = (insP l s).length := by omega
              rw [hn]
              first
              | (refine finx_w (.own none 2 1 0 (insP l s).length .loose) [.dead, .dead, .arr 1 (insP l s).length (En strE [] (insP l s))] ?_ ?_ ?_
                 · exact byC
                 · simp only [go_sem, wkB, wkH]
                   exact fun q hq => by
                     rw [insP, ← hst]
                     rw [lit_new (by omega) (by omega)]
                     exact wks_refl _
                 · exact finx_of 1 [2] rfl byC byC byC byC)
              | (refine finx_w (.own none 1 1 0 (insP l s).length .loose) [.dead, .arr 1 (insP l s).length (En strE [] (insP l s))] ?_ ?_ ?_
                 · exact byC
                 · simp only [go_sem, wkB, wkH]
                   exact fun q hq => by
                     rw [insP, ← hst]
                     rw [lit_in (by omega) (by omega)]
                     exact wks_refl _
                 · exact finx_of 1 [1] rfl byC byC byC byC)
          ·
            repeat first | (with_reducible refine side_d ?_ ?_; exact byD) | (with_reducible refine side_q ?_ ?_; exact byQ)
            refine ⟨?_, ?_⟩
            ·
              repeat first | (with_reducible refine side_d ?_ ?_; exact byD) | (with_reducible refine side_q ?_ ?_; exact byQ)
              refine ⟨fun hC33 => ?_, fun hC33 => ?_⟩
              ·
                repeat first | (with_reducible refine side_d ?_ ?_; exact byD) | (with_reducible refine side_q ?_ ?_; exact byQ)
                refine cx_ret ?_
                simp only [go_sem]
                have hn : i + (1 + (l.length - i)) = (insP l s).length := by omega
                rw [hn]
                first
                | (refine finx_w (.own none 2 1 0 (insP l s).length .loose) [.dead, .dead, .arr 1 (insP l s).length (En strE [] (insP l s))] ?_ ?_ ?_
                   · exact byC
                   · simp only [go_sem, wkB, wkH]
                     exact fun q hq => by
                       rw [insP, ← hst]
                       rw [lit_new (by omega) (by omega)]
                       exact wks_refl _
                   · exact finx_of 1 [2] rfl byC byC byC byC)
                | (refine finx_w (.own none 1 1 0 (insP l s).length .loose) [.dead, .arr 1 (insP l s).length (En strE [] (insP l s))] ?_ ?_ ?_
                   · exact byC
                   · simp only [go_sem, wkB, wkH]
                     exact fun q hq => by
                       rw [insP, ← hst]
                       rw [lit_in (by omega) (by omega)]
                       exact wks_refl _
                   · exact finx_of 1 [1] rfl byC byC byC byC)
              ·
                repeat first | (with_reducible refine side_d ?_ ?_; exact byD) | (with_reducible refine side_q ?_ ?_; exact byQ)
                refine cx_ret ?_
                simp only [go_sem]
                have hn : i + (1 + (l.length - i)) = (insP l s).length := by omega
                rw [hn]
                first
                | (refine finx_w (.own none 2 1 0 (insP l s).length .loose) [.dead, .dead, .arr 1 (insP l s).length (En strE [] (insP l s))] ?_ ?_ ?_
                   · exact byC
                   · simp only [go_sem, wkB, wkH]
                     exact fun q hq => by
                       rw [insP, ← hst]
                       rw [lit_new (by omega) (by omega)]
                       exact wks_refl _
                   · exact finx_of 1 [2] rfl byC byC byC byC)
                | (refine finx_w (.own none 1 1 0 (insP l s).length .loose) [.dead, .arr 1 (insP l s).length (En strE [] (insP l s))] ?_ ?_ ?_
                   · exact byC
                   · simp only [go_sem, wkB, wkH]
                     exact fun q hq => by
                       rw [insP, ← hst]
                       rw [lit_in (by omega) (by omega)]
                       exact wks_refl _
                   · exact finx_of 1 [1] rfl byC byC byC byC)
            ·
              repeat first | (with_reducible refine side_d ?_ ?_; exact byD) | (with_reducible refine side_q ?_ ?_; exact byQ)
              refine ⟨fun hC33 => ?_, fun hC33 => ?_⟩
              ·
                repeat first | (with_reducible refine side_d ?_ ?_; exact byD) | (with_reducible refine side_q ?_ ?_; exact byQ)
                refine cx_ret ?_
                simp only [go_sem]
                have hn : i + (1 + (l.length - i)) = (insP l s).length := by omega
                rw [hn]
                first
                | (refine finx_w (.own none 2 1 0 (insP l s).length .loose) [.dead, .dead, .arr 1 (insP l s).length (En strE [] (insP l s))] ?_ ?_ ?_
                   · exact byC
                   · simp only [go_sem, wkB, wkH]
                     exact fun q hq => by
                       rw [insP, ← hst]
                       rw [lit_new (by omega) (by omega)]
                       exact wks_refl _
                   · exact finx_of 1 [2] rfl byC byC byC byC)
                | (refine finx_w (.own none 1 1 0 (insP l s).length .loose) [.dead, .arr 1 (insP l s).length (En strE [] (insP l s))] ?_ ?_ ?_
                   · exact byC
                   · simp only [go_sem, wkB, wkH]
                     exact fun q hq => by
                       rw [insP, ← hst]
                       rw [lit_in (by omega) (by omega)]
                       exact wks_refl _
                   · exact finx_of 1 [1] rfl byC byC byC byC)
              ·
                repeat first | (with_reducible refine side_d ?_ ?_; exact byD) | (with_reducible refine side_q ?_ ?_; exact byQ)
                refine cx_ret ?_
                simp only [go_sem]
                have hn : i + (1 + (l.length - i)) = (insP l s).length := by omega
                rw [hn]
                first
                | (refine finx_w (.own none 2 1 0 (insP l s).length .loose) [.dead, .dead, .arr 1 (insP l s).length (En strE [] (insP l s))] ?_ ?_ ?_
                   · exact byC
                   · simp only [go_sem, wkB, wkH]
                     exact fun q hq => by
                       rw [insP, ← hst]
                       rw [lit_new (by omega) (by omega)]
                       exact wks_refl _
                   · exact finx_of 1 [2] rfl byC byC byC byC)
                | (refine finx_w (.own none 1 1 0 (insP l s).length .loose) [.dead, .arr 1 (insP l s).length (En strE [] (insP l s))] ?_ ?_ ?_
                   · exact byC
                   · simp only [go_sem, wkB, wkH]
                     exact fun q hq => by
                       rw [insP, ← hst]
                       rw [lit_in (by omega) (by omega)]
                       exact wks_refl _
                   · exact finx_of 1 [1] rfl byC byC byC byC)
theorem PutTextF_c (l : List Str) (s : Str) (hs : s ∉ l) (hl : l.length ≤ 1048576) : Meets Tryd.prog 62 [strsV l, .str s] (strsV (insP l s)) [] :=
  ((PutText_c l s hs hl).freeze 1 byC).wk (wks_refl _) byC byC
theorem insAll_mem {ns : List Str} {s : Str} : s ∈ insAll ns ↔ s ∈ ns := (insAll_perm ns).mem_iff
theorem insAll_len (ns : List Str) : (insAll ns).length = ns.length := (insAll_perm ns).length_eq
theorem namesAt_new {l : List Entry} (g : FullT l) {p : Str} {i : Nat} (hi : i < l.length) (h : inDir p (l.getD i default) = true) : tailOf (l.getD i default).path ∉ namesAt (l.take i) p := by
  intro hm
  have hn := namesAt_nodup g p
  have h1 : (namesAt (l.take (i + 1)) p).Nodup := by
    refine List.Nodup.sublist ?_ hn
    unfold namesAt
    exact ((List.take_sublist _ _).filter _).map _
  rw [namesAt_take hi, if_pos h, List.nodup_append] at h1
  exact h1.2.2 _ hm _ (by simp) rfl
theorem ListOf_c (l : List Entry) (p : Str) (g : FullT l) (ok : okE l) : Meets Tryd.prog 41 [esV l, .str p] (strsV (insAll (namesAt l p))) [] := by
  refine meets_x (fn := Tryd.f41) Tryd.func41 rfl fb41 (by kernel_rfl) (Nat.le_of_ble_eq_true rfl) ?_
  have hl := ok.1
  have hP := fun x (hx : x ∈ l) => (ok.2 x hx).1
  refine cx_sr ?_
  simp only [go_sem]
  repeat first | (with_reducible refine side_d ?_ ?_; exact byD) | (with_reducible refine side_q ?_ ?_; exact byQ)
  refine cx_sr ?_
  simp only [go_sem]
  repeat first | (with_reducible refine side_d ?_ ?_; exact byD) | (with_reducible refine side_q ?_ ?_; exact byQ)
  skip
  refine cx_seq ?_
  refine cx_sr ?_
  simp only [go_sem]
  repeat first | (with_reducible refine side_d ?_ ?_; exact byD) | (with_reducible refine side_q ?_ ?_; exact byQ)
  refine cx_block ?_
  refine cx_loop0 (σ := Nat) (fun i => i ≤ l.length) (fun i => [⟨6, 0, [], .int .i64 (i : Nat)⟩, ⟨5, 0, [], strsV (insAll (namesAt (l.take i) p))⟩]) [0, 1, 4] (fun i => l.length - i) 0 (by first | trivial | omega | simp) (Nat.zero_le _) byC (fun i hI1 => ?_)
  simp only [go_sem]
  have hnl := namesAt_len (l.take i) p
  simp only [List.length_take] at hnl
  refine cx_seq ?_
  refine cx_sr ?_
  simp only [go_sem]
  repeat first | (with_reducible refine side_d ?_ ?_; exact byD) | (with_reducible refine side_q ?_ ?_; exact byQ)
  intro t10 e10
  repeat first | (with_reducible refine side_d ?_ ?_; exact byD) | (with_reducible refine side_q ?_ ?_; exact byQ)
  subst e10
  refine cx_if _ rfl (fun h10 => ?_) (fun h10 => ?_)
  ·
    (try simp only [go_sem] at h10)
    have hm : l.getD i default ∈ l := getD_mem (by omega)
    have hpl := hP _ hm
    have hnx := namesAt_take (l := l) (p := p) (i := i) (by omega)
    refine cx_skip ?_
    (try simp only [go_sem])
    refine cx_seq (cx_block ?_)
    refine cx_sr ?_
    simp only [go_sem]
    repeat first | (with_reducible refine side_d ?_ ?_; exact byD) | (with_reducible refine side_q ?_ ?_; exact byQ)
    refine cw_m (ParentOf2_c (l.getD i default).path (by omega)) byW byT ?_
    simp only [go_sem]
    repeat first | (with_reducible refine side_d ?_ ?_; exact byD) | (with_reducible refine side_q ?_ ?_; exact byQ)
    intro t20 e20
    repeat first | (with_reducible refine side_d ?_ ?_; exact byD) | (with_reducible refine side_q ?_ ?_; exact byQ)
    subst e20
    refine cx_if _ rfl (fun h20 => ?_) (fun h20 => ?_)
    ·
      (try simp only [go_sem] at h20)
      have hin : inDir p (l.getD i default) = true := by simpa [inDir] using h20
      rw [if_pos hin] at hnx
      have hnew := namesAt_new g (show i < l.length by omega) hin
      refine cx_region ?_
      simp only [go_sem]
      repeat first | (with_reducible refine side_d ?_ ?_; exact byD) | (with_reducible refine side_q ?_ ?_; exact byQ)
      refine cw_m (LastOf2_c (l.getD i default).path (by omega)) byW byT ?_
      simp only [go_sem]
      repeat first | (with_reducible refine side_d ?_ ?_; exact byD) | (with_reducible refine side_q ?_ ?_; exact byQ)
      refine cw_m (PutTextF_c (insAll (namesAt (l.take i) p)) (tailOf (l.getD i default).path) (by rw [insAll_mem]; exact hnew) (by rw [insAll_len]; omega)) byW byT ?_
      simp only [go_sem]
      repeat first | (with_reducible refine side_d ?_ ?_; exact byD) | (with_reducible refine side_q ?_ ?_; exact byQ)
      refine cx_region ?_
      simp only [go_sem]
      repeat first | (with_reducible refine side_d ?_ ?_; exact byD) | (with_reducible refine side_q ?_ ?_; exact byQ)
      intro t12 e12
      (try replace e12 := w64 e12 (by omega) (by omega))
      repeat first | (with_reducible refine side_d ?_ ?_; exact byD) | (with_reducible refine side_q ?_ ?_; exact byQ)
      refine rnd_next (i + 1) (by omega) (by first | omega | (dsimp only; omega)) ?_
      rw [hnx, insAll_snoc]
      exact byC
    ·
      (try simp only [go_sem] at h20)
      have hin : ¬ inDir p (l.getD i default) = true := by simpa [inDir] using h20
      rw [if_neg hin] at hnx
      refine cx_skip ?_
      (try simp only [go_sem])
      refine cx_region ?_
      simp only [go_sem]
      repeat first | (with_reducible refine side_d ?_ ?_; exact byD) | (with_reducible refine side_q ?_ ?_; exact byQ)
      intro t12 e12
      (try replace e12 := w64 e12 (by omega) (by omega))
      repeat first | (with_reducible refine side_d ?_ ?_; exact byD) | (with_reducible refine side_q ?_ ?_; exact byQ)
      refine rnd_next (i + 1) (by omega) (by first | omega | (dsimp only; omega)) ?_
      rw [hnx]
      exact byC
  ·
    (try simp only [go_sem] at h10)
    refine cx_exit ?_
    simp only [go_sem]
    refine cx_sr ?_
    simp only [go_sem]
    repeat first | (with_reducible refine side_d ?_ ?_; exact byD) | (with_reducible refine side_q ?_ ?_; exact byQ)
    refine cx_ret ?_
    simp only [go_sem]
    have hi : i = l.length := by omega
    subst hi
    rw [List.take_length]
    exact finx_of 1 [] rfl byC byC byC byC
def sizeTo (l : List Entry) : Nat → Nat
  | 0 => 0
  | i + 1 => sizeTo l i + (l.getD i default).text.length
theorem sizeTo_le {l : List Entry} (ok : okE l) : ∀ i, i ≤ l.length → sizeTo l i ≤ 1048576 * i
  | 0, _ => by simp [sizeTo]
  | i + 1, h => by
    have h1 := sizeTo_le ok i (by omega)
    have h2 := (ok.2 _ (getD_mem (l := l) (i := i) (d := default) (by omega))).2
    simp only [sizeTo]
    omega
def sizeP (l : List Entry) : Int := if checkT l = 0 then (sizeTo l l.length : Nat) else 0
theorem Size_c (l : List Entry) (ok : okE l) : Meets Tryd.prog 39 [esV l] (.tup [.int .i64 (sizeP l), .int .i64 (checkT l)]) [] := by
  refine meets_x (fn := Tryd.f39) Tryd.func39 rfl fb39 (by kernel_rfl) (Nat.le_of_ble_eq_true rfl) ?_
  have hl := ok.1
  refine cx_sr ?_
  simp only [go_sem]
  repeat first | (with_reducible refine side_d ?_ ?_; exact byD) | (with_reducible refine side_q ?_ ?_; exact byQ)
  refine cx_seq ?_
  refine cx_sr ?_
  simp only [go_sem]
  repeat first | (with_reducible refine side_d ?_ ?_; exact byD) | (with_reducible refine side_q ?_ ?_; exact byQ)
  refine cw_v 2 (tcheck1_c l ok) byV byC rfl ?_
  simp only [go_sem]
  repeat first | (with_reducible refine side_d ?_ ?_; exact byD) | (with_reducible refine side_q ?_ ?_; exact byQ)
  refine cx_sr ?_
  simp only [go_sem]
  repeat first | (with_reducible refine side_d ?_ ?_; exact byD) | (with_reducible refine side_q ?_ ?_; exact byQ)
  intro t12 e12
  repeat first | (with_reducible refine side_d ?_ ?_; exact byD) | (with_reducible refine side_q ?_ ?_; exact byQ)
  subst e12
  refine cx_if _ rfl (fun h12 => ?_) (fun h12 => ?_)
  ·
    (try simp only [go_sem] at h12)
    refine cx_sr ?_
    simp only [go_sem]
    repeat first | (with_reducible refine side_d ?_ ?_; exact byD) | (with_reducible refine side_q ?_ ?_; exact byQ)
    refine cx_ret ?_
    simp only [go_sem]
    have h : ¬ checkT l = 0 := by simpa using h12
    rw [sizeP, if_neg h]
    exact finw_flat rfl (wk_refl _)
  ·
    (try simp only [go_sem] at h12)
    refine cx_skip ?_
    (try simp only [go_sem])
    refine cx_sr ?_
    simp only [go_sem]
    repeat first | (with_reducible refine side_d ?_ ?_; exact byD) | (with_reducible refine side_q ?_ ?_; exact byQ)
    refine cx_seq ?_
    refine cx_sr ?_
    simp only [go_sem]
    repeat first | (with_reducible refine side_d ?_ ?_; exact byD) | (with_reducible refine side_q ?_ ?_; exact byQ)
    refine cx_block ?_
    refine cx_loopk (σ := Nat) (fun i => i ≤ l.length) (fun i => [⟨16, 0, [], .int .i64 (i : Nat)⟩, ⟨5, 0, [], .int .i64 (sizeTo l i : Nat)⟩]) [2, 3, 14, 15] (fun i => []) (fun i => l.length - i) 0 (by first | trivial | omega | simp) (fun _ => (Nat.zero_le _)) byC (fun i hI1 => ?_)
    simp only [go_sem]
    have hsz := sizeTo_le ok i hI1
    refine cx_sr ?_
    simp only [go_sem]
    repeat first | (with_reducible refine side_d ?_ ?_; exact byD) | (with_reducible refine side_q ?_ ?_; exact byQ)
    intro t17 e17
    repeat first | (with_reducible refine side_d ?_ ?_; exact byD) | (with_reducible refine side_q ?_ ?_; exact byQ)
    subst e17
    refine cx_seq ?_
    refine cx_if _ rfl (fun h17 => ?_) (fun h17 => ?_)
    ·
      (try simp only [go_sem] at h17)
      have hsn : sizeTo l (i + 1) = sizeTo l i + (l.getD i default).text.length := rfl
      have hs1 := sizeTo_le ok (i + 1) (by omega)
      refine cx_skip ?_
      (try simp only [go_sem])
      refine cx_seq (cx_block ?_)
      refine cx_sr ?_
      simp only [go_sem]
      repeat first | (with_reducible refine side_d ?_ ?_; exact byD) | (with_reducible refine side_q ?_ ?_; exact byQ)
      refine cx_region ?_
      simp only [go_sem]
      repeat first | (with_reducible refine side_d ?_ ?_; exact byD) | (with_reducible refine side_q ?_ ?_; exact byQ)
      intro t24 e24
      (try replace e24 := w64 e24 (by omega) (by omega))
      repeat first | (with_reducible refine side_d ?_ ?_; exact byD) | (with_reducible refine side_q ?_ ?_; exact byQ)
      refine cx_region ?_
      simp only [go_sem]
      repeat first | (with_reducible refine side_d ?_ ?_; exact byD) | (with_reducible refine side_q ?_ ?_; exact byQ)
      intro t25 e25
      (try replace e25 := w64 e25 (by omega) (by omega))
      repeat first | (with_reducible refine side_d ?_ ?_; exact byD) | (with_reducible refine side_q ?_ ?_; exact byQ)
      refine rnd_next (i + 1) (by omega) (by first | omega | (dsimp only; omega)) ?_
      rw [hsn]
      exact byC
    ·
      (try simp only [go_sem] at h17)
      refine cx_exit ?_
      simp only [go_sem]
      refine cx_sr ?_
      simp only [go_sem]
      repeat first | (with_reducible refine side_d ?_ ?_; exact byD) | (with_reducible refine side_q ?_ ?_; exact byQ)
      refine cx_ret ?_
      simp only [go_sem]
      have h : checkT l = 0 := by simpa using h12
      have hi : i = l.length := by omega
      rw [sizeP, if_pos h, h, ← hi]
      exact finw_flat rfl (wk_refl _)
end Go.VM.Tryd
end
section
set_option linter.unusedVariables false
set_option linter.unusedSimpArgs false
open Go Go.VM Go.Proofs Tether
namespace Go.Proofs
open Go.Shelf
shelf_lay Lays.n190 Nm 190 at Tryd as Tryd.laysSort
end Go.Proofs
namespace Go.VM.Tryd
set_option maxRecDepth 100000
theorem sort_c {H : Heap} {r n : Nat} {nl : Option Bool} {t : Tg} (ss : List Str) (hn : n = ss.length) (h1 : hget H r = .arr 1 n (En strE [] ss)) (hb : n ≤ 1099511627776)
    {K : V → Heap → Prop} (hk : K (.tup []) (hset H r (.arr 1 n (En strE [] (sortS ss))))) : cw Tryd.prog 61 [.own nl r 1 0 n t] H K :=
  cw_sort (by kernel_rfl) (fun blk off cap ss w h1 h2 h3 => Any.slices_Sort_string Tryd.laysSort blk off cap ss w h1 h2 h3) (fun p cap w => Any.slices_Sort_string_none Tryd.laysSort p cap w) (enc := strE) (fun _ => rfl) ss hn h1 hb hk
def errA (l : List Entry) (p : Str) : Int := if checkT l ≠ 0 then checkT l else if p ≠ [] then checkP [p] else 0
def listErr (l : List Entry) (p : Str) : Int := if errA l p ≠ 0 then errA l p else isFolderP l p
def listP (l : List Entry) (p : Str) : List Str := if listErr l p = 0 then sortS (namesAt l p) else []
theorem listP_len (l : List Entry) (p : Str) : (listP l p).length ≤ l.length := by
  unfold listP
  split
  · rw [sortS_length]; exact namesAt_len l p
  · simp
theorem List_c (l : List Entry) (p : Str) (ok : okE l) (hp : p.length ≤ 1048576) : Meets Tryd.prog 38 [esV l, .str p] (.tup [.own none 0 1 0 (listP l p).length .loose, .int .i64 (listErr l p)]) [.arr 1 (listP l p).length (En strE [] (listP l p))] := by
  refine meets_x (fn := Tryd.f38) Tryd.func38 rfl fb38 (by kernel_rfl) (Nat.le_of_ble_eq_true rfl) ?_
  have hl := ok.1
  have hP := fun x (hx : x ∈ l) => (ok.2 x hx).1
  refine cx_sr ?_
  simp only [go_sem]
  repeat first | (with_reducible refine side_d ?_ ?_; exact byD) | (with_reducible refine side_q ?_ ?_; exact byQ)
  refine cx_sr ?_
  simp only [go_sem]
  repeat first | (with_reducible refine side_d ?_ ?_; exact byD) | (with_reducible refine side_q ?_ ?_; exact byQ)
  refine cw_v 2 (tcheck1_c l ok) byV byC rfl ?_
  simp only [go_sem]
  repeat first | (with_reducible refine side_d ?_ ?_; exact byD) | (with_reducible refine side_q ?_ ?_; exact byQ)
  refine cx_seq ?_
  refine cx_sr ?_
  simp only [go_sem]
  repeat first | (with_reducible refine side_d ?_ ?_; exact byD) | (with_reducible refine side_q ?_ ?_; exact byQ)
  intro t18 e18
  repeat first | (with_reducible refine side_d ?_ ?_; exact byD) | (with_reducible refine side_q ?_ ?_; exact byQ)
  intro t21 e21
  repeat first | (with_reducible refine side_d ?_ ?_; exact byD) | (with_reducible refine side_q ?_ ?_; exact byQ)
  intro t22 e22
  rw [bsel_and] at e22
  repeat first | (with_reducible refine side_d ?_ ?_; exact byD) | (with_reducible refine side_q ?_ ?_; exact byQ)
  subst e18 e21 e22
  refine cx_meet (σ := Unit) (fun u => True) (fun u => [⟨6, 0, [], .int .i64 (errA l p)⟩]) [0, 1, 4, 5] (fun u => []) (fun _ => (Nat.zero_le _)) ?_ (fun u hIM1 => ?_)
  ·
    refine cx_if _ rfl (fun h22 => ?_) (fun h22 => ?_)
    ·
      (try simp only [go_sem] at h22)
      refine cx_region ?_
      simp only [go_sem]
      repeat first | (with_reducible refine side_d ?_ ?_; exact byD) | (with_reducible refine side_q ?_ ?_; exact byQ)
      refine cw_m (Check_c p (by omega)) byW byT ?_
      simp only [go_sem]
      repeat first | (with_reducible refine side_d ?_ ?_; exact byD) | (with_reducible refine side_q ?_ ?_; exact byQ)
      have h : checkT l = 0 ∧ p ≠ [] := by simpa using h22
      have he : errA l p = checkP [p] := by rw [errA, if_neg (by simpa using h.1), if_pos h.2]
      refine mt_next () trivial ?_
      rw [he]
      exact byC
    ·
      (try simp only [go_sem] at h22)
      refine cx_skip ?_
      (try simp only [go_sem])
      have he : errA l p = checkT l := by
        by_cases h : checkT l = 0
        · have : p = [] := by simpa [h] using h22
          rw [errA, if_neg (by simpa using h), if_neg (by simpa using this), h]
        · rw [errA, if_pos h]
      refine mt_next () trivial ?_
      rw [he]
      exact byC
  simp only [go_sem]
  refine cx_seq ?_
  refine cx_sr ?_
  simp only [go_sem]
  repeat first | (with_reducible refine side_d ?_ ?_; exact byD) | (with_reducible refine side_q ?_ ?_; exact byQ)
  intro t26 e26
  repeat first | (with_reducible refine side_d ?_ ?_; exact byD) | (with_reducible refine side_q ?_ ?_; exact byQ)
  subst e26
  refine cx_if _ rfl (fun h26 => ?_) (fun h26 => ?_)
  ·
    (try simp only [go_sem] at h26)
    refine cx_sr ?_
    simp only [go_sem]
    repeat first | (with_reducible refine side_d ?_ ?_; exact byD) | (with_reducible refine side_q ?_ ?_; exact byQ)
    refine cx_virt 4 1 (En strE [] []) rfl ?_
    simp only [go_sem]
    refine cx_ret ?_
    simp only [go_sem]
    have h : ¬ errA l p = 0 := by simpa using h26
    have he : listErr l p = errA l p := by rw [listErr, if_pos h]
    have hn : listP l p = [] := by rw [listP, if_neg (by rw [he]; exact h)]
    rw [hn, he]
    exact finx_of 1 [0] rfl byC byC byC byC
  ·
    (try simp only [go_sem] at h26)
    have hA : errA l p = 0 := by simpa using h26
    have hck : checkT l = 0 := by unfold errA at hA; grind
    have g := checkT_iff.1 hck
    have hs := g.sorted
    refine cx_skip ?_
    (try simp only [go_sem])
    refine cx_seq ?_
    refine cx_sr ?_
    simp only [go_sem]
    repeat first | (with_reducible refine side_d ?_ ?_; exact byD) | (with_reducible refine side_q ?_ ?_; exact byQ)
    intro t29 e29
    repeat first | (with_reducible refine side_d ?_ ?_; exact byD) | (with_reducible refine side_q ?_ ?_; exact byQ)
    subst e29
    refine cx_meet (σ := Unit) (fun u => isFolderP l p = 0) (fun u => []) [0, 1] (fun u => []) (fun _ => (Nat.zero_le _)) ?_ (fun u hIM2 => ?_)
    ·
      refine cx_if _ rfl (fun h29 => ?_) (fun h29 => ?_)
      ·
        (try simp only [go_sem] at h29)
        refine cx_sr ?_
        simp only [go_sem]
        repeat first | (with_reducible refine side_d ?_ ?_; exact byD) | (with_reducible refine side_q ?_ ?_; exact byQ)
        refine cw_m (At_c l p hs (by omega)) byW byT ?_
        simp only [go_sem]
        repeat first | (with_reducible refine side_d ?_ ?_; exact byD) | (with_reducible refine side_q ?_ ?_; exact byQ)
        refine cx_block ?_
        refine cx_sr ?_
        simp only [go_sem]
        repeat first | (with_reducible refine side_d ?_ ?_; exact byD) | (with_reducible refine side_q ?_ ?_; exact byQ)
        intro t38 e38
        repeat first | (with_reducible refine side_d ?_ ?_; exact byD) | (with_reducible refine side_q ?_ ?_; exact byQ)
        subst e38
        refine cx_if _ rfl (fun h36 => ?_) (fun h36 => ?_)
        ·
          (try simp only [go_sem] at h36)
          refine cx_sr ?_
          simp only [go_sem]
          repeat first | (with_reducible refine side_d ?_ ?_; exact byD) | (with_reducible refine side_q ?_ ?_; exact byQ)
          refine cx_virt 4 1 (En strE [] []) rfl ?_
          simp only [go_sem]
          refine cx_ret ?_
          simp only [go_sem]
          have h : ¬ p = [] := by simpa using h29
          have hh : ¬ hasE l p = true := by simpa using h36
          have hi : isFolderP l p = 5 := by rw [isFolderP, if_neg h, findE_eq hs, if_neg hh]
          have he : listErr l p = 5 := by rw [listErr, if_neg (by simpa using hA), hi]
          have hn : listP l p = [] := by rw [listP, if_neg (by rw [he]; decide)]
          rw [hn, he]
          exact finx_of 1 [0] rfl byC byC byC byC
        ·
          (try simp only [go_sem] at h36)
          have hh : hasE l p = true := by simpa using h36
          have hix : eIx l p < l.length := by simp [hasE] at hh; exact hh.1
          refine cx_sr ?_
          simp only [go_sem]
          repeat first | (with_reducible refine side_d ?_ ?_; exact byD) | (with_reducible refine side_q ?_ ?_; exact byQ)
          intro t45 e45
          repeat first | (with_reducible refine side_d ?_ ?_; exact byD) | (with_reducible refine side_q ?_ ?_; exact byQ)
          subst e45
          refine cx_if _ rfl (fun h39 => ?_) (fun h39 => ?_)
          ·
            (try simp only [go_sem] at h39)
            refine cx_sr ?_
            simp only [go_sem]
            repeat first | (with_reducible refine side_d ?_ ?_; exact byD) | (with_reducible refine side_q ?_ ?_; exact byQ)
            refine cx_virt 4 1 (En strE [] []) rfl ?_
            simp only [go_sem]
            refine cx_ret ?_
            simp only [go_sem]
            have h : ¬ p = [] := by simpa using h29
            have hf : ¬ (l.getD (eIx l p) default).folder = true := by simpa using h39
            have hi : isFolderP l p = 4 := by rw [isFolderP, if_neg h, findE_eq hs, if_pos hh]; simp only; rw [if_neg hf]
            have he : listErr l p = 4 := by rw [listErr, if_neg (by simpa using hA), hi]
            have hn : listP l p = [] := by rw [listP, if_neg (by rw [he]; decide)]
            rw [hn, he]
            exact finx_of 1 [0] rfl byC byC byC byC
          ·
            (try simp only [go_sem] at h39)
            refine cx_skip ?_
            (try simp only [go_sem])
            have h : ¬ p = [] := by simpa using h29
            have hf : (l.getD (eIx l p) default).folder = true := by simpa using h39
            have hi : isFolderP l p = 0 := by rw [isFolderP, if_neg h, findE_eq hs, if_pos hh]; simp only; rw [if_pos hf]
            refine mt_next () hi byC
      ·
        (try simp only [go_sem] at h29)
        refine cx_skip ?_
        (try simp only [go_sem])
        have h : p = [] := by simpa using h29
        refine mt_next () (by rw [isFolderP, if_pos h]) byC
    simp only [go_sem]
    refine cx_sr ?_
    simp only [go_sem]
    repeat first | (with_reducible refine side_d ?_ ?_; exact byD) | (with_reducible refine side_q ?_ ?_; exact byQ)
    refine cx_virt 9 1 (En strE [] []) rfl ?_
    refine cx_seq ?_
    refine cx_sr ?_
    simp only [go_sem]
    repeat first | (with_reducible refine side_d ?_ ?_; exact byD) | (with_reducible refine side_q ?_ ?_; exact byQ)
    refine cx_block ?_
    refine cx_loopk (σ := Nat) (fun i => i ≤ l.length) (fun i => [⟨48, 0, [], .int .i64 (i : Nat)⟩, ⟨9, 0, [], .own none 0 1 0 (namesAt (l.take i) p).length .loose⟩]) [1, 46, 47] (fun i => [.arr 1 (namesAt (l.take i) p).length (En strE [] (namesAt (l.take i) p))]) (fun i => l.length - i) 0 (by first | trivial | omega | simp) (fun _ => (Nat.zero_le _)) byC (fun i hI1 => ?_)
    simp only [go_sem]
    have hnl := namesAt_len (l.take i) p
    simp only [List.length_take] at hnl
    refine cx_sr ?_
    simp only [go_sem]
    repeat first | (with_reducible refine side_d ?_ ?_; exact byD) | (with_reducible refine side_q ?_ ?_; exact byQ)
    intro t49 e49
    repeat first | (with_reducible refine side_d ?_ ?_; exact byD) | (with_reducible refine side_q ?_ ?_; exact byQ)
    subst e49
    refine cx_seq ?_
    refine cx_if _ rfl (fun h49 => ?_) (fun h49 => ?_)
    ·
      (try simp only [go_sem] at h49)
      have hm : l.getD i default ∈ l := getD_mem (by omega)
      have hpl := hP _ hm
      have hnx := namesAt_take (l := l) (p := p) (i := i) (by omega)
      refine cx_skip ?_
      (try simp only [go_sem])
      refine cx_seq (cx_block ?_)
      refine cx_sr ?_
      simp only [go_sem]
      repeat first | (with_reducible refine side_d ?_ ?_; exact byD) | (with_reducible refine side_q ?_ ?_; exact byQ)
      refine cx_sr ?_
      simp only [go_sem]
      repeat first | (with_reducible refine side_d ?_ ?_; exact byD) | (with_reducible refine side_q ?_ ?_; exact byQ)
      refine cw_m (Split_c (l.getD i default).path (by omega)) byW byT ?_
      simp only [go_sem]
      repeat first | (with_reducible refine side_d ?_ ?_; exact byD) | (with_reducible refine side_q ?_ ?_; exact byQ)
      refine cx_sr ?_
      simp only [go_sem]
      repeat first | (with_reducible refine side_d ?_ ?_; exact byD) | (with_reducible refine side_q ?_ ?_; exact byQ)
      intro t60 e60
      repeat first | (with_reducible refine side_d ?_ ?_; exact byD) | (with_reducible refine side_q ?_ ?_; exact byQ)
      subst e60
      refine cx_if _ rfl (fun h60 => ?_) (fun h60 => ?_)
      ·
        (try simp only [go_sem] at h60)
        have hin : inDir p (l.getD i default) = true := by simpa [inDir] using h60
        rw [if_pos hin] at hnx
        refine cx_region ?_
        simp only [go_sem]
        repeat first | (with_reducible refine side_d ?_ ?_; exact byD) | (with_reducible refine side_q ?_ ?_; exact byQ)
        refine cx_region ?_
        simp only [go_sem]
        repeat first | (with_reducible refine side_d ?_ ?_; exact byD) | (with_reducible refine side_q ?_ ?_; exact byQ)
        intro t65 e65
        (try replace e65 := w64 e65 (by omega) (by omega))
        repeat first | (with_reducible refine side_d ?_ ?_; exact byD) | (with_reducible refine side_q ?_ ?_; exact byQ)
        refine rnd_nextr (i + 1) [3] (by omega) (by first | omega | (dsimp only; omega)) ⟨rfl, rfl, ?_, ?_⟩
        · rw [hnx]; exact byC
        · rw [hnx]; skip
          simp only [go_sem, wk, wks, wkB, wkH, List.length_append, List.length_cons, List.length_nil]
          first | exact fun q hq => wks_mp_snoc (fun x => rnVs_no _ rfl) (by rfl) hq | (and_intros <;> first | trivial | rfl | (exact fun q hq => wks_mp_snoc (fun x => rnVs_no _ rfl) (by rfl) hq) | exact wks_refl _ | exact byC)
      ·
        (try simp only [go_sem] at h60)
        have hin : ¬ inDir p (l.getD i default) = true := by simpa [inDir] using h60
        rw [if_neg hin] at hnx
        refine cx_skip ?_
        (try simp only [go_sem])
        refine cx_region ?_
        simp only [go_sem]
        repeat first | (with_reducible refine side_d ?_ ?_; exact byD) | (with_reducible refine side_q ?_ ?_; exact byQ)
        intro t65 e65
        (try replace e65 := w64 e65 (by omega) (by omega))
        repeat first | (with_reducible refine side_d ?_ ?_; exact byD) | (with_reducible refine side_q ?_ ?_; exact byQ)
        refine rnd_next (i + 1) (by omega) (by first | omega | (dsimp only; omega)) ?_
        rw [hnx]
        exact byC
    ·
      (try simp only [go_sem] at h49)
      refine cx_exit ?_
      simp only [go_sem]
      refine cx_sr ?_
      simp only [go_sem]
      repeat first | (with_reducible refine side_d ?_ ?_; exact byD) | (with_reducible refine side_q ?_ ?_; exact byQ)
      refine sort_c (namesAt (l.take i) p) rfl rfl (by omega) ?_
      simp only [go_sem]
      repeat first | (with_reducible refine side_d ?_ ?_; exact byD) | (with_reducible refine side_q ?_ ?_; exact byQ)
      refine cx_sr ?_
      simp only [go_sem]
      repeat first | (with_reducible refine side_d ?_ ?_; exact byD) | (with_reducible refine side_q ?_ ?_; exact byQ)
      refine cx_ret ?_
      simp only [go_sem]
      have hi : i = l.length := by omega
      have he : listErr l p = 0 := by rw [listErr, if_neg (by simpa using hA)]; exact hIM2
      have hn : listP l p = sortS (namesAt l p) := by rw [listP, if_pos he]
      rw [hn, he, sortS_length, hi, List.take_length]
      exact finx_of 1 [0] rfl byC byC byC byC
end Go.VM.Tryd
end
section
set_option linter.unusedVariables false
set_option linter.unusedSimpArgs false
open Go Go.VM Go.Proofs Tether
namespace Go.VM.Tryd
set_option maxRecDepth 100000
theorem listR (l : List Entry) (p : Str) (g : FullT l) : insAll (namesAt l p) = sortS (namesAt l p) := (sortS_eq (namesAt_nodup g p)).symm
theorem TreeLists_c (l : List Entry) (p : Str) (ok : okE l) (hp : p.length ≤ 1048576) : Meets Tryd.prog 14 [esV l, .str p] (.bool true) [] := by
  refine meets_x (fn := Tryd.f14) Tryd.func14 rfl fb14 (by kernel_rfl) (Nat.le_of_ble_eq_true rfl) ?_
  have hl := ok.1
  have hnl := listP_len l p
  refine cx_sr ?_
  simp only [go_sem]
  repeat first | (with_reducible refine side_d ?_ ?_; exact byD) | (with_reducible refine side_q ?_ ?_; exact byQ)
  refine cx_sr ?_
  simp only [go_sem]
  repeat first | (with_reducible refine side_d ?_ ?_; exact byD) | (with_reducible refine side_q ?_ ?_; exact byQ)
  refine cw_n 2 (List_c l p ok hp) byV byC rfl byN ?_
  simp only [go_sem]
  repeat first | (with_reducible refine side_d ?_ ?_; exact byD) | (with_reducible refine side_q ?_ ?_; exact byQ)
  refine cx_sr ?_
  simp only [go_sem]
  repeat first | (with_reducible refine side_d ?_ ?_; exact byD) | (with_reducible refine side_q ?_ ?_; exact byQ)
  refine cw_m (Size_c l ok) byW byT ?_
  simp only [go_sem]
  repeat first | (with_reducible refine side_d ?_ ?_; exact byD) | (with_reducible refine side_q ?_ ?_; exact byQ)
  refine cx_sr ?_
  simp only [go_sem]
  repeat first | (with_reducible refine side_d ?_ ?_; exact byD) | (with_reducible refine side_q ?_ ?_; exact byQ)
  refine cw_m (RCheckTree_c l ok) byW byT ?_
  simp only [go_sem]
  repeat first | (with_reducible refine side_d ?_ ?_; exact byD) | (with_reducible refine side_q ?_ ?_; exact byQ)
  refine cx_sr ?_
  simp only [go_sem]
  repeat first | (with_reducible refine side_d ?_ ?_; exact byD) | (with_reducible refine side_q ?_ ?_; exact byQ)
  refine cx_seq ?_
  refine cx_sr ?_
  simp only [go_sem]
  repeat first | (with_reducible refine side_d ?_ ?_; exact byD) | (with_reducible refine side_q ?_ ?_; exact byQ)
  intro t29 e29
  repeat first | (with_reducible refine side_d ?_ ?_; exact byD) | (with_reducible refine side_q ?_ ?_; exact byQ)
  intro t32 e32
  repeat first | (with_reducible refine side_d ?_ ?_; exact byD) | (with_reducible refine side_q ?_ ?_; exact byQ)
  intro t33 e33
  rw [bsel_and] at e33
  repeat first | (with_reducible refine side_d ?_ ?_; exact byD) | (with_reducible refine side_q ?_ ?_; exact byQ)
  subst e29 e32 e33
  refine cx_meet0 (σ := Unit) (fun u => True) (fun u => [⟨10, 0, [], .int .i64 (errA l p)⟩]) [0, 1, 4, 5, 6, 7, 8, 9] (Nat.zero_le _) ?_ (fun u hIM1 => ?_)
  ·
    refine cx_if _ rfl (fun h33 => ?_) (fun h33 => ?_)
    ·
      (try simp only [go_sem] at h33)
      refine cx_region ?_
      simp only [go_sem]
      repeat first | (with_reducible refine side_d ?_ ?_; exact byD) | (with_reducible refine side_q ?_ ?_; exact byQ)
      refine cw_m (CheckPath_c p (by omega)) byW byT ?_
      simp only [go_sem]
      repeat first | (with_reducible refine side_d ?_ ?_; exact byD) | (with_reducible refine side_q ?_ ?_; exact byQ)
      have h : checkT l = 0 ∧ p ≠ [] := by simpa using h33
      have he : errA l p = checkP [p] := by rw [errA, if_neg (by simpa using h.1), if_pos h.2]
      refine mt_next () trivial ?_
      rw [he]
      exact byC
    ·
      (try simp only [go_sem] at h33)
      refine cx_skip ?_
      (try simp only [go_sem])
      have he : errA l p = checkT l := by
        by_cases h : checkT l = 0
        · have : p = [] := by simpa [h] using h33
          rw [errA, if_neg (by simpa using h), if_neg (by simpa using this), h]
        · rw [errA, if_pos h]
      refine mt_next () trivial ?_
      rw [he]
      exact byC
  simp only [go_sem]
  refine cx_seq ?_
  refine cx_sr ?_
  simp only [go_sem]
  repeat first | (with_reducible refine side_d ?_ ?_; exact byD) | (with_reducible refine side_q ?_ ?_; exact byQ)
  intro t37 e37
  repeat first | (with_reducible refine side_d ?_ ?_; exact byD) | (with_reducible refine side_q ?_ ?_; exact byQ)
  subst e37
  refine cx_meet0 (σ := Unit) (fun u => True) (fun u => [⟨10, 0, [], .int .i64 (listErr l p)⟩]) [0, 1, 4, 5, 6, 7, 8, 9] (Nat.zero_le _) ?_ (fun u hIM2 => ?_)
  ·
    refine cx_if _ rfl (fun h37 => ?_) (fun h37 => ?_)
    ·
      (try simp only [go_sem] at h37)
      refine cx_region ?_
      simp only [go_sem]
      repeat first | (with_reducible refine side_d ?_ ?_; exact byD) | (with_reducible refine side_q ?_ ?_; exact byQ)
      refine cw_m (IsFolder_c l p (by omega)) byW byT ?_
      simp only [go_sem]
      repeat first | (with_reducible refine side_d ?_ ?_; exact byD) | (with_reducible refine side_q ?_ ?_; exact byQ)
      have h : errA l p = 0 := by simpa using h37
      have he : listErr l p = isFolderP l p := by rw [listErr, if_neg (by simpa using h)]
      refine mt_next () trivial ?_
      rw [he]
      exact byC
    ·
      (try simp only [go_sem] at h37)
      refine cx_skip ?_
      (try simp only [go_sem])
      have h : ¬ errA l p = 0 := by simpa using h37
      have he : listErr l p = errA l p := by rw [listErr, if_pos h]
      refine mt_next () trivial ?_
      rw [he]
      exact byC
  simp only [go_sem]
  refine cx_sr ?_
  simp only [go_sem]
  repeat first | (with_reducible refine side_d ?_ ?_; exact byD) | (with_reducible refine side_q ?_ ?_; exact byQ)
  refine cx_seq ?_
  refine cx_sr ?_
  simp only [go_sem]
  repeat first | (with_reducible refine side_d ?_ ?_; exact byD) | (with_reducible refine side_q ?_ ?_; exact byQ)
  intro t42 e42
  repeat first | (with_reducible refine side_d ?_ ?_; exact byD) | (with_reducible refine side_q ?_ ?_; exact byQ)
  subst e42
  refine cx_meet0 (σ := Unit) (fun u => True) (fun u => [⟨11, 0, [], strsV (listP l p)⟩]) [0, 4, 5, 6, 7, 8, 9, 10] (Nat.zero_le _) ?_ (fun u hIM3 => ?_)
  ·
    refine cx_if _ rfl (fun h42 => ?_) (fun h42 => ?_)
    ·
      (try simp only [go_sem] at h42)
      have hE : listErr l p = 0 := by simpa using h42
      have hA : errA l p = 0 := by
        by_cases h : errA l p = 0
        · exact h
        · rw [listErr, if_pos h] at hE; exact absurd hE h
      have hck : checkT l = 0 := by unfold errA at hA; grind
      have g := checkT_iff.1 hck
      refine cx_region ?_
      simp only [go_sem]
      repeat first | (with_reducible refine side_d ?_ ?_; exact byD) | (with_reducible refine side_q ?_ ?_; exact byQ)
      refine cw_m (ListOf_c l p g ok) byW byT ?_
      simp only [go_sem]
      repeat first | (with_reducible refine side_d ?_ ?_; exact byD) | (with_reducible refine side_q ?_ ?_; exact byQ)
      have he : insAll (namesAt l p) = listP l p := by rw [listR l p g, listP, if_pos hE]
      refine mt_next () trivial ?_
      rw [he]
      exact byC
    ·
      (try simp only [go_sem] at h42)
      refine cx_skip ?_
      (try simp only [go_sem])
      have he : listP l p = [] := by rw [listP, if_neg (by simpa using h42)]
      refine mt_next () trivial ?_
      rw [he]
      exact byC
  simp only [go_sem]
  refine cx_sr ?_
  simp only [go_sem]
  repeat first | (with_reducible refine side_d ?_ ?_; exact byD) | (with_reducible refine side_q ?_ ?_; exact byQ)
  refine cx_seq ?_
  refine cx_sr ?_
  simp only [go_sem]
  repeat first | (with_reducible refine side_d ?_ ?_; exact byD) | (with_reducible refine side_q ?_ ?_; exact byQ)
  refine cx_block ?_
  refine cx_loop0 (σ := Nat) (fun i => i ≤ l.length ∧ (i = 0 ∨ checkT l = 0)) (fun i => [⟨13, 0, [], .int .i64 (i : Nat)⟩, ⟨12, 0, [], .int .i64 (sizeTo l i : Nat)⟩]) [0, 4, 5, 6, 7, 8, 9, 10, 11] (fun i => l.length - i) 0 ⟨Nat.zero_le _, .inl rfl⟩ (Nat.zero_le _) byC (fun i hI1 => ?_)
  simp only [go_sem]
  have hsz := sizeTo_le ok i hI1.1
  refine cx_seq ?_
  refine cx_sr ?_
  simp only [go_sem]
  repeat first | (with_reducible refine side_d ?_ ?_; exact byD) | (with_reducible refine side_q ?_ ?_; exact byQ)
  intro t49 e49
  repeat first | (with_reducible refine side_d ?_ ?_; exact byD) | (with_reducible refine side_q ?_ ?_; exact byQ)
  intro t52 e52
  repeat first | (with_reducible refine side_d ?_ ?_; exact byD) | (with_reducible refine side_q ?_ ?_; exact byQ)
  intro t53 e53
  rw [bsel_and] at e53
  repeat first | (with_reducible refine side_d ?_ ?_; exact byD) | (with_reducible refine side_q ?_ ?_; exact byQ)
  subst e49 e52 e53
  refine cx_if _ rfl (fun h53 => ?_) (fun h53 => ?_)
  ·
    (try simp only [go_sem] at h53)
    have hlt : i < l.length ∧ checkT l = 0 := by simpa using h53
    have hsn : sizeTo l (i + 1) = sizeTo l i + (l.getD i default).text.length := rfl
    have hs1 := sizeTo_le ok (i + 1) (by omega)
    refine cx_skip ?_
    (try simp only [go_sem])
    refine cx_seq (cx_block ?_)
    refine cx_region ?_
    simp only [go_sem]
    repeat first | (with_reducible refine side_d ?_ ?_; exact byD) | (with_reducible refine side_q ?_ ?_; exact byQ)
    intro t63 e63
    (try replace e63 := w64 e63 (by omega) (by omega))
    repeat first | (with_reducible refine side_d ?_ ?_; exact byD) | (with_reducible refine side_q ?_ ?_; exact byQ)
    refine cx_region ?_
    simp only [go_sem]
    repeat first | (with_reducible refine side_d ?_ ?_; exact byD) | (with_reducible refine side_q ?_ ?_; exact byQ)
    intro t55 e55
    (try replace e55 := w64 e55 (by omega) (by omega))
    repeat first | (with_reducible refine side_d ?_ ?_; exact byD) | (with_reducible refine side_q ?_ ?_; exact byQ)
    refine rnd_next (i + 1) ⟨by omega, .inr hlt.2⟩ (by first | omega | (dsimp only; omega)) ?_
    rw [hsn]
    exact byC
  ·
    (try simp only [go_sem] at h53)
    refine cx_exit ?_
    simp only [go_sem]
    refine cx_sr ?_
    simp only [go_sem]
    repeat first | (with_reducible refine side_d ?_ ?_; exact byD) | (with_reducible refine side_q ?_ ?_; exact byQ)
    refine cw_m (treeBegun_c) byW byT ?_
    simp only [go_sem]
    repeat first | (with_reducible refine side_d ?_ ?_; exact byD) | (with_reducible refine side_q ?_ ?_; exact byQ)
    intro t68 e68
    repeat first | (with_reducible refine side_d ?_ ?_; exact byD) | (with_reducible refine side_q ?_ ?_; exact byQ)
    intro t69 e69
    rw [bsel_and] at e69
    repeat first | (with_reducible refine side_d ?_ ?_; exact byD) | (with_reducible refine side_q ?_ ?_; exact byQ)
    refine ⟨_, fun hp => cw_v 2 (SameTexts_c (listP l p) (listP l p) (by omega) (by omega)) byV byC rfl ⟨rfl, rfl⟩, ?_⟩
    simp only [go_sem]
    repeat first | (with_reducible refine side_d ?_ ?_; exact byD) | (with_reducible refine side_q ?_ ?_; exact byQ)
    intro t74 e74
    rw [bsel_and] at e74
    repeat first | (with_reducible refine side_d ?_ ?_; exact byD) | (with_reducible refine side_q ?_ ?_; exact byQ)
    intro t78 e78
    repeat first | (with_reducible refine side_d ?_ ?_; exact byD) | (with_reducible refine side_q ?_ ?_; exact byQ)
    intro t79 e79
    rw [bsel_and] at e79
    repeat first | (with_reducible refine side_d ?_ ?_; exact byD) | (with_reducible refine side_q ?_ ?_; exact byQ)
    intro t83 e83
    repeat first | (with_reducible refine side_d ?_ ?_; exact byD) | (with_reducible refine side_q ?_ ?_; exact byQ)
    intro t84 e84
    rw [bsel_and] at e84
    repeat first | (with_reducible refine side_d ?_ ?_; exact byD) | (with_reducible refine side_q ?_ ?_; exact byQ)
    subst e68 e69 e74 e78 e79 e83 e84
    refine cx_ret ?_
    simp only [go_sem]
    refine finw_bool ?_
    have hi : l.length ≤ i ∨ ¬ checkT l = 0 := by simpa using h53
    have hz : sizeP l = (sizeTo l i : Nat) := by
      by_cases h : checkT l = 0
      · have : i = l.length := by
          rcases hi with h1 | h1
          · exact Nat.le_antisymm hI1.1 h1
          · exact absurd h h1
        rw [sizeP, if_pos h, this]
      · have : i = 0 := by
          rcases hI1.2 with h1 | h1
          · exact h1
          · exact absurd h1 h
        rw [sizeP, if_neg h, this]
        rfl
    simp [hz, sameL]
end Go.VM.Tryd
end
