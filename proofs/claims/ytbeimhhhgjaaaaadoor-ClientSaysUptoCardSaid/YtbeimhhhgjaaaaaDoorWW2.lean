import Derived.Test.YtbeimhhhgjaaaaaDoorWW1
import Derived.Test.YtbeimhhhgjaaaaaDoorWV5
section
set_option maxHeartbeats 4000000
set_option linter.unusedVariables false
set_option linter.unusedSimpArgs false
open Go Go.VM Go.Proofs Tether
namespace Go.VM.Tryd
set_option maxRecDepth 100000
def noE : Entry := ⟨[], false, [], 0⟩
def topE : Entry := ⟨[], true, [], 0⟩
def parE (l : List Entry) (p : Str) : Entry × Bool := if headOf p = [] then (topE, true) else if hasE l (headOf p) = true then (l.getD (eIx l (headOf p)) default, true) else (noE, false)
def sortedB (l : List Entry) : Bool := (List.range l.length).all fun i => decide (i = 0) || blt (l.getD (i - 1) default).path (l.getD i default).path
def parsB (l : List Entry) : Bool := l.all fun x => (parE l x.path).2
def parfB (l : List Entry) : Bool := l.all fun x => (parE l x.path).1.folder
def checkT (l : List Entry) : Int :=
  if 60 < (l.length : Int) then 2 else if firstErr entErr l ≠ 0 then firstErr entErr l else if sortedB l = false then 4 else if parsB l = false then 5 else if parfB l = false then 4 else 0
/-- entries that are not too great for memory -/
def okE (l : List Entry) : Prop := l.length ≤ 1048576 ∧ ∀ x ∈ l, x.path.length ≤ 1048576 ∧ x.text.length ≤ 1048576
theorem okE.at {l : List Entry} (h : okE l) {i : Nat} (hi : i < l.length) : (l.getD i default).path.length ≤ 1048576 ∧ (l.getD i default).text.length ≤ 1048576 := h.2 _ (getD_mem hi)
theorem sorted_of {l : List Entry} (h : ∀ i, 1 ≤ i → i < l.length → blt (l.getD (i - 1) default).path (l.getD i default).path = true) : SortedE l := by
  have hr : ∀ i, i + 1 < l.length → (l.getD i default).path < (l.getD (i + 1) default).path := fun i hi => blt_iff.1 (by simpa using h (i + 1) (by omega) hi)
  unfold SortedE
  clear h
  induction l with
  | nil => exact List.Pairwise.nil
  | cons x l ih =>
    have ih := ih fun i hi => by simpa using hr (i + 1) (by simpa using hi)
    refine List.pairwise_cons.2 ⟨fun y hy => ?_, ih⟩
    cases l with
    | nil => cases hy
    | cons z l =>
      have h0 : x.path < z.path := by simpa using hr 0 (by simp)
      rcases List.mem_cons.1 hy with rfl | hy
      · exact h0
      · exact lt_trans' h0 ((List.pairwise_cons.1 ih).1 y hy)
theorem sortedB_of {l : List Entry} (h : ∀ i, 1 ≤ i → i < l.length → blt (l.getD (i - 1) default).path (l.getD i default).path = true) : sortedB l = true := by
  unfold sortedB
  refine range_all_true fun i hi => ?_
  by_cases h0 : i = 0
  · simp [h0]
  · rw [h i (by omega) hi]; simp
theorem sortedB_iff {l : List Entry} : sortedB l = true ↔ SortedE l := by
  constructor
  · intro h
    refine sorted_of fun i h1 h2 => ?_
    have := List.all_eq_true.1 h i (by simpa using h2)
    simpa [show i ≠ 0 by omega] using this
  · intro h
    refine sortedB_of fun i h1 h2 => blt_iff.2 ?_
    have := List.pairwise_iff_getElem.1 h (i - 1) i (by omega) h2 (by omega)
    simpa [List.getD, h2, show i - 1 < l.length by omega] using this
theorem parent_c (l : List Entry) (p : Str) (hs : SortedE l) (hl : l.length < 4611686018427387904) (hp : p.length < 4611686018427387904) : Meets Tryd.prog 56 [esV l, .str p] (.tup [.agg (parE l p).1.enc, .bool (parE l p).2]) [] := by
  refine meets_x (fn := Tryd.f56) Tryd.func56 rfl fb56 (by kernel_rfl) (Nat.le_of_ble_eq_true rfl) ?_
  refine cx_sr ?_
  simp only [go_sem]
  repeat first | (with_reducible refine side_d ?_ ?_; exact byD) | (with_reducible refine side_q ?_ ?_; exact byQ)
  refine cx_sr ?_
  simp only [go_sem]
  refine cw_m (Split_c p hp) byW byT ?_
  simp only [go_sem]
  refine cx_seq ?_
  refine cx_sr ?_
  simp only [go_sem]
  intro t16 e16
  subst e16
  refine cx_if _ rfl (fun h16 => ?_) (fun h16 => ?_)
  ·
   (try simp only [go_sem] at h16)
   refine cx_sr ?_
   simp only [go_sem]
   refine cx_ret ?_
   simp only [go_sem]
   have h : headOf p = [] := by simpa using h16
   rw [parE, if_pos h]
   exact finw_flat rfl (wk_refl _)
  ·
   (try simp only [go_sem] at h16)
   refine cx_skip ?_
   (try simp only [go_sem])
   refine cx_sr ?_
   simp only [go_sem]
   refine cw_m (At_c l (headOf p) hs hl) byW byT ?_
   simp only [go_sem]
   refine cx_seq ?_
   refine cx_sr ?_
   simp only [go_sem]
   intro t25 e25
   subst e25
   refine cx_if _ rfl (fun h25 => ?_) (fun h25 => ?_)
   ·
    (try simp only [go_sem] at h25)
    refine cx_sr ?_
    simp only [go_sem]
    refine cx_ret ?_
    simp only [go_sem]
    have h : ¬ headOf p = [] := by simpa using h16
    have hh : ¬ hasE l (headOf p) = true := by simpa using h25
    rw [parE, if_neg h, if_neg hh]
    exact finw_flat rfl (wk_refl _)
   ·
    (try simp only [go_sem] at h25)
    have hh : hasE l (headOf p) = true := by simpa using h25
    have hix : eIx l (headOf p) < l.length := by simp [hasE] at hh; exact hh.1
    refine cx_skip ?_
    (try simp only [go_sem])
    refine cx_sr ?_
    simp only [go_sem]
    repeat first | (with_reducible refine side_d ?_ ?_; exact byD) | (with_reducible refine side_q ?_ ?_; exact byQ)
    refine cx_ret ?_
    simp only [go_sem]
    have h : ¬ headOf p = [] := by simpa using h16
    rw [parE, if_neg h, if_pos hh]
    exact finw_flat rfl (wk_refl _)
def outP (l : List Entry) (i : Nat) : Int := if ((l.take i).all fun x => (parE l x.path).1.folder) = true then 0 else 4
theorem outP_snoc {l : List Entry} {i : Nat} (h : i < l.length) : ((l.take (i + 1)).all fun x => (parE l x.path).1.folder) = (((l.take i).all fun x => (parE l x.path).1.folder) && (parE l (l.getD i default).path).1.folder) := by
  have hd : l.getD i default = l[i] := by simp [List.getD, h]
  rw [hd, List.take_add_one, List.getElem?_eq_getElem h, List.all_append]
  simp
theorem checkTree_c (l : List Entry) (ok : okE l) : Meets Tryd.prog 40 [esV l] (.int .i64 (checkT l)) [] := by
  refine meets_x (fn := Tryd.f40) Tryd.func40 rfl fb40 (by kernel_rfl) (Nat.le_of_ble_eq_true rfl) ?_
  have hl := ok.1
  refine cx_sr ?_
  simp only [go_sem]
  repeat first | (with_reducible refine side_d ?_ ?_; exact byD) | (with_reducible refine side_q ?_ ?_; exact byQ)
  refine cx_seq ?_
  refine cx_sr ?_
  simp only [go_sem]
  intro t14 e14
  subst e14
  refine cx_if _ rfl (fun h14 => ?_) (fun h14 => ?_)
  ·
   (try simp only [go_sem] at h14)
   refine cx_sr ?_
   simp only [go_sem]
   refine cx_ret ?_
   simp only [go_sem]
   refine finw_int ?_
   rw [checkT, if_pos (by omega)]
  ·
   (try simp only [go_sem] at h14)
   have h60 : ¬ 60 < (l.length : Int) := by omega
   refine cx_skip ?_
   (try simp only [go_sem])
   refine cx_seq ?_
   refine cx_sr ?_
   simp only [go_sem]
   refine cx_block ?_
   refine cx_loop0 (σ := Nat) (fun i => i ≤ l.length ∧ ∀ j, j < i → entErr (l.getD j default) = 0) (fun i => [⟨17, 0, [], .int .i64 (i : Nat)⟩]) [0, 15, 16] (fun i => l.length - i) 0 ⟨Nat.zero_le _, fun j hj => absurd hj (Nat.not_lt_zero j)⟩ (Nat.zero_le _) byC (fun i hI1 => ?_)
   simp only [go_sem]
   refine cx_sr ?_
   simp only [go_sem]
   repeat first | (with_reducible refine side_d ?_ ?_; exact byD) | (with_reducible refine side_q ?_ ?_; exact byQ)
   intro t18 e18
   subst e18
   refine cx_seq ?_
   refine cx_if _ rfl (fun h18 => ?_) (fun h18 => ?_)
   ·
    (try simp only [go_sem] at h18)
    refine cx_skip ?_
    (try simp only [go_sem])
    refine cx_seq (cx_block ?_)
    refine cx_sr ?_
    simp only [go_sem]
    repeat first | (with_reducible refine side_d ?_ ?_; exact byD) | (with_reducible refine side_q ?_ ?_; exact byQ)
    refine cx_sr ?_
    simp only [go_sem]
    refine cw_m (checkEntry_c (l.getD i default) (by have := ok.at (i := i) (by omega); omega)) byW byT ?_
    simp only [go_sem]
    refine cx_sr ?_
    simp only [go_sem]
    intro t24 e24
    subst e24
    refine cx_if _ rfl (fun h24 => ?_) (fun h24 => ?_)
    ·
     (try simp only [go_sem] at h24)
     refine cx_sr ?_
     simp only [go_sem]
     refine cx_ret ?_
     simp only [go_sem]
     refine finw_int ?_
     have h1 : firstErr entErr l = entErr (l.getD i default) := firstErr_at (by omega) hI1.2 h24
     rw [checkT, if_neg h60, if_pos (by rw [h1]; exact h24), h1]
    ·
     (try simp only [go_sem] at h24)
     refine cx_skip ?_
     (try simp only [go_sem])
     refine cx_region ?_
     simp only [go_sem]
     intro t26 e26
     (try replace e26 := w64 e26 (by omega) (by omega))
     refine rnd_next (i + 1) ⟨by omega, all_next hI1.2 (by simpa using h24)⟩ (by first | omega | (dsimp only; omega)) byC
   ·
    (try simp only [go_sem] at h18)
    have hE : firstErr entErr l = 0 := firstErr_none (d := default) fun j hj => hI1.2 j (by omega)
    refine cx_exit ?_
    simp only [go_sem]
    refine cx_seq ?_
    refine cx_sr ?_
    simp only [go_sem]
    refine cx_block ?_
    refine cx_loop0 (σ := Nat) (fun i => 1 ≤ i ∧ (i ≤ l.length ∨ i = 1) ∧ ∀ j, j < i → 1 ≤ j → blt (l.getD (j - 1) default).path (l.getD j default).path = true) (fun i => [⟨6, 0, [], .int .i64 (i : Nat)⟩]) [0] (fun i => l.length - i) 1 ⟨Nat.le_refl _, .inr rfl, fun j h1 h2 => by omega⟩ (Nat.zero_le _) byC (fun i hI2 => ?_)
    simp only [go_sem]
    refine cx_seq ?_
    refine cx_sr ?_
    simp only [go_sem]
    repeat first | (with_reducible refine side_d ?_ ?_; exact byD) | (with_reducible refine side_q ?_ ?_; exact byQ)
    intro t30 e30
    subst e30
    refine cx_if _ rfl (fun h30 => ?_) (fun h30 => ?_)
    ·
     (try simp only [go_sem] at h30)
     refine cx_skip ?_
     (try simp only [go_sem])
     refine cx_seq (cx_block ?_)
     refine cx_seq (cx_draw mixed [] (.first 0 (.first 1 (.first 2 (.first 3 (.first 4 (.first 5 (.first 6 (.first 7 (.first 8 (.first 9 (.first 10 (.first 11 (.done))))))))))))) (by kernel_rfl) ?_)
     simp only [go_sem]
     repeat first | (with_reducible refine side_d ?_ ?_; exact byD) | (with_reducible refine side_q ?_ ?_; exact byQ)
     intro t40 e40
     (try replace e40 := w64 e40 (by omega) (by omega))
     repeat first | (with_reducible refine side_d ?_ ?_; exact byD) | (with_reducible refine side_q ?_ ?_; exact byQ)
     intro t44 e44
     subst e44
     have e40' : t40.toNat = i - 1 := by omega
     refine cx_if _ rfl (fun h44 => ?_) (fun h44 => ?_)
     ·
      (try simp only [go_sem] at h44)
      refine cx_sr ?_
      simp only [go_sem]
      refine cx_ret ?_
      simp only [go_sem]
      refine finw_int ?_
      have hr : sortedB l = false := by
        have hb : blt (l.getD (i - 1) default).path (l.getD i default).path = false := by
          rw [e40'] at h44
          rcases h44 with h | h
          · rw [blt_iff] at h
            cases hb : blt (l.getD (i - 1) default).path (l.getD i default).path with
            | false => rfl
            | true => exact absurd (blt_iff.1 hb) (lt_asymm' h)
          · cases hb : blt (l.getD (i - 1) default).path (l.getD i default).path with
            | false => rfl
            | true =>
              have := blt_iff.1 hb
              rw [h] at this
              exact absurd this (lt_irrefl' _)
        refine range_all_false (i := i) (by omega) ?_
        rw [hb, decide_eq_false (by omega)]
        rfl
      rw [checkT, if_neg h60, if_neg (by simp [hE]), if_pos hr]
     ·
      (try simp only [go_sem] at h44)
      refine cx_skip ?_
      (try simp only [go_sem])
      refine cx_region ?_
      simp only [go_sem]
      intro t32 e32
      (try replace e32 := w64 e32 (by omega) (by omega))
      have hb : blt (l.getD (i - 1) default).path (l.getD i default).path = true := by
        rw [e40'] at h44
        rcases str_tri (l.getD (i - 1) default).path (l.getD i default).path with h | h | h
        · exact blt_iff.2 h
        · exact absurd h.symm h44.2
        · rw [← blt_iff, h44.1] at h
          cases h
      refine rnd_next (i + 1) ⟨by omega, by omega, fun j h1 h2 => ?_⟩ (by first | omega | (dsimp only; omega)) byC
      rcases Nat.lt_or_ge j i with h3 | h3
      · exact hI2.2.2 j h3 h2
      · obtain rfl : j = i := by omega
        exact hb
    ·
     (try simp only [go_sem] at h30)
     have hs : SortedE l := sorted_of fun i' h1 h2 => hI2.2.2 i' (by omega) h1
     refine cx_exit ?_
     simp only [go_sem]
     refine cx_sr ?_
     simp only [go_sem]
     refine cx_seq ?_
     refine cx_sr ?_
     simp only [go_sem]
     refine cx_block ?_
     refine cx_loop0 (σ := Nat) (fun i => i ≤ l.length ∧ ∀ j, j < i → (parE l (l.getD j default).path).2 = true) (fun i => [⟨47, 0, [], .int .i64 (i : Nat)⟩, ⟨7, 0, [], .int .i64 (outP l i)⟩]) [0, 45, 46] (fun i => l.length - i) 0 ⟨Nat.zero_le _, fun j hj => absurd hj (Nat.not_lt_zero j)⟩ (Nat.zero_le _) byC (fun i hI3 => ?_)
     simp only [go_sem]
     refine cx_sr ?_
     simp only [go_sem]
     repeat first | (with_reducible refine side_d ?_ ?_; exact byD) | (with_reducible refine side_q ?_ ?_; exact byQ)
     intro t48 e48
     subst e48
     refine cx_seq ?_
     refine cx_if _ rfl (fun h48 => ?_) (fun h48 => ?_)
     ·
      (try simp only [go_sem] at h48)
      refine cx_skip ?_
      (try simp only [go_sem])
      refine cx_seq (cx_block ?_)
      refine cx_sr ?_
      simp only [go_sem]
      repeat first | (with_reducible refine side_d ?_ ?_; exact byD) | (with_reducible refine side_q ?_ ?_; exact byQ)
      refine cx_sr ?_
      simp only [go_sem]
      refine cw_m (parent_c l (l.getD i default).path hs (by omega) (by have := ok.at (i := i) (by omega); omega)) byW byT ?_
      simp only [go_sem]
      refine cx_block ?_
      refine cx_sr ?_
      simp only [go_sem]
      intro t60 e60
      subst e60
      refine cx_if _ rfl (fun h58 => ?_) (fun h58 => ?_)
      ·
       (try simp only [go_sem] at h58)
       refine cx_sr ?_
       simp only [go_sem]
       refine cx_ret ?_
       simp only [go_sem]
       refine finw_int ?_
       have hr : parsB l = false := all_at (d := default) (i := i) (by omega) (by simpa using h58)
       rw [checkT, if_neg h60, if_neg (by simp [hE]), if_neg (by simp [sortedB_iff.2 hs]), if_pos hr]
      ·
       (try simp only [go_sem] at h58)
       refine cx_sr ?_
       simp only [go_sem]
       intro t64 e64
       subst e64
       refine cx_if _ rfl (fun h61 => ?_) (fun h61 => ?_)
       ·
        (try simp only [go_sem] at h61)
        refine cx_region ?_
        simp only [go_sem]
        refine cx_region ?_
        simp only [go_sem]
        intro t65 e65
        (try replace e65 := w64 e65 (by omega) (by omega))
        have hf : (parE l (l.getD i default).path).1.folder = false := by simpa using h61
        have ho : outP l (i + 1) = 4 := by
          rw [outP, if_neg]
          rw [outP_snoc (by omega), hf]
          simp
        refine rnd_next (i + 1) ⟨by omega, all_next hI3.2 (by simpa using h58)⟩ (by first | omega | (dsimp only; omega)) ?_
        rw [ho]
        exact byC
       ·
        (try simp only [go_sem] at h61)
        refine cx_skip ?_
        (try simp only [go_sem])
        refine cx_region ?_
        simp only [go_sem]
        intro t65 e65
        (try replace e65 := w64 e65 (by omega) (by omega))
        have hf : (parE l (l.getD i default).path).1.folder = true := by simpa using h61
        have ho : outP l (i + 1) = outP l i := by
          rw [outP, outP, outP_snoc (by omega), hf, Bool.and_true]
        refine rnd_next (i + 1) ⟨by omega, all_next hI3.2 (by simpa using h58)⟩ (by first | omega | (dsimp only; omega)) ?_
        rw [ho]
        exact byC
     ·
      (try simp only [go_sem] at h48)
      have hP : parsB l = true := all_of (d := default) fun j hj => hI3.2 j (by omega)
      refine cx_exit ?_
      simp only [go_sem]
      refine cx_sr ?_
      simp only [go_sem]
      refine cx_ret ?_
      simp only [go_sem]
      refine finw_int ?_
      have hi : i = l.length := by omega
      rw [checkT, if_neg h60, if_neg (by simp [hE]), if_neg (by simp [sortedB_iff.2 hs]), if_neg (by simp [hP]), hi, outP, List.take_length, parfB]
      by_cases h : (l.all fun x => (parE l x.path).1.folder) = true
      · rw [if_pos h, if_neg (by simp [h])]
      · rw [if_neg h, if_pos (by simpa using h)]
end Go.VM.Tryd
end
section
set_option maxHeartbeats 4000000
set_option linter.unusedVariables false
set_option linter.unusedSimpArgs false
open Go Go.VM Go.Proofs Tether
namespace Go.VM.Tryd
set_option maxRecDepth 100000
def treeE (t : List Entry) : List V := [esV t]
theorem treeE_eq (t : List Entry) : treeE t = [esV t] := rfl
attribute [go_sem] treeE_eq
theorem tcheck_c (ls : List (List Entry)) (hl : ls.length < 4611686018427387904) (ok : ∀ t ∈ ls, okE t) : Meets Tryd.prog 24 [lstV 1 treeE [] ls] (.int .i64 (firstErr checkT ls)) [] := by
  refine meets_x (fn := Tryd.f24) Tryd.func24 rfl fb24 (by kernel_rfl) (Nat.le_of_ble_eq_true rfl) ?_
  refine cx_sr ?_
  simp only [go_sem]
  repeat first | (with_reducible refine side_d ?_ ?_; exact byD) | (with_reducible refine side_q ?_ ?_; exact byQ)
  refine cx_seq ?_
  refine cx_sr ?_
  simp only [go_sem]
  refine cx_block ?_
  refine cx_loop0 (σ := Nat) (fun i => i ≤ ls.length ∧ ∀ j, j < i → checkT (ls.getD j []) = 0) (fun i => [⟨8, 0, [], .int .i64 (i : Nat)⟩]) [6, 7] (fun i => ls.length - i) 0 ⟨Nat.zero_le _, fun j hj => absurd hj (Nat.not_lt_zero j)⟩ (Nat.zero_le _) byC (fun i hI1 => ?_)
  simp only [go_sem]
  refine cx_sr ?_
  simp only [go_sem]
  repeat first | (with_reducible refine side_d ?_ ?_; exact byD) | (with_reducible refine side_q ?_ ?_; exact byQ)
  intro t9 e9
  subst e9
  refine cx_seq ?_
  refine cx_if _ rfl (fun h9 => ?_) (fun h9 => ?_)
  ·
   (try simp only [go_sem] at h9)
   refine cx_skip ?_
   (try simp only [go_sem])
   refine cx_seq (cx_block ?_)
   refine cx_sr ?_
   simp only [go_sem]
   repeat first | (with_reducible refine side_d ?_ ?_; exact byD) | (with_reducible refine side_q ?_ ?_; exact byQ)
   refine cx_sr ?_
   simp only [go_sem]
   refine cw_m (checkTree_c (ls.getD i []) (ok _ (getD_mem (by omega)))) byW byT ?_
   simp only [go_sem]
   refine cx_sr ?_
   simp only [go_sem]
   intro t15 e15
   subst e15
   refine cx_if _ rfl (fun h15 => ?_) (fun h15 => ?_)
   ·
    (try simp only [go_sem] at h15)
    refine cx_sr ?_
    simp only [go_sem]
    refine cx_ret ?_
    simp only [go_sem]
    refine finw_int ?_
    exact (firstErr_at (by omega) hI1.2 h15).symm
   ·
    (try simp only [go_sem] at h15)
    refine cx_skip ?_
    (try simp only [go_sem])
    refine cx_region ?_
    simp only [go_sem]
    intro t17 e17
    (try replace e17 := w64 e17 (by omega) (by omega))
    refine rnd_next (i + 1) ⟨by omega, all_next hI1.2 (by simpa using h15)⟩ (by first | omega | (dsimp only; omega)) byC
  ·
   (try simp only [go_sem] at h9)
   refine cx_exit ?_
   simp only [go_sem]
   refine cx_sr ?_
   simp only [go_sem]
   refine cx_ret ?_
   simp only [go_sem]
   refine finw_int ?_
   exact (firstErr_none (d := []) fun j hj => hI1.2 j (by omega)).symm
theorem tcheck1_c (l : List Entry) (ok : okE l) : Meets Tryd.prog 24 [lstV 1 treeE [] [l]] (.int .i64 (checkT l)) [] := by
  have h := tcheck_c [l] (by simp) (by simpa using ok)
  have e : firstErr checkT [l] = checkT l := by
    simp only [firstErr]
    by_cases h : checkT l = 0 <;> simp [h]
  rwa [e] at h
theorem TCheck_c (l : List Entry) (ok : okE l) : Meets Tryd.prog 33 [esV l] (.int .i64 (checkT l)) [] := by
  refine meets_x (fn := Tryd.f33) Tryd.func33 rfl fb33 (by kernel_rfl) (Nat.le_of_ble_eq_true rfl) ?_
  refine cx_sr ?_
  simp only [go_sem]
  repeat first | (with_reducible refine side_d ?_ ?_; exact byD) | (with_reducible refine side_q ?_ ?_; exact byQ)
  refine cx_sr ?_
  simp only [go_sem]
  refine cw_v 2 (tcheck1_c l ok) byV byC rfl ?_
  simp only [go_sem]
  refine cx_ret ?_
  simp only [go_sem]
  exact finw_int rfl
end Go.VM.Tryd
end
section
set_option maxHeartbeats 4000000
set_option linter.unusedVariables false
set_option linter.unusedSimpArgs false
open Go Go.VM Go.Proofs Tether
namespace Go.VM.Tryd
set_option maxRecDepth 100000
def formP (c : Change) : Int :=
  if c.kind < 1 ∨ 4 < c.kind then 7 else if checkP [c.path] ≠ 0 then checkP [c.path] else if c.kind = 3 ∧ checkP [c.to] ≠ 0 then checkP [c.to]
  else if (c.kind ≠ 3 ∧ c.to ≠ []) ∨ (c.kind ≠ 2 ∧ c.text ≠ []) then 1 else if 300 < (c.text.length : Int) then 2 else if c.base < -1 ∨ 1000000 < c.base then 3 else 0
def okC (c : Change) : Prop := c.path.length ≤ 1048576 ∧ c.to.length ≤ 1048576 ∧ c.text.length ≤ 1048576
theorem form_c (c : Change) (ok : okC c) : Meets Tryd.prog 41 [.agg c.enc] (.int .i64 (formP c)) [] := by
  refine meets_x (fn := Tryd.f41) Tryd.func41 rfl fb41 (by kernel_rfl) (Nat.le_of_ble_eq_true rfl) ?_
  obtain ⟨ok1, ok2, ok3⟩ := ok
  refine cx_sr ?_
  simp only [go_sem]
  repeat first | (with_reducible refine side_d ?_ ?_; exact byD) | (with_reducible refine side_q ?_ ?_; exact byQ)
  refine cx_seq ?_
  refine cx_sr ?_
  simp only [go_sem]
  intro t7 e7
  intro t11 e11
  intro t12 e12
  rw [bsel_or] at e12
  subst e7 e11 e12
  refine cx_if _ rfl (fun h12 => ?_) (fun h12 => ?_)
  ·
   (try simp only [go_sem] at h12)
   refine cx_sr ?_
   simp only [go_sem]
   refine cx_ret ?_
   simp only [go_sem]
   refine finw_int ?_
   unfold formP
   grind
  ·
   (try simp only [go_sem] at h12)
   refine cx_skip ?_
   (try simp only [go_sem])
   refine cx_seq ?_
   refine cx_sr ?_
   simp only [go_sem]
   refine cw_m (Check_c c.path (by omega)) byW byT ?_
   simp only [go_sem]
   refine cx_sr ?_
   simp only [go_sem]
   intro t17 e17
   subst e17
   refine cx_if _ rfl (fun h17 => ?_) (fun h17 => ?_)
   ·
    (try simp only [go_sem] at h17)
    refine cx_sr ?_
    simp only [go_sem]
    refine cx_ret ?_
    simp only [go_sem]
    refine finw_int ?_
    unfold formP
    grind
   ·
    (try simp only [go_sem] at h17)
    refine cx_skip ?_
    (try simp only [go_sem])
    refine cx_seq ?_
    refine cx_sr ?_
    simp only [go_sem]
    intro t21 e21
    subst e21
    refine cx_if _ rfl (fun h21 => ?_) (fun h21 => ?_)
    ·
     (try simp only [go_sem] at h21)
     refine cx_sr ?_
     simp only [go_sem]
     refine cw_m (Check_c c.to (by omega)) byW byT ?_
     simp only [go_sem]
     refine cx_sr ?_
     simp only [go_sem]
     intro t26 e26
     subst e26
     refine cx_if _ rfl (fun h26 => ?_) (fun h26 => ?_)
     ·
      (try simp only [go_sem] at h26)
      refine cx_sr ?_
      simp only [go_sem]
      refine cx_ret ?_
      simp only [go_sem]
      refine finw_int ?_
      unfold formP
      grind
     ·
      (try simp only [go_sem] at h26)
      refine cx_skip ?_
      (try simp only [go_sem])
      refine cx_seq (cx_block ?_)
      refine cx_sr ?_
      simp only [go_sem]
      intro t31 e31
      intro t35 e35
      intro t36 e36
      rw [bsel_and] at e36
      intro t40 e40
      intro t44 e44
      intro t45 e45
      rw [bsel_and] at e45
      intro t46 e46
      rw [bsel_or] at e46
      subst e31 e35 e36 e40 e44 e45 e46
      refine cx_if _ rfl (fun h28 => ?_) (fun h28 => ?_)
      ·
       (try simp only [go_sem] at h28)
       refine cx_sr ?_
       simp only [go_sem]
       refine cx_ret ?_
       simp only [go_sem]
       refine finw_int ?_
       unfold formP
       grind
      ·
       (try simp only [go_sem] at h28)
       refine cx_sr ?_
       simp only [go_sem]
       intro t51 e51
       subst e51
       refine cx_if _ rfl (fun h47 => ?_) (fun h47 => ?_)
       ·
        (try simp only [go_sem] at h47)
        refine cx_sr ?_
        simp only [go_sem]
        refine cx_ret ?_
        simp only [go_sem]
        refine finw_int ?_
        unfold formP
        grind
       ·
        (try simp only [go_sem] at h47)
        refine cx_sr ?_
        simp only [go_sem]
        intro t55 e55
        intro t59 e59
        intro t60 e60
        rw [bsel_or] at e60
        subst e55 e59 e60
        refine cx_if _ rfl (fun h52 => ?_) (fun h52 => ?_)
        ·
         (try simp only [go_sem] at h52)
         refine cx_sr ?_
         simp only [go_sem]
         refine cx_ret ?_
         simp only [go_sem]
         refine finw_int ?_
         unfold formP
         grind
        ·
         (try simp only [go_sem] at h52)
         refine cx_skip ?_
         (try simp only [go_sem])
         refine cx_sr ?_
         simp only [go_sem]
         refine cx_ret ?_
         simp only [go_sem]
         refine finw_int ?_
         unfold formP
         grind
    ·
     (try simp only [go_sem] at h21)
     refine cx_skip ?_
     (try simp only [go_sem])
     refine cx_seq (cx_block ?_)
     refine cx_sr ?_
     simp only [go_sem]
     intro t31 e31
     intro t35 e35
     intro t36 e36
     rw [bsel_and] at e36
     intro t40 e40
     intro t44 e44
     intro t45 e45
     rw [bsel_and] at e45
     intro t46 e46
     rw [bsel_or] at e46
     subst e31 e35 e36 e40 e44 e45 e46
     refine cx_if _ rfl (fun h28 => ?_) (fun h28 => ?_)
     ·
      (try simp only [go_sem] at h28)
      refine cx_sr ?_
      simp only [go_sem]
      refine cx_ret ?_
      simp only [go_sem]
      refine finw_int ?_
      unfold formP
      grind
     ·
      (try simp only [go_sem] at h28)
      refine cx_sr ?_
      simp only [go_sem]
      intro t51 e51
      subst e51
      refine cx_if _ rfl (fun h47 => ?_) (fun h47 => ?_)
      ·
       (try simp only [go_sem] at h47)
       refine cx_sr ?_
       simp only [go_sem]
       refine cx_ret ?_
       simp only [go_sem]
       refine finw_int ?_
       unfold formP
       grind
      ·
       (try simp only [go_sem] at h47)
       refine cx_sr ?_
       simp only [go_sem]
       intro t55 e55
       intro t59 e59
       intro t60 e60
       rw [bsel_or] at e60
       subst e55 e59 e60
       refine cx_if _ rfl (fun h52 => ?_) (fun h52 => ?_)
       ·
        (try simp only [go_sem] at h52)
        refine cx_sr ?_
        simp only [go_sem]
        refine cx_ret ?_
        simp only [go_sem]
        refine finw_int ?_
        unfold formP
        grind
       ·
        (try simp only [go_sem] at h52)
        refine cx_skip ?_
        (try simp only [go_sem])
        refine cx_sr ?_
        simp only [go_sem]
        refine cx_ret ?_
        simp only [go_sem]
        refine finw_int ?_
        unfold formP
        grind
def staleB (c : Change) (x : Entry) : Bool := decide (c.base < x.version) && isIn x.path c.path
theorem stale_c (c : Change) (x : Entry) (ok : okC c) (hx : x.path.length ≤ 1048576) : Meets Tryd.prog 58 [.agg x.enc, .iptr c.enc 0] (.bool (staleB c x)) [] := by
  refine meets_x (fn := Tryd.f58) Tryd.func58 rfl fb58 (by kernel_rfl) (Nat.le_of_ble_eq_true rfl) ?_
  refine cx_sr ?_
  simp only [go_sem]
  repeat first | (with_reducible refine side_d ?_ ?_; exact byD) | (with_reducible refine side_q ?_ ?_; exact byQ)
  refine cx_sr ?_
  simp only [go_sem]
  intro t8 e8
  refine ⟨_, fun hp => cw_m (In_c x.path c.path (by omega) (by have := ok.1; omega)) byW byT ⟨rfl, rfl⟩, ?_⟩
  simp only [go_sem]
  intro t15 e15
  rw [bsel_and] at e15
  subst e8 e15
  refine cx_ret ?_
  simp only [go_sem]
  exact finw_bool (by simp [staleB])
def goalP (c : Change) : Str := if c.kind = 3 then c.to else c.path
def mayP (l : List Entry) (c : Change) : Int :=
  if (parE l (goalP c)).2 = false then 5
  else if (parE l (goalP c)).1.folder = false then 4
  else if c.kind = 1 ∧ hasE l c.path = true then 6
  else if c.kind = 2 ∧ hasE l c.path = true ∧ (l.getD (eIx l c.path) default).folder = true then 4
  else if c.kind ≠ 1 ∧ c.kind ≠ 2 ∧ hasE l c.path = false then 5
  else if c.kind = 3 ∧ isIn c.to c.path = true then 3
  else if c.kind = 3 ∧ hasE l c.to = true then 6
  else if c.base ≠ -1 ∧ l.any (staleB c) = true then 8 else 0
theorem may_c (l : List Entry) (c : Change) (hs : SortedE l) (okl : okE l) (ok : okC c) : Meets Tryd.prog 42 [esV l, .agg c.enc] (.int .i64 (mayP l c)) [] := by
  refine meets_x (fn := Tryd.f42) Tryd.func42 rfl fb42 (by kernel_rfl) (Nat.le_of_ble_eq_true rfl) ?_
  have hl := okl.1
  obtain ⟨ok1, ok2, ok3⟩ := id ok
  have hgl : (goalP c).length ≤ 1048576 := by unfold goalP; split <;> omega
  have hix : ∀ p, hasE l p = true → eIx l p < l.length := fun p h => by simp [hasE] at h; exact h.1
  refine cx_sr ?_
  simp only [go_sem]
  repeat first | (with_reducible refine side_d ?_ ?_; exact byD) | (with_reducible refine side_q ?_ ?_; exact byQ)
  refine cx_sr ?_
  simp only [go_sem]
  refine cx_seq ?_
  refine cx_sr ?_
  simp only [go_sem]
  intro t17 e17
  subst e17
  refine cx_meet0 (σ := Unit) (fun u => True) (fun u => [⟨5, 0, [], .str (goalP c)⟩]) [0, 3, 4] (Nat.zero_le _) ?_ (fun u hIM1 => ?_)
  ·
   refine cx_if _ rfl (fun h17 => ?_) (fun h17 => ?_)
   ·
    (try simp only [go_sem] at h17)
    refine cx_region ?_
    simp only [go_sem]
    have hk : c.kind = 3 := by simpa using h17
    refine mt_next () trivial ?_
    rw [goalP, if_pos hk]
    exact byC
   ·
    (try simp only [go_sem] at h17)
    refine cx_skip ?_
    (try simp only [go_sem])
    have hk : ¬ c.kind = 3 := by simpa using h17
    refine mt_next () trivial ?_
    rw [goalP, if_neg hk]
    exact byC
  simp only [go_sem]
  refine cx_seq ?_
  refine cx_sr ?_
  simp only [go_sem]
  repeat first | (with_reducible refine side_d ?_ ?_; exact byD) | (with_reducible refine side_q ?_ ?_; exact byQ)
  refine cw_m (parent_c l (goalP c) hs (by omega) (by omega)) byW byT ?_
  simp only [go_sem]
  refine cx_block ?_
  refine cx_sr ?_
  simp only [go_sem]
  intro t28 e28
  subst e28
  refine cx_if _ rfl (fun h26 => ?_) (fun h26 => ?_)
  ·
   (try simp only [go_sem] at h26)
   refine cx_sr ?_
   simp only [go_sem]
   refine cx_ret ?_
   simp only [go_sem]
   refine finw_int ?_
   unfold mayP
   grind
  ·
   (try simp only [go_sem] at h26)
   refine cx_sr ?_
   simp only [go_sem]
   intro t32 e32
   subst e32
   refine cx_if _ rfl (fun h29 => ?_) (fun h29 => ?_)
   ·
    (try simp only [go_sem] at h29)
    refine cx_sr ?_
    simp only [go_sem]
    refine cx_ret ?_
    simp only [go_sem]
    refine finw_int ?_
    unfold mayP
    grind
   ·
    (try simp only [go_sem] at h29)
    refine cx_skip ?_
    (try simp only [go_sem])
    refine cx_sr ?_
    simp only [go_sem]
    refine cw_m (At_c l c.path hs (by omega)) byW byT ?_
    simp only [go_sem]
    refine cx_seq ?_
    refine cx_sr ?_
    simp only [go_sem]
    refine cx_meet0 (σ := Unit) (fun u => (c.kind = 1 → hasE l c.path = false) ∧ (c.kind = 2 → hasE l c.path = true → (l.getD (eIx l c.path) default).folder = false) ∧ (c.kind ≠ 1 → c.kind ≠ 2 → hasE l c.path = true)) (fun u => []) [0, 3] (Nat.zero_le _) ?_ (fun u hIM2 => ?_)
    ·
     refine cx_block ?_
     refine cx_sr ?_
     simp only [go_sem]
     intro t45 e45
     subst e45
     refine cx_if _ rfl (fun h44 => ?_) (fun h44 => ?_)
     ·
      (try simp only [go_sem] at h44)
      refine cx_sr ?_
      simp only [go_sem]
      refine cx_if _ rfl (fun h46 => ?_) (fun h46 => ?_)
      ·
       (try simp only [go_sem] at h46)
       refine cx_sr ?_
       simp only [go_sem]
       refine cx_ret ?_
       simp only [go_sem]
       refine finw_int ?_
       unfold mayP
       grind
      ·
       (try simp only [go_sem] at h46)
       refine cx_skip ?_
       (try simp only [go_sem])
       refine mt_next () (by grind) byC
     ·
      (try simp only [go_sem] at h44)
      refine cx_sr ?_
      simp only [go_sem]
      intro t48 e48
      subst e48
      refine cx_if _ rfl (fun h47 => ?_) (fun h47 => ?_)
      ·
       (try simp only [go_sem] at h47)
       refine cx_sr ?_
       simp only [go_sem]
       repeat ((with_reducible first | refine side_d ?_ ?_ | refine side_q ?_ ?_); focus (first | exact byD | exact byQ | ((refine Sd.of fun hp => ?_; simp only [pc, and_true] at hp; (have hq := hix c.path hp); omega))))
       repeat first | (with_reducible refine side_d ?_ ?_; exact byD) | (with_reducible refine side_q ?_ ?_; exact byQ)
       intro t56 e56
       rw [bsel_and] at e56
       subst e56
       refine cx_if _ rfl (fun h56 => ?_) (fun h56 => ?_)
       ·
        (try simp only [go_sem] at h56)
        refine cx_sr ?_
        simp only [go_sem]
        refine cx_ret ?_
        simp only [go_sem]
        refine finw_int ?_
        unfold mayP
        grind
       ·
        (try simp only [go_sem] at h56)
        refine cx_skip ?_
        (try simp only [go_sem])
        refine mt_next () (by grind) byC
      ·
       (try simp only [go_sem] at h47)
       refine cx_sr ?_
       simp only [go_sem]
       intro t43 e43
       subst e43
       refine cx_if _ rfl (fun h43 => ?_) (fun h43 => ?_)
       ·
        (try simp only [go_sem] at h43)
        refine cx_sr ?_
        simp only [go_sem]
        refine cx_ret ?_
        simp only [go_sem]
        refine finw_int ?_
        unfold mayP
        grind
       ·
        (try simp only [go_sem] at h43)
        refine cx_skip ?_
        (try simp only [go_sem])
        refine mt_next () (by grind) byC
    simp only [go_sem]
    refine cx_seq ?_
    refine cx_sr ?_
    simp only [go_sem]
    repeat first | (with_reducible refine side_d ?_ ?_; exact byD) | (with_reducible refine side_q ?_ ?_; exact byQ)
    intro t59 e59
    subst e59
    refine cx_if _ rfl (fun h59 => ?_) (fun h59 => ?_)
    ·
     (try simp only [go_sem] at h59)
     refine cx_seq ?_
     refine cx_sr ?_
     simp only [go_sem]
     refine cw_m (In_c c.to c.path (by omega) (by omega)) byW byT ?_
     simp only [go_sem]
     refine cx_if _ rfl (fun h64 => ?_) (fun h64 => ?_)
     ·
      (try simp only [go_sem] at h64)
      refine cx_sr ?_
      simp only [go_sem]
      refine cx_ret ?_
      simp only [go_sem]
      refine finw_int ?_
      unfold mayP
      grind
     ·
      (try simp only [go_sem] at h64)
      refine cx_skip ?_
      (try simp only [go_sem])
      refine cx_sr ?_
      simp only [go_sem]
      refine cw_m (At_c l c.to hs (by omega)) byW byT ?_
      simp only [go_sem]
      refine cx_sr ?_
      simp only [go_sem]
      refine cx_if _ rfl (fun h72 => ?_) (fun h72 => ?_)
      ·
       (try simp only [go_sem] at h72)
       refine cx_sr ?_
       simp only [go_sem]
       refine cx_ret ?_
       simp only [go_sem]
       refine finw_int ?_
       unfold mayP
       grind
      ·
       (try simp only [go_sem] at h72)
       refine cx_skip ?_
       (try simp only [go_sem])
       refine cx_sr ?_
       simp only [go_sem]
       refine cx_seq ?_
       refine cx_sr ?_
       simp only [go_sem]
       intro t76 e76
       refine ⟨_, fun hp => cw_v 2 (ContainsFunc_Entry 58 [.iptr c.enc 0] rfl (staleB c) l (fun x hx => stale_c c x ok (okl.2 x hx).1) (by omega)) byV byC rfl ⟨rfl, rfl⟩, ?_⟩
       simp only [go_sem]
       intro t81 e81
       rw [bsel_and] at e81
       subst e76 e81
       refine cx_if _ rfl (fun h81 => ?_) (fun h81 => ?_)
       ·
        (try simp only [go_sem] at h81)
        refine cx_sr ?_
        simp only [go_sem]
        refine cx_ret ?_
        simp only [go_sem]
        refine finw_int ?_
        unfold mayP
        grind
       ·
        (try simp only [go_sem] at h81)
        refine cx_skip ?_
        (try simp only [go_sem])
        refine cx_sr ?_
        simp only [go_sem]
        refine cx_ret ?_
        simp only [go_sem]
        refine finw_int ?_
        unfold mayP
        grind
    ·
     (try simp only [go_sem] at h59)
     refine cx_skip ?_
     (try simp only [go_sem])
     refine cx_sr ?_
     simp only [go_sem]
     refine cx_seq ?_
     refine cx_sr ?_
     simp only [go_sem]
     intro t76 e76
     refine ⟨_, fun hp => cw_v 2 (ContainsFunc_Entry 58 [.iptr c.enc 0] rfl (staleB c) l (fun x hx => stale_c c x ok (okl.2 x hx).1) (by omega)) byV byC rfl ⟨rfl, rfl⟩, ?_⟩
     simp only [go_sem]
     intro t81 e81
     rw [bsel_and] at e81
     subst e76 e81
     refine cx_if _ rfl (fun h81 => ?_) (fun h81 => ?_)
     ·
      (try simp only [go_sem] at h81)
      refine cx_sr ?_
      simp only [go_sem]
      refine cx_ret ?_
      simp only [go_sem]
      refine finw_int ?_
      unfold mayP
      grind
     ·
      (try simp only [go_sem] at h81)
      refine cx_skip ?_
      (try simp only [go_sem])
      refine cx_sr ?_
      simp only [go_sem]
      refine cx_ret ?_
      simp only [go_sem]
      refine finw_int ?_
      unfold mayP
      grind
end Go.VM.Tryd
end
section
set_option maxHeartbeats 4000000
set_option linter.unusedVariables false
set_option linter.unusedSimpArgs false
open Go Go.VM Go.Proofs Tether
namespace Go.VM.Tryd
set_option maxRecDepth 100000
theorem withoutIn_c (p : Str) (hp : p.length < 4611686018427387904) (x : Entry) (hx : x.path.length < 4611686018427387904) : Meets Tryd.prog 76 [.agg x.enc, .iptr [.str p] 0] (.bool (isIn x.path p)) [] := by
  refine meets_x (fn := Tryd.f76) Tryd.func76 rfl fb76 (by kernel_rfl) (Nat.le_of_ble_eq_true rfl) ?_
  refine cx_sr ?_
  simp only [go_sem]
  repeat first | (with_reducible refine side_d ?_ ?_; exact byD) | (with_reducible refine side_q ?_ ?_; exact byQ)
  refine cx_sr ?_
  simp only [go_sem]
  refine cw_m (In_c x.path p hx hp) byW byT ?_
  simp only [go_sem]
  refine cx_ret ?_
  simp only [go_sem]
  exact finw_bool rfl
/-- entries that are not too great -/
def outB (p : Str) (x : Entry) : Bool := !isIn x.path p
theorem stF_En {x : Entry} {l : List Entry} {k i : Nat} {vs : List V} (hk : k < l.length) (hx : spl (Entry.enc (l.getD k default)) 0 vs = Entry.enc x) : stF (En Entry.enc default l) k 0 vs i = En Entry.enc default (l.set k x) i := by
  unfold stF
  cases hb : Nat.beq i k with
  | true =>
    have e : i = k := Nat.eq_of_beq_eq_true hb
    subst e
    simp only [cond, En]
    rw [hx]
    simp [List.getD, hk]
  | false =>
    have hne : i ≠ k := Nat.ne_of_beq_eq_false hb
    simp only [cond, En]
    simp [List.getD, List.getElem?_set, Ne.symm hne]
theorem put_c (l : List Entry) (x : Entry) (hs : SortedE l) (hl : (l.length + 1) * 48 ≤ 140737488355328) :
    Does Tryd.prog 60 [.own none 0 4 0 l.length .loose, .agg x.enc] [.arr 4 l.length (En Entry.enc default l)]
      (.own none 1 4 0 (putE l x).length .loose) [.dead, .arr 4 (putE l x).length (En Entry.enc default (putE l x))] := by
  refine does_cx (fn := Tryd.f60) Tryd.func60 rfl fb60 (by kernel_rfl) (Nat.le_of_ble_eq_true rfl) ?_
  have hle := eIx_le l x.path
  refine cx_sr ?_
  simp only [go_sem]
  repeat first | (with_reducible refine side_d ?_ ?_; exact byD) | (with_reducible refine side_q ?_ ?_; exact byQ)
  refine cx_sr ?_
  simp only [go_sem]
  refine cw_v 2 (At_c l x.path hs (by omega)) byV byC rfl ?_
  simp only [go_sem]
  refine cx_seq ?_
  refine cx_sr ?_
  simp only [go_sem]
  refine cx_if _ rfl (fun h14 => ?_) (fun h14 => ?_)
  ·
   (try simp only [go_sem] at h14)
   have hh : hasE l x.path = true := by simpa using h14
   have hix : eIx l x.path < l.length := by simp [hasE] at hh; exact hh.1
   have hpu : putE l x = l.set (eIx l x.path) x := by rw [putE, if_pos hh]
   refine cx_sr ?_
   simp only [go_sem]
   repeat first | (with_reducible refine side_d ?_ ?_; exact byD) | (with_reducible refine side_q ?_ ?_; exact byQ)
   refine cx_move 0 rfl ?_
   simp only [go_sem]
   refine cx_sr ?_
   simp only [go_sem]
   refine cx_ret ?_
   simp only [go_sem]
   rw [hpu, List.length_set]
   refine ⟨[0, 2], rfl, rfl, ?_, ?_⟩
   · exact byC
   · simp only [go_sem, wk, wks, wkB, wkH]
     exact fun i hi => wks_mp_of (fun _ => rfl) (stF_En hix rfl)
  ·
   (try simp only [go_sem] at h14)
   have hh : ¬ hasE l x.path = true := by simpa using h14
   have hpu : putE l x = l.take (eIx l x.path) ++ x :: l.drop (eIx l x.path) := by rw [putE, if_neg hh]
   have hpl : (putE l x).length = l.length + 1 := by rw [putE_length, if_neg hh]
   refine cx_skip ?_
   (try simp only [go_sem])
   refine cx_sr ?_
   simp only [go_sem]
   refine cw_does (Insert_Entry l (eIx l x.path) x hle hl) [0, 2] rfl byC byC ?_
   simp only [go_sem]
   refine cx_ret ?_
   simp only [go_sem]
   rw [hpl, hpu]
   exact ⟨[0, 3], rfl, rfl, byC, byC⟩
theorem without_c (l : List Entry) (p : Str) (hp : p.length < 4611686018427387904) (hl : l.length < 4611686018427387904) (hx : ∀ x ∈ l, x.path.length < 4611686018427387904) :
    Does Tryd.prog 61 [.own none 0 4 0 l.length .loose, .str p] [.arr 4 l.length (En Entry.enc default l)]
      (.own none 0 4 0 (l.filter (outB p)).length .loose) [.arr 4 (l.filter (outB p)).length (En Entry.enc default (l.filter (outB p)))] := by
  refine does_cx (fn := Tryd.f61) Tryd.func61 rfl fb61 (by kernel_rfl) (Nat.le_of_ble_eq_true rfl) ?_
  refine cx_sr ?_
  simp only [go_sem]
  repeat first | (with_reducible refine side_d ?_ ?_; exact byD) | (with_reducible refine side_q ?_ ?_; exact byQ)
  refine cx_sr ?_
  simp only [go_sem]
  refine cw_does (DeleteFunc_Entry 76 [.str p] rfl (fun x => isIn x.path p) l (fun x h => withoutIn_c p hp x (hx x h)) hl) [0, 1] rfl byC byC ?_
  simp only [go_sem]
  refine cx_ret ?_
  simp only [go_sem]
  exact ⟨[0], rfl, rfl, byC, byC⟩
end Go.VM.Tryd
end
section
set_option maxHeartbeats 4000000
set_option linter.unusedVariables false
set_option linter.unusedSimpArgs false
open Go Go.VM Go.Proofs Tether
namespace Go.VM.Tryd
set_option maxRecDepth 100000
def inB (p : Str) (x : Entry) : Bool := isIn x.path p
def mvE (c : Change) (v : Int) (x : Entry) : Entry := ⟨c.to ++ x.path.drop c.path.length, x.folder, x.text, if x.path = c.path then v else x.version⟩
def goesP (l : List Entry) (c : Change) (v : Int) : List Entry := (l.filter (inB c.path)).map (mvE c v)
def movedL (l : List Entry) (c : Change) (v : Int) : List Entry := (goesP l c v).foldl putE (l.filter (outB c.path))
def greatG (l : List Entry) (c : Change) (v : Int) : Bool := (goesP l c v).any fun x => greatB x.path
/-- the tree that a change makes, whatever it is like -/
def madeP (l : List Entry) (c : Change) (v : Int) : List Entry :=
  if c.kind = 1 then putE l ⟨c.path, true, [], v⟩ else if c.kind = 2 then putE l ⟨c.path, false, c.text, v⟩ else if c.kind = 4 then l.filter (outB c.path) else if c.kind = 3 then movedL l c v else l
def doneErr (l : List Entry) (c : Change) (v : Int) : Int := if c.kind = 3 ∧ greatG l c v = true then 2 else if 60 < ((madeP l c v).length : Int) then 2 else 0
def doneP (l : List Entry) (c : Change) (v : Int) : List Entry := if doneErr l c v = 0 then madeP l c v else []
/-- paths that are right -/
def okP (l : List Entry) : Prop := l.length ≤ 120 ∧ ∀ x ∈ l, checkP [x.path] = 0
theorem checkP_len {p : Str} (h : checkP [p] = 0) : p.length ≤ 80 := by
  have := ((checkP_iff p).1 h).2
  rw [greatB_false] at this
  exact this.2
theorem goes_snoc {l : List Entry} {c : Change} {v : Int} {i : Nat} (h : i < l.length) : goesP (l.take (i + 1)) c v = if inB c.path (l.getD i default) = true then goesP (l.take i) c v ++ [mvE c v (l.getD i default)] else goesP (l.take i) c v := by
  have hd : l.getD i default = l[i] := by simp [List.getD, h]
  rw [hd, List.take_add_one, List.getElem?_eq_getElem h]
  unfold goesP
  rw [List.filter_append]
  by_cases hb : inB c.path l[i] = true
  · rw [if_pos hb]; simp [hb]
  · rw [if_neg hb]; simp [hb]
theorem goes_len (l : List Entry) (c : Change) (v : Int) : (goesP l c v).length ≤ l.length := by
  unfold goesP
  rw [List.length_map]
  exact List.length_filter_le _ _
theorem foldl_put_len : ∀ (g l : List Entry), (g.foldl putE l).length ≤ l.length + g.length
  | [], l => by simp
  | x :: g, l => by
    have := foldl_put_len g (putE l x)
    have h2 := putE_length l x
    simp only [List.foldl_cons, List.length_cons]
    split at h2 <;> omega
theorem foldl_put_sorted : ∀ (g : List Entry) {l : List Entry}, SortedE l → SortedE (g.foldl putE l)
  | [], _, h => h
  | x :: g, _, h => foldl_put_sorted g (putE_sorted h x)
theorem moved_ok {p f t : Str} (hp : checkP [p] = 0) (hf : checkP [f] = 0) (ht : checkP [t] = 0) (h : isIn p f = true) : movedP p f t = if greatB (t ++ p.drop f.length) = true then ([], 2) else (t ++ p.drop f.length, 0) := by
  have hc : checkP [p, f, t] = 0 := (checkP3 p f t).2 ⟨hp, hf, ht⟩
  rw [movedP, if_neg (by simp [hc]), if_neg (by simp [h])]
theorem great_at {l : List Entry} {c : Change} {v : Int} {i : Nat} (hi : i < l.length) (h : inB c.path (l.getD i default) = true) (hg : greatB (c.to ++ (l.getD i default).path.drop c.path.length) = true) : greatG l c v = true := by
  rw [greatG, List.any_eq_true]
  exact ⟨mvE c v (l.getD i default), List.mem_map_of_mem (List.mem_filter.2 ⟨getD_mem hi, h⟩), hg⟩
theorem done_c (l : List Entry) (c : Change) (v : Int) (hs : SortedE l) (okl : okP l) (hp : checkP [c.path] = 0) (ht : c.kind = 3 → checkP [c.to] = 0) :
    Does Tryd.prog 43 [.own none 0 4 0 l.length .loose, .agg c.enc, .int .i64 v] [.arr 4 l.length (En Entry.enc default l)]
      (.tup [.own none 1 4 0 (doneP l c v).length .loose, .int .i64 (doneErr l c v)]) [.dead, .arr 4 (doneP l c v).length (En Entry.enc default (doneP l c v))] := by
  refine does_cx (fn := Tryd.f43) Tryd.func43 rfl fb43 (by kernel_rfl) (Nat.le_of_ble_eq_true rfl) ?_
  have hl := okl.1
  have hcp := checkP_len hp
  refine cx_sr ?_
  simp only [go_sem]
  repeat first | (with_reducible refine side_d ?_ ?_; exact byD) | (with_reducible refine side_q ?_ ?_; exact byQ)
  refine cx_seq ?_
  refine cx_sr ?_
  simp only [go_sem]
  refine cx_meet (σ := Unit) (fun u => c.kind = 3 → greatG l c v = false) (fun u => [⟨0, 0, [], .own none 2 4 0 (madeP l c v).length .loose⟩]) [] (fun u => [.dead, .box c.enc, .arr 4 (madeP l c v).length (En Entry.enc default (madeP l c v))]) (fun _ => (Nat.le_of_ble_eq_true rfl)) ?_ (fun u hIM1 => ?_)
  ·
   refine cx_block ?_
   refine cx_sr ?_
   simp only [go_sem]
   intro t18 e18
   subst e18
   refine cx_if _ rfl (fun h17 => ?_) (fun h17 => ?_)
   ·
    (try simp only [go_sem] at h17)
    refine cx_region ?_
    simp only [go_sem]
    refine cw_does (put_c l ⟨c.path, true, [], v⟩ hs (by omega)) [0] rfl byC byC ?_
    simp only [go_sem]
    have hk : c.kind = 1 := by simpa using h17
    have hm : madeP l c v = putE l ⟨c.path, true, [], v⟩ := by rw [madeP, if_pos hk]
    refine mt_next () (by omega) ?_
    rw [hm]
    exact byC
   ·
    (try simp only [go_sem] at h17)
    refine cx_sr ?_
    simp only [go_sem]
    intro t26 e26
    subst e26
    refine cx_if _ rfl (fun h25 => ?_) (fun h25 => ?_)
    ·
     (try simp only [go_sem] at h25)
     refine cx_region ?_
     simp only [go_sem]
     refine cw_does (put_c l ⟨c.path, false, c.text, v⟩ hs (by omega)) [0] rfl byC byC ?_
     simp only [go_sem]
     have hk : c.kind = 2 := by simpa using h25
     have hm : madeP l c v = putE l ⟨c.path, false, c.text, v⟩ := by rw [madeP, if_neg (by omega), if_pos hk]
     refine mt_next () (by omega) ?_
     rw [hm]
     exact byC
    ·
     (try simp only [go_sem] at h25)
     refine cx_sr ?_
     simp only [go_sem]
     intro t36 e36
     subst e36
     refine cx_if _ rfl (fun h35 => ?_) (fun h35 => ?_)
     ·
      (try simp only [go_sem] at h35)
      refine cx_move 0 rfl ?_
      simp only [go_sem]
      refine cx_region ?_
      simp only [go_sem]
      refine cw_does (without_c l c.path (by omega) (by omega) (fun x hx => by have := checkP_len (okl.2 x hx); omega)) [2] rfl byC byC ?_
      simp only [go_sem]
      have hk : c.kind = 4 := by simpa using h35
      have hm : madeP l c v = l.filter (outB c.path) := by rw [madeP, if_neg (by omega), if_neg (by omega), if_pos hk]
      refine mt_next () (by omega) ?_
      rw [hm]
      exact byC
     ·
      (try simp only [go_sem] at h35)
      refine cx_sr ?_
      simp only [go_sem]
      intro t42 e42
      subst e42
      refine cx_if _ rfl (fun h41 => ?_) (fun h41 => ?_)
      ·
       (try simp only [go_sem] at h41)
       refine cx_sr ?_
       simp only [go_sem]
       refine cx_virt 8 4 (En Entry.enc default []) rfl ?_
       refine cx_seq ?_
       refine cx_sr ?_
       simp only [go_sem]
       refine cx_block ?_
       refine cx_loopk (σ := Nat) (fun i => i ≤ l.length ∧ greatG (l.take i) c v = false) (fun i => [⟨45, 0, [], .int .i64 (i : Nat)⟩, ⟨8, 0, [], .own none 2 4 0 (goesP (l.take i) c v).length .loose⟩]) [0, 2, 4, 43, 44] (fun i => [.arr 4 l.length (En Entry.enc default l), .box c.enc, .arr 4 (goesP (l.take i) c v).length (En Entry.enc default (goesP (l.take i) c v))]) (fun i => l.length - i) 0 ⟨Nat.zero_le _, by simp [greatG, goesP]⟩ (fun _ => (Nat.le_of_ble_eq_true rfl)) byC (fun i hI1 => ?_)
       simp only [go_sem]
       have hgl := goes_len (l.take i) c v
       have hgl2 : (l.take i).length = i := by simp; omega
       refine cx_sr ?_
       simp only [go_sem]
       repeat first | (with_reducible refine side_d ?_ ?_; exact byD) | (with_reducible refine side_q ?_ ?_; exact byQ)
       intro t46 e46
       subst e46
       refine cx_seq ?_
       refine cx_if _ rfl (fun h46 => ?_) (fun h46 => ?_)
       ·
        (try simp only [go_sem] at h46)
        have hxp := okl.2 (l.getD i default) (getD_mem (by omega))
        have hxl := checkP_len hxp
        have htl := checkP_len (ht h41)
        refine cx_skip ?_
        (try simp only [go_sem])
        refine cx_seq (cx_block ?_)
        refine cx_sr ?_
        simp only [go_sem]
        repeat first | (with_reducible refine side_d ?_ ?_; exact byD) | (with_reducible refine side_q ?_ ?_; exact byQ)
        refine cx_seq ?_
        refine cx_sr ?_
        simp only [go_sem]
        refine cw_m (In_c (l.getD i default).path c.path (by omega) (by omega)) byW byT ?_
        simp only [go_sem]
        intro t54 e54
        subst e54
        refine cx_if _ rfl (fun h54 => ?_) (fun h54 => ?_)
        ·
         (try simp only [go_sem] at h54)
         refine cx_exit ?_
         simp only [go_sem]
         refine cx_region ?_
         simp only [go_sem]
         intro t81 e81
         (try replace e81 := w64 e81 (by omega) (by omega))
         have hn : ¬ inB c.path (l.getD i default) = true := by simpa [inB] using h54
         have hg : goesP (l.take (i + 1)) c v = goesP (l.take i) c v := by rw [goes_snoc (by omega), if_neg hn]
         refine rnd_next (i + 1) ⟨by omega, by rw [greatG, hg]; exact hI1.2⟩ (by first | omega | (dsimp only; omega)) ?_
         rw [hg]
         exact byC
        ·
         (try simp only [go_sem] at h54)
         have hin : isIn (l.getD i default).path c.path = true := by simpa using h54
         have hb : inB c.path (l.getD i default) = true := hin
         have hmv := moved_ok hxp hp (ht h41) hin
         refine cx_skip ?_
         (try simp only [go_sem])
         refine cx_seq ?_
         refine cx_sr ?_
         simp only [go_sem]
         intro t59 e59
         subst e59
         refine cx_meet (σ := Unit) (fun u2 => True) (fun u2 => []) [0, 2, 4, 8, 10, 43, 44, 45] (fun u2 => [.arr 4 l.length (En Entry.enc default l), .box c.enc, .arr 4 (goesP (l.take i) c v).length (En Entry.enc default (goesP (l.take i) c v)), .box [.str (l.getD i default).path, .bool (l.getD i default).folder, .str (l.getD i default).text, .int .i64 (if (l.getD i default).path = c.path then v else (l.getD i default).version)]]) (fun _ => (Nat.le_of_ble_eq_true rfl)) ?_ (fun u2 hIM2 => ?_)
         ·
          refine cx_if _ rfl (fun h59 => ?_) (fun h59 => ?_)
          ·
           (try simp only [go_sem] at h59)
           refine cx_region ?_
           simp only [go_sem]
           have hk : (l.getD i default).path = c.path := by simpa using h59
           refine mt_next () trivial ?_
           rw [if_pos hk]
           exact byC
          ·
           (try simp only [go_sem] at h59)
           refine cx_skip ?_
           (try simp only [go_sem])
           have hk : ¬ (l.getD i default).path = c.path := by simpa using h59
           refine mt_next () trivial ?_
           rw [if_neg hk]
           exact byC
         simp only [go_sem]
         refine cx_sr ?_
         simp only [go_sem]
         repeat first | (with_reducible refine side_d ?_ ?_; exact byD) | (with_reducible refine side_q ?_ ?_; exact byQ)
         refine cw_m (Moved_c (l.getD i default).path c.path c.to (by omega) (by omega)) byW byT ?_
         simp only [go_sem]
         refine cx_seq ?_
         refine cx_sr ?_
         simp only [go_sem]
         intro t73 e73
         subst e73
         refine cx_if _ rfl (fun h73 => ?_) (fun h73 => ?_)
         ·
          (try simp only [go_sem] at h73)
          have hgr : greatB (c.to ++ (l.getD i default).path.drop c.path.length) = true := by
            rw [hmv] at h73
            by_cases hq : greatB (c.to ++ (l.getD i default).path.drop c.path.length) = true
            · exact hq
            · rw [if_neg hq] at h73
              simp at h73
          have he : (movedP (l.getD i default).path c.path c.to).2 = 2 := by rw [hmv, if_pos hgr]
          have hd : doneErr l c v = 2 := by rw [doneErr, if_pos ⟨h41, great_at (by omega) hb hgr⟩]
          have hd0 : doneP l c v = [] := by rw [doneP, hd]; rfl
          refine cx_sr ?_
          simp only [go_sem]
          refine cx_virt 6 4 (En Entry.enc default []) rfl ?_
          simp only [go_sem]
          refine cx_ret ?_
          simp only [go_sem]
          rw [hd, hd0, he]
          exact ⟨[0, 4], rfl, rfl, byC, byC⟩
         ·
          (try simp only [go_sem] at h73)
          have hgr : ¬ greatB (c.to ++ (l.getD i default).path.drop c.path.length) = true := by
            intro hq
            rw [hmv, if_pos hq] at h73
            simp at h73
          have hq1 : (movedP (l.getD i default).path c.path c.to).1 = c.to ++ (l.getD i default).path.drop c.path.length := by rw [hmv, if_neg hgr]
          have hg : goesP (l.take (i + 1)) c v = goesP (l.take i) c v ++ [mvE c v (l.getD i default)] := by rw [goes_snoc (by omega), if_pos hb]
          have hgg : greatG (l.take (i + 1)) c v = false := by
            rw [greatG, hg, List.any_append]
            have := hI1.2
            rw [greatG] at this
            rw [this]
            simpa [mvE] using hgr
          rw [hq1]
          refine cx_skip ?_
          (try simp only [go_sem])
          refine cx_sr ?_
          simp only [go_sem]
          refine cx_region ?_
          simp only [go_sem]
          repeat first | (with_reducible refine side_d ?_ ?_; exact byD) | (with_reducible refine side_q ?_ ?_; exact byQ)
          refine cx_region ?_
          simp only [go_sem]
          intro t81 e81
          (try replace e81 := w64 e81 (by omega) (by omega))
          refine rnd_nextr (i + 1) [0, 1, 5] ⟨by omega, hgg⟩ (by first | omega | (dsimp only; omega)) ⟨rfl, rfl, ?_, ?_⟩
          · (try rw [hg]); exact byC
          · rw [hg]; skip
            simp only [go_sem, wk, wks, wkB, wkH, List.length_append, List.length_cons, List.length_nil]
            first | exact fun q hq => wks_mp_snoc (fun x => rnVs_no _ rfl) (by rfl) hq | (and_intros <;> first | trivial | rfl | omega | (exact fun q hq => wks_mp_snoc (fun x => rnVs_no _ rfl) (by rfl) hq) | exact wks_refl _ | exact byC)
       ·
        (try simp only [go_sem] at h46)
        have hi : l.take i = l := by rw [List.take_of_length_le (by omega)]
        rw [hi]
        refine cx_exit ?_
        simp only [go_sem]
        refine cx_sr ?_
        simp only [go_sem]
        refine cw_does (without_c l c.path (by omega) (by omega) (fun x hx => by have := checkP_len (okl.2 x hx); omega)) [0] rfl byC byC ?_
        simp only [go_sem]
        refine cx_move 0 rfl ?_
        refine cx_sr ?_
        simp only [go_sem]
        refine cx_block ?_
        refine cx_loopk (σ := Nat) (fun j => j ≤ (goesP l c v).length) (fun j => [⟨88, 0, [], .int .i64 (j : Nat)⟩, ⟨0, 0, [], .own none 3 4 0 (((goesP l c v).take j).foldl putE (l.filter (outB c.path))).length .loose⟩]) [86, 87] (fun j => [.dead, .box c.enc, .arr 4 (goesP l c v).length (En Entry.enc default (goesP l c v)), .arr 4 (((goesP l c v).take j).foldl putE (l.filter (outB c.path))).length (En Entry.enc default (((goesP l c v).take j).foldl putE (l.filter (outB c.path))))]) (fun j => (goesP l c v).length - j) 0 (Nat.zero_le _) (fun _ => (Nat.le_of_ble_eq_true rfl)) byC (fun j hI2 => ?_)
        simp only [go_sem]
        have hfs := foldl_put_sorted ((goesP l c v).take j) (filter_sorted hs (outB c.path))
        have hfl := foldl_put_len ((goesP l c v).take j) (l.filter (outB c.path))
        have hfl2 := List.length_filter_le (outB c.path) l
        have hgl3 := goes_len l c v
        have hgl4 : ((goesP l c v).take j).length ≤ j := by simp; omega
        refine cx_sr ?_
        simp only [go_sem]
        repeat first | (with_reducible refine side_d ?_ ?_; exact byD) | (with_reducible refine side_q ?_ ?_; exact byQ)
        intro t89 e89
        subst e89
        refine cx_seq ?_
        refine cx_if _ rfl (fun h89 => ?_) (fun h89 => ?_)
        ·
         (try simp only [go_sem] at h89)
         refine cx_skip ?_
         (try simp only [go_sem])
         refine cx_seq (cx_block ?_)
         refine cx_sr ?_
         simp only [go_sem]
         repeat first | (with_reducible refine side_d ?_ ?_; exact byD) | (with_reducible refine side_q ?_ ?_; exact byQ)
         refine cx_region ?_
         simp only [go_sem]
         refine cw_does (put_c (((goesP l c v).take j).foldl putE (l.filter (outB c.path))) ((goesP l c v).getD j default) hfs (by omega)) [3] rfl byC byC ?_
         simp only [go_sem]
         refine cx_region ?_
         simp only [go_sem]
         intro t95 e95
         (try replace e95 := w64 e95 (by omega) (by omega))
         have hsn : ((goesP l c v).take (j + 1)).foldl putE (l.filter (outB c.path)) = putE (((goesP l c v).take j).foldl putE (l.filter (outB c.path))) ((goesP l c v).getD j default) := foldl_take putE _ _ _ (by omega)
         refine rnd_nextr (j + 1) [0, 1, 2, 5] (by omega) (by first | omega | (dsimp only; omega)) ⟨rfl, rfl, ?_, ?_⟩
         · rw [hsn]; exact byC
         · rw [hsn]; exact byC
        ·
         (try simp only [go_sem] at h89)
         refine cx_exit ?_
         simp only [go_sem]
         have hm : madeP l c v = ((goesP l c v).take j).foldl putE (l.filter (outB c.path)) := by
           rw [madeP, if_neg (by omega), if_neg (by omega), if_neg (by omega), if_pos h41, movedL, List.take_of_length_le (by omega)]
         refine mt_nextr () [0, 1, 3] (fun _ => by have := hI1.2; rwa [hi] at this) ⟨rfl, rfl, ?_, ?_⟩
         · rw [hm]; exact byC
         · rw [hm]; exact byC
      ·
       (try simp only [go_sem] at h41)
       refine cx_move 0 rfl ?_
       simp only [go_sem]
       refine cx_skip ?_
       (try simp only [go_sem])
       have hm : madeP l c v = l := by rw [madeP, if_neg (by omega), if_neg (by omega), if_neg (by omega), if_neg (by omega)]
       refine mt_next () (by omega) ?_
       rw [hm]
       exact byC
  simp only [go_sem]
  refine cx_seq ?_
  refine cx_sr ?_
  simp only [go_sem]
  repeat first | (with_reducible refine side_d ?_ ?_; exact byD) | (with_reducible refine side_q ?_ ?_; exact byQ)
  intro t98 e98
  subst e98
  refine cx_if _ rfl (fun h98 => ?_) (fun h98 => ?_)
  ·
   (try simp only [go_sem] at h98)
   refine cx_sr ?_
   simp only [go_sem]
   refine cx_virt 6 4 (En Entry.enc default []) rfl ?_
   simp only [go_sem]
   refine cx_ret ?_
   simp only [go_sem]
   have hd : doneErr l c v = 2 := by rw [doneErr]; split <;> first | rfl | (rw [if_pos (by omega)])
   have hd0 : doneP l c v = [] := by rw [doneP, hd]; rfl
   rw [hd, hd0]
   exact ⟨[0, 3], rfl, rfl, byC, byC⟩
  ·
   (try simp only [go_sem] at h98)
   refine cx_skip ?_
   (try simp only [go_sem])
   refine cx_sr ?_
   simp only [go_sem]
   refine cx_ret ?_
   simp only [go_sem]
   have hd : doneErr l c v = 0 := by rw [doneErr, if_neg (by rintro ⟨h1, h2⟩; rw [hIM1 h1] at h2; cases h2), if_neg (by omega)]
   have hd0 : doneP l c v = madeP l c v := by rw [doneP, if_pos hd]
   rw [hd, hd0]
   exact ⟨[0, 2], rfl, rfl, byC, byC⟩
end Go.VM.Tryd
end
section
set_option maxHeartbeats 4000000
set_option linter.unusedVariables false
set_option linter.unusedSimpArgs false
open Go Go.VM Go.Proofs Tether
namespace Go.VM.Tryd
set_option maxRecDepth 100000
def rawErr (l : List Entry) (c : Change) (v : Int) : Int := if formP c ≠ 0 then formP c else if mayP l c ≠ 0 then mayP l c else doneErr l c v
def rawP (l : List Entry) (c : Change) (v : Int) : List Entry := if rawErr l c v = 0 then madeP l c v else []
theorem form_ok {c : Change} (h : formP c = 0) : checkP [c.path] = 0 ∧ (c.kind = 3 → checkP [c.to] = 0) := by
  unfold formP at h
  grind
/-- a tree that passes: what a change asks of it -/
structure GoodT (l : List Entry) : Prop where
  sorted : SortedE l
  ok : okE l
  paths : okP l
theorem Raw_c (l : List Entry) (c : Change) (v : Int) (g : GoodT l) (ok : okC c) : Meets Tryd.prog 27 [esV l, .agg c.enc, .int .i64 v]
    (.tup [.own none 0 4 0 (rawP l c v).length .loose, .int .i64 (rawErr l c v)]) [.arr 4 (rawP l c v).length (En Entry.enc default (rawP l c v))] := by
  refine meets_x (fn := Tryd.f27) Tryd.func27 rfl fb27 (by kernel_rfl) (Nat.le_of_ble_eq_true rfl) ?_
  have hl := g.ok.1
  refine cx_sr ?_
  simp only [go_sem]
  repeat first | (with_reducible refine side_d ?_ ?_; exact byD) | (with_reducible refine side_q ?_ ?_; exact byQ)
  refine cx_sr ?_
  simp only [go_sem]
  refine cw_m (form_c c ok) byW byT ?_
  simp only [go_sem]
  refine cx_seq ?_
  refine cx_sr ?_
  simp only [go_sem]
  intro t12 e12
  subst e12
  refine cx_if _ rfl (fun h12 => ?_) (fun h12 => ?_)
  ·
   (try simp only [go_sem] at h12)
   refine cx_region ?_
   simp only [go_sem]
   refine cw_m (may_c l c g.sorted g.ok ok) byW byT ?_
   simp only [go_sem]
   refine cx_seq ?_
   refine cx_sr ?_
   simp only [go_sem]
   intro t17 e17
   subst e17
   refine cx_if _ rfl (fun h17 => ?_) (fun h17 => ?_)
   ·
    (try simp only [go_sem] at h17)
    refine cx_sr ?_
    simp only [go_sem]
    refine cx_virt 6 4 (En Entry.enc default []) rfl ?_
    simp only [go_sem]
    refine cx_ret ?_
    simp only [go_sem]
    have h1 : formP c = 0 := by simpa using h12
    have h2 : ¬ mayP l c = 0 := by simpa using h17
    have he : rawErr l c v = mayP l c := by rw [rawErr, if_neg (by simpa using h1), if_pos h2]
    have hp : rawP l c v = [] := by rw [rawP, he, if_neg h2]
    rw [he, hp]
    exact finx_of 1 [1] rfl byC byC byC byC
   ·
    (try simp only [go_sem] at h17)
    have hF : formP c = 0 := by first | (simpa using h12) | (simpa using h17)
    refine cx_skip ?_
    (try simp only [go_sem])
    refine cx_seq (cx_draw mixed [4] (.first 0 (.first 2 (.first 3 (.one 1 (.one 4 (.first 5 (.first 6 (.first 7 (.first 8 (.done)))))))))) (by kernel_rfl) ?_)
    simp only [go_sem]
    refine cwE_m (Clone_Entry l (by omega)) byW byT ?_
    simp only [go_sem]
    refine cw_does (done_c l c v g.sorted g.paths (form_ok hF).1 (form_ok hF).2) [1] rfl byC byC ?_
    simp only [go_sem]
    refine cx_ret ?_
    simp only [go_sem]
    have h2 : mayP l c = 0 := by simpa using h17
    have he : rawErr l c v = doneErr l c v := by rw [rawErr, if_neg (by simpa using hF), if_neg (by simpa using h2)]
    have hp : rawP l c v = doneP l c v := by rw [rawP, he, doneP]
    rw [he, hp]
    exact finx_of 1 [2] rfl byC byC byC byC
  ·
   (try simp only [go_sem] at h12)
   refine cx_skip ?_
   (try simp only [go_sem])
   refine cx_seq ?_
   refine cx_sr ?_
   simp only [go_sem]
   intro t17 e17
   subst e17
   refine cx_if _ rfl (fun h17 => ?_) (fun h17 => ?_)
   ·
    (try simp only [go_sem] at h17)
    refine cx_sr ?_
    simp only [go_sem]
    refine cx_virt 6 4 (En Entry.enc default []) rfl ?_
    simp only [go_sem]
    refine cx_ret ?_
    simp only [go_sem]
    have h1 : ¬ formP c = 0 := by simpa using h12
    have he : rawErr l c v = formP c := by rw [rawErr, if_pos h1]
    have hp : rawP l c v = [] := by rw [rawP, he, if_neg h1]
    rw [he, hp]
    exact finx_of 1 [1] rfl byC byC byC byC
   ·
    (try simp only [go_sem] at h17)
    have hF : formP c = 0 := by first | (simpa using h12) | (simpa using h17)
    refine cx_skip ?_
    (try simp only [go_sem])
    refine cx_seq (cx_draw mixed [4] (.first 0 (.first 2 (.first 3 (.one 1 (.one 4 (.first 5 (.first 6 (.first 7 (.first 8 (.done)))))))))) (by kernel_rfl) ?_)
    simp only [go_sem]
    refine cwE_m (Clone_Entry l (by omega)) byW byT ?_
    simp only [go_sem]
    refine cw_does (done_c l c v g.sorted g.paths (form_ok hF).1 (form_ok hF).2) [1] rfl byC byC ?_
    simp only [go_sem]
    refine cx_ret ?_
    simp only [go_sem]
    exact absurd hF (by simpa using h12)
theorem firstErr_0 {α : Type} {f : α → Int} {l : List α} : firstErr f l = 0 ↔ ∀ x ∈ l, f x = 0 := by
  induction l with
  | nil => simp [firstErr]
  | cons x l ih =>
    unfold firstErr
    by_cases h : f x = 0
    · simp [h, ih]
    · simp [h]
theorem entErr_path {x : Entry} (h : entErr x = 0) : checkP [x.path] = 0 := by
  unfold entErr at h
  grind
theorem checkT_good {l : List Entry} (ok : okE l) (h : checkT l = 0) : GoodT l where
  sorted := by
    unfold checkT at h
    have : sortedB l = true := by grind
    exact sortedB_iff.1 this
  ok := ok
  paths := by
    unfold checkT at h
    have h1 : (l.length : Int) ≤ 60 := by grind
    have h2 : firstErr entErr l = 0 := by grind
    exact ⟨by omega, fun x hx => entErr_path (firstErr_0.1 h2 x hx)⟩
theorem made_mem {l : List Entry} {c : Change} {v : Int} (hs : SortedE l) {x : Entry} (hx : x ∈ madeP l c v) :
    x ∈ l ∨ x = ⟨c.path, true, [], v⟩ ∨ x = ⟨c.path, false, c.text, v⟩ ∨ (c.kind = 3 ∧ x ∈ goesP l c v) := by
  unfold madeP at hx
  split at hx
  · rcases (putE_mem hs).1 hx with h | ⟨h, _⟩
    · exact .inr (.inl h)
    · exact .inl h
  · split at hx
    · rcases (putE_mem hs).1 hx with h | ⟨h, _⟩
      · exact .inr (.inr (.inl h))
      · exact .inl h
    · split at hx
      · exact .inl (List.mem_filter.1 hx).1
      · split at hx
        · rename_i hk
          have key : ∀ (g : List Entry) (t : List Entry), SortedE t → x ∈ g.foldl putE t → x ∈ t ∨ x ∈ g := by
            intro g
            induction g with
            | nil => intro t _ h; exact .inl h
            | cons y g ih =>
              intro t ht h
              rcases ih (putE t y) (putE_sorted ht y) h with h | h
              · rcases (putE_mem ht).1 h with h | ⟨h, _⟩
                · exact .inr (by simp [h])
                · exact .inl h
              · exact .inr (by simp [h])
          rcases key _ _ (filter_sorted hs _) hx with h | h
          · exact .inl (List.mem_filter.1 h).1
          · exact .inr (.inr (.inr ⟨hk, h⟩))
        · exact .inl hx
theorem made_sorted {l : List Entry} {c : Change} {v : Int} (hs : SortedE l) : SortedE (madeP l c v) := by
  unfold madeP movedL
  split
  · exact putE_sorted hs _
  · split
    · exact putE_sorted hs _
    · split
      · exact filter_sorted hs _
      · split
        · exact foldl_put_sorted _ (filter_sorted hs _)
        · exact hs
theorem moved_pass {p f t : Str} (hp : checkP [p] = 0) (ht : checkP [t] = 0) (h : isIn p f = true) (hg : greatB (t ++ p.drop f.length) = false) : checkP [t ++ p.drop f.length] = 0 := by
  refine (checkP_iff _).2 ⟨fun x hx => ?_, hg⟩
  rw [← moved_pcs t h] at hx
  rcases List.mem_append.1 hx with hx | hx
  · exact ((checkP_iff t).1 ht).1 x hx
  · exact ((checkP_iff p).1 hp).1 x (List.mem_of_mem_drop hx)
theorem raw_0 {l : List Entry} {c : Change} {v : Int} (h : rawErr l c v = 0) : formP c = 0 ∧ mayP l c = 0 ∧ doneErr l c v = 0 := by
  unfold rawErr at h
  grind
theorem done_0 {l : List Entry} {c : Change} {v : Int} (h : doneErr l c v = 0) : (c.kind = 3 → greatG l c v = false) ∧ (madeP l c v).length ≤ 60 := by
  unfold doneErr at h
  constructor
  · intro hk
    cases hg : greatG l c v with
    | false => rfl
    | true => rw [if_pos ⟨hk, hg⟩] at h; cases h
  · split at h
    · cases h
    · split at h
      · cases h
      · omega
theorem goes_path {l : List Entry} {c : Change} {v : Int} (hl : ∀ x ∈ l, checkP [x.path] = 0) (ht : checkP [c.to] = 0) (hg : greatG l c v = false) {x : Entry} (hx : x ∈ goesP l c v) : checkP [x.path] = 0 := by
  have hgx : greatB x.path = false := by
    rw [greatG, List.any_eq_false] at hg
    simpa using hg x hx
  obtain ⟨y, hy, rfl⟩ := List.mem_map.1 hx
  obtain ⟨h1, h2⟩ := List.mem_filter.1 hy
  exact moved_pass (hl y h1) ht h2 hgx
theorem made_good {l : List Entry} {c : Change} {v : Int} (g : GoodT l) (ok : okC c) (h : rawErr l c v = 0) : GoodT (madeP l c v) := by
  obtain ⟨h1, h2, h3⟩ := raw_0 h
  obtain ⟨h4, h5⟩ := done_0 h3
  obtain ⟨h6, h7⟩ := form_ok h1
  have hpath : ∀ x ∈ madeP l c v, checkP [x.path] = 0 := by
    intro x hx
    rcases made_mem g.sorted hx with h | rfl | rfl | ⟨hk, h⟩
    · exact g.paths.2 x h
    · exact h6
    · exact h6
    · exact goes_path g.paths.2 (h7 hk) (h4 hk) h
  refine ⟨made_sorted g.sorted, ⟨by omega, fun x hx => ⟨by have := checkP_len (hpath x hx); omega, ?_⟩⟩, by omega, hpath⟩
  rcases made_mem g.sorted hx with h | rfl | rfl | ⟨_, h⟩
  · exact (g.ok.2 x h).2
  · simp
  · exact ok.2.2
  · obtain ⟨y, hy, rfl⟩ := List.mem_map.1 h
    exact (g.ok.2 y (List.mem_filter.1 hy).1).2
def verB (v : Int) : Bool := decide (1 ≤ v) && decide (v ≤ 1000000)
def applyErr (l : List Entry) (c : Change) (v : Int) : Int := if checkT l ≠ 0 then checkT l else if verB v = false then 3 else rawErr l c v
def applyP (l : List Entry) (c : Change) (v : Int) : List Entry := if applyErr l c v = 0 then madeP l c v else []
theorem Apply_c (l : List Entry) (c : Change) (v : Int) (okl : okE l) (ok : okC c) : Meets Tryd.prog 22 [esV l, .agg c.enc, .int .i64 v]
    (.tup [.own none 0 4 0 (applyP l c v).length .loose, .int .i64 (applyErr l c v)]) [.arr 4 (applyP l c v).length (En Entry.enc default (applyP l c v))] := by
  refine meets_x (fn := Tryd.f22) Tryd.func22 rfl fb22 (by kernel_rfl) (Nat.le_of_ble_eq_true rfl) ?_
  refine cx_sr ?_
  simp only [go_sem]
  repeat first | (with_reducible refine side_d ?_ ?_; exact byD) | (with_reducible refine side_q ?_ ?_; exact byQ)
  refine cx_seq ?_
  refine cx_sr ?_
  simp only [go_sem]
  refine cw_v 2 (tcheck1_c l okl) byV byC rfl ?_
  simp only [go_sem]
  refine cx_sr ?_
  simp only [go_sem]
  intro t13 e13
  subst e13
  refine cx_if _ rfl (fun h13 => ?_) (fun h13 => ?_)
  ·
   (try simp only [go_sem] at h13)
   refine cx_sr ?_
   simp only [go_sem]
   refine cx_virt 6 4 (En Entry.enc default []) rfl ?_
   simp only [go_sem]
   refine cx_ret ?_
   simp only [go_sem]
   have h1 : ¬ checkT l = 0 := by simpa using h13
   have he : applyErr l c v = checkT l := by rw [applyErr, if_pos h1]
   have hp : applyP l c v = [] := by rw [applyP, he, if_neg h1]
   rw [he, hp]
   exact finx_of 1 [2] rfl byC byC byC byC
  ·
   (try simp only [go_sem] at h13)
   have hg := checkT_good okl (by simpa using h13)
   refine cx_skip ?_
   (try simp only [go_sem])
   refine cx_seq ?_
   refine cx_sr ?_
   simp only [go_sem]
   refine cw_m (isVersion_c v) byW byT ?_
   simp only [go_sem]
   intro t17 e17
   subst e17
   refine cx_if _ rfl (fun h17 => ?_) (fun h17 => ?_)
   ·
    (try simp only [go_sem] at h17)
    refine cx_sr ?_
    simp only [go_sem]
    refine cx_virt 6 4 (En Entry.enc default []) rfl ?_
    simp only [go_sem]
    refine cx_ret ?_
    simp only [go_sem]
    have h1 : checkT l = 0 := by simpa using h13
    have h2 : verB v = false := by unfold verB; simp at h17 ⊢; omega
    have he : applyErr l c v = 3 := by rw [applyErr, if_neg (by simpa using h1), if_pos h2]
    have hp : applyP l c v = [] := by rw [applyP, he, if_neg (by decide)]
    rw [he, hp]
    exact finx_of 1 [2] rfl byC byC byC byC
   ·
    (try simp only [go_sem] at h17)
    refine cx_skip ?_
    (try simp only [go_sem])
    refine cx_sr ?_
    simp only [go_sem]
    refine cw_m (Raw_c l c v hg ok) byW byT ?_
    simp only [go_sem]
    refine cx_ret ?_
    simp only [go_sem]
    have h1 : checkT l = 0 := by simpa using h13
    have h2 : ¬ verB v = false := by unfold verB; simp at h17 ⊢; omega
    have he : applyErr l c v = rawErr l c v := by rw [applyErr, if_neg (by simpa using h1), if_neg h2]
    have hp : applyP l c v = rawP l c v := by rw [applyP, he, rawP]
    rw [he, hp]
    exact finx_of 1 [2] rfl byC byC byC byC
/-- the changes from one on -/
def allRun (v : Int) : List Entry → List Change → Int → List Entry × Int × Int
  | t, [], k => (t, k, 0)
  | t, c :: cs, k => if rawErr t c v ≠ 0 then ([], k, rawErr t c v) else allRun v (madeP t c v) cs (k + 1)
def allP (l : List Entry) (cs : List Change) (v : Int) : List Entry × Int × Int :=
  if checkT l ≠ 0 then ([], 0, checkT l) else if 20 < (cs.length : Int) then ([], 0, 2) else if verB v = false ∧ 0 < (cs.length : Int) then ([], 0, 3) else allRun v l cs 0
/-- changes, as they are handed over -/
abbrev csV (l : List Change) : V := lstV 5 Change.enc default l
def okCs (cs : List Change) : Prop := cs.length ≤ 1048576 ∧ ∀ c ∈ cs, okC c
theorem All_c (l : List Entry) (cs : List Change) (v : Int) (okl : okE l) (ok : okCs cs) : Meets Tryd.prog 11 [esV l, csV cs, .int .i64 v]
    (.tup [.own none 0 4 0 (allP l cs v).1.length .loose, .int .i64 (allP l cs v).2.1, .int .i64 (allP l cs v).2.2]) [.arr 4 (allP l cs v).1.length (En Entry.enc default (allP l cs v).1)] := by
  refine meets_x (fn := Tryd.f11) Tryd.func11 rfl fb11 (by kernel_rfl) (Nat.le_of_ble_eq_true rfl) ?_
  have hcl := ok.1
  have hll := okl.1
  refine cx_sr ?_
  simp only [go_sem]
  repeat first | (with_reducible refine side_d ?_ ?_; exact byD) | (with_reducible refine side_q ?_ ?_; exact byQ)
  refine cx_seq ?_
  refine cx_sr ?_
  simp only [go_sem]
  refine cw_v 2 (tcheck1_c l okl) byV byC rfl ?_
  simp only [go_sem]
  refine cx_sr ?_
  simp only [go_sem]
  intro t18 e18
  subst e18
  refine cx_if _ rfl (fun h18 => ?_) (fun h18 => ?_)
  ·
   (try simp only [go_sem] at h18)
   refine cx_sr ?_
   simp only [go_sem]
   refine cx_virt 6 4 (En Entry.enc default []) rfl ?_
   simp only [go_sem]
   refine cx_ret ?_
   simp only [go_sem]
   have h1 : ¬ checkT l = 0 := by simpa using h18
   have he : allP l cs v = ([], 0, checkT l) := by rw [allP, if_pos h1]
   rw [he]
   exact finx_of 1 [1] rfl byC byC byC byC
  ·
   (try simp only [go_sem] at h18)
   have hck : checkT l = 0 := by simpa using h18
   have hg := checkT_good okl hck
   refine cx_skip ?_
   (try simp only [go_sem])
   refine cx_seq ?_
   refine cx_sr ?_
   simp only [go_sem]
   intro t22 e22
   subst e22
   refine cx_if _ rfl (fun h22 => ?_) (fun h22 => ?_)
   ·
    (try simp only [go_sem] at h22)
    refine cx_sr ?_
    simp only [go_sem]
    refine cx_virt 6 4 (En Entry.enc default []) rfl ?_
    simp only [go_sem]
    refine cx_ret ?_
    simp only [go_sem]
    have he : allP l cs v = ([], 0, 2) := by rw [allP, if_neg (by simpa using hck), if_pos (by omega)]
    rw [he]
    exact finx_of 1 [1] rfl byC byC byC byC
   ·
    (try simp only [go_sem] at h22)
    refine cx_skip ?_
    (try simp only [go_sem])
    refine cx_seq ?_
    refine cx_sr ?_
    simp only [go_sem]
    refine cw_m (isVersion_c v) byW byT ?_
    simp only [go_sem]
    intro t25 e25
    intro t29 e29
    intro t30 e30
    rw [bsel_and] at e30
    subst e25 e29 e30
    refine cx_if _ rfl (fun h30 => ?_) (fun h30 => ?_)
    ·
     (try simp only [go_sem] at h30)
     refine cx_sr ?_
     simp only [go_sem]
     refine cx_virt 6 4 (En Entry.enc default []) rfl ?_
     simp only [go_sem]
     refine cx_ret ?_
     simp only [go_sem]
     have hv : verB v = false ∧ 0 < (cs.length : Int) := by unfold verB; simp at h30 ⊢; omega
     have he : allP l cs v = ([], 0, 3) := by rw [allP, if_neg (by simpa using hck), if_neg (by omega), if_pos hv]
     rw [he]
     exact finx_of 1 [1] rfl byC byC byC byC
    ·
     (try simp only [go_sem] at h30)
     have hv : ¬ (verB v = false ∧ 0 < (cs.length : Int)) := by unfold verB; grind
     have he : allP l cs v = allRun v l cs 0 := by rw [allP, if_neg (by simpa using hck), if_neg (by omega), if_neg hv]
     refine cx_skip ?_
     (try simp only [go_sem])
     refine cx_sr ?_
     simp only [go_sem]
     refine cw_m (Clone_Entry l (by omega)) byW byT ?_
     simp only [go_sem]
     refine cx_seq ?_
     refine cx_sr ?_
     simp only [go_sem]
     refine cx_block ?_
     refine cx_loopk (σ := Nat × List Entry) (fun s => s.1 ≤ cs.length ∧ GoodT s.2 ∧ allRun v l cs 0 = allRun v s.2 (cs.drop s.1) (s.1 : Int)) (fun s => [⟨35, 0, [], .int .i64 (s.1 : Nat)⟩, ⟨0, 0, [], .own none 1 4 0 s.2.length .loose⟩]) [1, 2, 33, 34] (fun s => [.dead, .arr 4 s.2.length (En Entry.enc default s.2)]) (fun s => cs.length - s.1) (0, l) ⟨Nat.zero_le _, hg, rfl⟩ (fun _ => (Nat.zero_le _)) byC (fun s hI1 => ?_)
     simp only [go_sem]
     obtain ⟨i1, i2, i3⟩ := hI1
     have hlen := i2.ok.1
     refine cx_sr ?_
     simp only [go_sem]
     repeat first | (with_reducible refine side_d ?_ ?_; exact byD) | (with_reducible refine side_q ?_ ?_; exact byQ)
     intro t36 e36
     subst e36
     refine cx_seq ?_
     refine cx_if _ rfl (fun h36 => ?_) (fun h36 => ?_)
     ·
      (try simp only [go_sem] at h36)
      have hcm : cs.getD s.1 default ∈ cs := getD_mem (by omega)
      have hdr : cs.drop s.1 = cs.getD s.1 default :: cs.drop (s.1 + 1) := by
        rw [List.drop_eq_getElem_cons (by omega)]
        simp [List.getD, show s.1 < cs.length by omega]
      refine cx_skip ?_
      (try simp only [go_sem])
      refine cx_seq (cx_block ?_)
      refine cx_sr ?_
      simp only [go_sem]
      repeat first | (with_reducible refine side_d ?_ ?_; exact byD) | (with_reducible refine side_q ?_ ?_; exact byQ)
      refine cx_sr ?_
      simp only [go_sem]
      refine cw_n 2 (Raw_c s.2 (cs.getD s.1 default) v i2 (ok.2 _ hcm)) byV byC rfl byN ?_
      simp only [go_sem]
      refine cx_seq ?_
      refine cx_sr ?_
      simp only [go_sem]
      intro t48 e48
      subst e48
      refine cx_if _ rfl (fun h48 => ?_) (fun h48 => ?_)
      ·
       (try simp only [go_sem] at h48)
       refine cx_sr ?_
       simp only [go_sem]
       refine cx_virt 6 4 (En Entry.enc default []) rfl ?_
       simp only [go_sem]
       refine cx_ret ?_
       simp only [go_sem]
       have he2 : allP l cs v = ([], (s.1 : Int), rawErr s.2 (cs.getD s.1 default) v) := by rw [he, i3, hdr, allRun, if_pos h48]
       rw [he2]
       exact finx_of 1 [4] rfl byC byC byC byC
      ·
       (try simp only [go_sem] at h48)
       refine cx_skip ?_
       (try simp only [go_sem])
       refine cx_region ?_
       simp only [go_sem]
       refine cx_region ?_
       simp only [go_sem]
       intro t52 e52
       (try replace e52 := w64 e52 (by omega) (by omega))
       have h48' : rawErr s.2 (cs.getD s.1 default) v = 0 := by simpa using h48
       have hr : rawP s.2 (cs.getD s.1 default) v = madeP s.2 (cs.getD s.1 default) v := by rw [rawP, if_pos h48']
       refine rnd_nextr (s.1 + 1, madeP s.2 (cs.getD s.1 default) v) [0, 3] ⟨by dsimp only; omega, made_good i2 (ok.2 _ hcm) h48', ?_⟩ (by first | omega | (dsimp only; omega)) ⟨rfl, rfl, ?_, ?_⟩
       · rw [i3, hdr, allRun, if_neg (by simpa using h48')]
         rfl
       · rw [hr]; exact byC
       · rw [hr]; exact byC
     ·
      (try simp only [go_sem] at h36)
      refine cx_exit ?_
      simp only [go_sem]
      refine cx_sr ?_
      simp only [go_sem]
      refine cx_ret ?_
      simp only [go_sem]
      have hi : s.1 = cs.length := by omega
      have he2 : allP l cs v = (s.2, (cs.length : Int), 0) := by rw [he, i3, hi, List.drop_length, allRun]
      rw [he2]
      exact finx_of 1 [1] rfl byC byC byC byC
end Go.VM.Tryd
end
section
set_option maxHeartbeats 4000000
set_option linter.unusedVariables false
set_option linter.unusedSimpArgs false
open Go Go.VM Go.Proofs Tether
namespace Go.VM.Tryd
set_option maxRecDepth 100000
def sameL {α : Type} [DecidableEq α] (a b : List α) : Bool := decide (a = b)
theorem list_eq_of {α : Type} {a b : List α} {d : α} (hl : a.length = b.length) (h : ∀ i, i < a.length → a.getD i d = b.getD i d) : a = b := by
  apply List.ext_getElem hl
  intro i h1 h2
  have := h i h1
  simpa [List.getD, h1, h2] using this
theorem Entry.of_eq {a b : Entry} (h : a.path = b.path ∧ a.folder = b.folder ∧ a.text = b.text ∧ a.version = b.version) : a = b := by
  cases a; cases b; simp_all
theorem Change.of_eq {a b : Change} (h : a.kind = b.kind ∧ a.path = b.path ∧ a.to = b.to ∧ a.text = b.text ∧ a.base = b.base) : a = b := by
  cases a; cases b; simp_all
theorem SameEntries_c (a b : List Entry) (ha : a.length < 4611686018427387904) (hb : b.length < 4611686018427387904) : Meets Tryd.prog 21 [lstV 4 Entry.enc default a, lstV 4 Entry.enc default b] (.bool (sameL a b)) [] := by
  refine meets_x (fn := Tryd.f21) Tryd.func21 rfl fb21 (by kernel_rfl) (Nat.le_of_ble_eq_true rfl) ?_
  refine cx_sr ?_
  simp only [go_sem]
  repeat first | (with_reducible refine side_d ?_ ?_; exact byD) | (with_reducible refine side_q ?_ ?_; exact byQ)
  refine cx_seq ?_
  refine cx_sr ?_
  simp only [go_sem]
  intro t10 e10
  subst e10
  refine cx_if _ rfl (fun h10 => ?_) (fun h10 => ?_)
  ·
   (try simp only [go_sem] at h10)
   refine cx_sr ?_
   simp only [go_sem]
   refine cx_ret ?_
   simp only [go_sem]
   refine finw_bool ?_
   have : a ≠ b := fun e => by subst e; exact h10 rfl
   simp [sameL, this]
  ·
   (try simp only [go_sem] at h10)
   refine cx_skip ?_
   (try simp only [go_sem])
   refine cx_seq ?_
   refine cx_sr ?_
   simp only [go_sem]
   refine cx_block ?_
   refine cx_loop0 (σ := Nat) (fun i => i ≤ a.length ∧ ∀ j, j < i → a.getD j default = b.getD j default) (fun i => [⟨5, 0, [], .int .i64 (i : Nat)⟩]) [0, 1] (fun i => a.length - i) 0 ⟨Nat.zero_le _, fun j hj => absurd hj (Nat.not_lt_zero j)⟩ (Nat.zero_le _) byC (fun i hI1 => ?_)
   simp only [go_sem]
   refine cx_seq ?_
   refine cx_sr ?_
   simp only [go_sem]
   repeat first | (with_reducible refine side_d ?_ ?_; exact byD) | (with_reducible refine side_q ?_ ?_; exact byQ)
   intro t14 e14
   subst e14
   refine cx_if _ rfl (fun h14 => ?_) (fun h14 => ?_)
   ·
    (try simp only [go_sem] at h14)
    refine cx_skip ?_
    (try simp only [go_sem])
    refine cx_seq (cx_block ?_)
    refine cx_seq (cx_draw mixed [] (.first 0 (.first 1 (.first 2 (.first 3 (.first 4 (.first 5 (.first 6 (.first 7 (.first 8 (.done)))))))))) (by kernel_rfl) ?_)
    simp only [go_sem]
    repeat first | (with_reducible refine side_d ?_ ?_; exact byD) | (with_reducible refine side_q ?_ ?_; exact byQ)
    intro t25 e25
    subst e25
    refine cx_if _ rfl (fun h25 => ?_) (fun h25 => ?_)
    ·
     (try simp only [go_sem] at h25)
     refine cx_sr ?_
     simp only [go_sem]
     refine cx_ret ?_
     simp only [go_sem]
     refine finw_bool ?_
     have : a ≠ b := fun e => by
       subst e
       grind
     simp [sameL, this]
    ·
     (try simp only [go_sem] at h25)
     refine cx_skip ?_
     (try simp only [go_sem])
     refine cx_region ?_
     simp only [go_sem]
     intro t16 e16
     (try replace e16 := w64 e16 (by omega) (by omega))
     have hk : a.getD i default = b.getD i default := by
       exact Entry.of_eq h25
     refine rnd_next (i + 1) ⟨by omega, all_next hI1.2 hk⟩ (by first | omega | (dsimp only; omega)) byC
   ·
    (try simp only [go_sem] at h14)
    refine cx_exit ?_
    simp only [go_sem]
    refine cx_sr ?_
    simp only [go_sem]
    refine cx_ret ?_
    simp only [go_sem]
    refine finw_bool ?_
    have : a = b := list_eq_of (d := default) (by omega) (fun j hj => hI1.2 j (by omega))
    simp [sameL, this]
theorem SameChanges_c (a b : List Change) (ha : a.length < 4611686018427387904) (hb : b.length < 4611686018427387904) : Meets Tryd.prog 20 [lstV 5 Change.enc default a, lstV 5 Change.enc default b] (.bool (sameL a b)) [] := by
  refine meets_x (fn := Tryd.f20) Tryd.func20 rfl fb20 (by kernel_rfl) (Nat.le_of_ble_eq_true rfl) ?_
  refine cx_sr ?_
  simp only [go_sem]
  repeat first | (with_reducible refine side_d ?_ ?_; exact byD) | (with_reducible refine side_q ?_ ?_; exact byQ)
  refine cx_seq ?_
  refine cx_sr ?_
  simp only [go_sem]
  intro t10 e10
  subst e10
  refine cx_if _ rfl (fun h10 => ?_) (fun h10 => ?_)
  ·
   (try simp only [go_sem] at h10)
   refine cx_sr ?_
   simp only [go_sem]
   refine cx_ret ?_
   simp only [go_sem]
   refine finw_bool ?_
   have : a ≠ b := fun e => by subst e; exact h10 rfl
   simp [sameL, this]
  ·
   (try simp only [go_sem] at h10)
   refine cx_skip ?_
   (try simp only [go_sem])
   refine cx_seq ?_
   refine cx_sr ?_
   simp only [go_sem]
   refine cx_block ?_
   refine cx_loop0 (σ := Nat) (fun i => i ≤ a.length ∧ ∀ j, j < i → a.getD j default = b.getD j default) (fun i => [⟨5, 0, [], .int .i64 (i : Nat)⟩]) [0, 1] (fun i => a.length - i) 0 ⟨Nat.zero_le _, fun j hj => absurd hj (Nat.not_lt_zero j)⟩ (Nat.zero_le _) byC (fun i hI1 => ?_)
   simp only [go_sem]
   refine cx_seq ?_
   refine cx_sr ?_
   simp only [go_sem]
   repeat first | (with_reducible refine side_d ?_ ?_; exact byD) | (with_reducible refine side_q ?_ ?_; exact byQ)
   intro t14 e14
   subst e14
   refine cx_if _ rfl (fun h14 => ?_) (fun h14 => ?_)
   ·
    (try simp only [go_sem] at h14)
    refine cx_skip ?_
    (try simp only [go_sem])
    refine cx_seq (cx_block ?_)
    refine cx_seq (cx_draw mixed [] (.first 0 (.first 1 (.first 2 (.first 3 (.first 4 (.first 5 (.first 6 (.first 7 (.first 8 (.done)))))))))) (by kernel_rfl) ?_)
    simp only [go_sem]
    repeat first | (with_reducible refine side_d ?_ ?_; exact byD) | (with_reducible refine side_q ?_ ?_; exact byQ)
    intro t25 e25
    subst e25
    refine cx_if _ rfl (fun h25 => ?_) (fun h25 => ?_)
    ·
     (try simp only [go_sem] at h25)
     refine cx_sr ?_
     simp only [go_sem]
     refine cx_ret ?_
     simp only [go_sem]
     refine finw_bool ?_
     have : a ≠ b := fun e => by
       subst e
       grind
     simp [sameL, this]
    ·
     (try simp only [go_sem] at h25)
     refine cx_skip ?_
     (try simp only [go_sem])
     refine cx_region ?_
     simp only [go_sem]
     intro t16 e16
     (try replace e16 := w64 e16 (by omega) (by omega))
     have hk : a.getD i default = b.getD i default := by
       exact Change.of_eq h25
     refine rnd_next (i + 1) ⟨by omega, all_next hI1.2 hk⟩ (by first | omega | (dsimp only; omega)) byC
   ·
    (try simp only [go_sem] at h14)
    refine cx_exit ?_
    simp only [go_sem]
    refine cx_sr ?_
    simp only [go_sem]
    refine cx_ret ?_
    simp only [go_sem]
    refine finw_bool ?_
    have : a = b := list_eq_of (d := default) (by omega) (fun j hj => hI1.2 j (by omega))
    simp [sameL, this]
theorem treeBegun_c : Meets Tryd.prog 9 [] (.bool true) [] := by
  refine meets_x (fn := Tryd.f9) Tryd.func9 rfl fb9 (by kernel_rfl) (Nat.le_of_ble_eq_true rfl) ?_
  have h1 : applyP [] ⟨1, [97], [], [], 0⟩ 5 = [⟨[97], true, [], 5⟩] := by decide +kernel
  have h2 : applyErr [] ⟨1, [97], [], [], 0⟩ 5 = 0 := by decide +kernel
  have h3 : allP [⟨[97], true, [], 5⟩] [⟨2, [97, 47, 98], [], [120], -1⟩] 6 = ([⟨[97], true, [], 5⟩, ⟨[97, 47, 98], false, [120], 6⟩], 1, 0) := by decide +kernel
  have hA := Apply_c [] ⟨1, [97], [], [], 0⟩ 5 (by simp [okE]) (by simp [okC])
  rw [h1, h2] at hA
  have hB := All_c [⟨[97], true, [], 5⟩] [⟨2, [97, 47, 98], [], [120], -1⟩] 6 (by simp [okE]) (by simp [okCs, okC])
  rw [h3] at hB
  dsimp only [List.length] at hA hB
  refine cx_sr ?_
  simp only [go_sem]
  repeat first | (with_reducible refine side_d ?_ ?_; exact byD) | (with_reducible refine side_q ?_ ?_; exact byQ)
  refine cx_sr ?_
  simp only [go_sem]
  refine cw_m (hA) byW byT ?_
  simp only [go_sem]
  refine cx_sr ?_
  simp only [go_sem]
  refine cw_n 2 (hB) byV byC rfl byN ?_
  simp only [go_sem]
  refine cx_sr ?_
  simp only [go_sem]
  intro t20 e20
  intro t23 e23
  intro t24 e24
  rw [bsel_and] at e24
  intro t27 e27
  intro t28 e28
  rw [bsel_and] at e28
  intro t32 e32
  intro t33 e33
  rw [bsel_and] at e33
  repeat ((with_reducible first | refine side_d ?_ ?_ | refine side_q ?_ ?_); focus (first | exact byD | exact byQ | ((refine Sd.mk ?_; decide))))
  repeat first | (with_reducible refine side_d ?_ ?_; exact byD) | (with_reducible refine side_q ?_ ?_; exact byQ)
  intro t39 e39
  intro t40 e40
  rw [bsel_and] at e40
  repeat ((with_reducible first | refine side_d ?_ ?_ | refine side_q ?_ ?_); focus (first | exact byD | exact byQ | ((refine Sd.mk ?_; decide))))
  repeat first | (with_reducible refine side_d ?_ ?_; exact byD) | (with_reducible refine side_q ?_ ?_; exact byQ)
  intro t46 e46
  rw [bsel_and] at e46
  subst e20 e23 e24 e27 e28 e32 e33 e39 e40 e46
  refine cx_ret ?_
  simp only [go_sem]
  exact finw_bool (by simp)
end Go.VM.Tryd
end
section
set_option maxHeartbeats 4000000
set_option linter.unusedVariables false
set_option linter.unusedSimpArgs false
open Go Go.VM
namespace Tether
end Tether
end
section
set_option maxHeartbeats 4000000
set_option linter.unusedVariables false
set_option linter.unusedSimpArgs false
open Go Go.VM Go.Proofs Tether
namespace Go.VM.Tryd
set_option maxRecDepth 100000
end Go.VM.Tryd
end
section
set_option maxHeartbeats 4000000
set_option linter.unusedVariables false
set_option linter.unusedSimpArgs false
open Go Go.VM Go.Proofs Tether
namespace Go.VM.Tryd
set_option maxRecDepth 100000
set_option maxHeartbeats 4000000
theorem form_kind {c : Change} (h : formP c = 0) : 1 ≤ c.kind ∧ c.kind ≤ 4 := by
  unfold formP at h
  grind
theorem filter_snoc {l : List Entry} {p : Entry → Bool} {i : Nat} (h : i < l.length) : (l.take (i + 1)).filter p = if p (l.getD i default) = true then (l.take i).filter p ++ [l.getD i default] else (l.take i).filter p := by
  have hd : l.getD i default = l[i] := by simp [List.getD, h]
  rw [hd, List.take_add_one, List.getElem?_eq_getElem h, List.filter_append]
  by_cases hb : p l[i] = true
  · rw [if_pos hb]; simp [hb]
  · rw [if_neg hb]; simp [hb]
end Go.VM.Tryd
end
section
set_option maxHeartbeats 4000000
set_option linter.unusedVariables false
set_option linter.unusedSimpArgs false
open Go Go.VM Go.Proofs Tether
namespace Go.VM.Tryd
set_option maxRecDepth 100000
def allR (l : List Entry) (cs : List Change) (v : Int) : List Entry × Int × Int :=
  if 20 < (cs.length : Int) then ([], 0, 2) else if verB v = false ∧ 0 < (cs.length : Int) then ([], 0, 3) else allRun v l cs 0
/-- many changes: the program's and the document's -/
theorem allP_R (l : List Entry) (cs : List Change) (v : Int) : allP l cs v = if checkT l ≠ 0 then ([], 0, checkT l) else allR l cs v := rfl
end Go.VM.Tryd
end
section
set_option maxHeartbeats 4000000
set_option linter.unusedVariables false
set_option linter.unusedSimpArgs false
open Go Go.VM Go.Proofs Tether
namespace Go.VM.Tryd
set_option maxRecDepth 100000
end Go.VM.Tryd
end
section
set_option maxHeartbeats 4000000
set_option linter.unusedVariables false
set_option linter.unusedSimpArgs false
open Go Go.VM Go.Proofs Tether
namespace Go.VM.Tryd
structure FullT (l : List Entry) : Prop where
  len : l.length ≤ 60
  ents : ∀ x ∈ l, entErr x = 0
  sorted : SortedE l
  par : ∀ x ∈ l, headOf x.path = [] ∨ ∃ y ∈ l, y.path = headOf x.path ∧ y.folder = true
theorem parE_in {l : List Entry} (hs : SortedE l) {p : Str} : ((parE l p).2 = true ∧ (parE l p).1.folder = true) ↔ (headOf p = [] ∨ ∃ y ∈ l, y.path = headOf p ∧ y.folder = true) := by
  unfold parE
  by_cases h : headOf p = []
  · simp [h, topE]
  · rw [if_neg h]
    by_cases hh : hasE l (headOf p) = true
    · rw [if_pos hh]
      have hf := findE_eq hs (headOf p)
      rw [if_pos hh] at hf
      obtain ⟨h1, h2⟩ := findE_some hf
      constructor
      · rintro ⟨_, h3⟩
        exact .inr ⟨_, h1, h2, h3⟩
      · rintro (h3 | ⟨y, h3, h4, h5⟩)
        · exact absurd h3 h
        · have := sorted_mem_inj hs h3 h1 (h4.trans h2.symm)
          exact ⟨rfl, by rw [← this]; exact h5⟩
    · rw [if_neg hh]
      constructor
      · rintro ⟨h1, _⟩
        cases h1
      · rintro (h3 | ⟨y, h3, h4, h5⟩)
        · exact absurd h3 h
        · exact absurd ((hasE_iff hs).2 ⟨y, h3, h4⟩) hh
theorem checkT_iff {l : List Entry} : checkT l = 0 ↔ FullT l := by
  constructor
  · intro h
    unfold checkT at h
    have h1 : (l.length : Int) ≤ 60 := by grind
    have h2 : firstErr entErr l = 0 := by grind
    have h3 : sortedB l = true := by grind
    have h4 : parsB l = true := by grind
    have h5 : parfB l = true := by grind
    have hs := sortedB_iff.1 h3
    exact ⟨by omega, firstErr_0.1 h2, hs, fun x hx => (parE_in hs).1 ⟨List.all_eq_true.1 h4 x hx, List.all_eq_true.1 h5 x hx⟩⟩
  · rintro ⟨h1, h2, h3, h4⟩
    have e2 : firstErr entErr l = 0 := firstErr_0.2 h2
    have e3 : sortedB l = true := sortedB_iff.2 h3
    have e4 : parsB l = true := List.all_eq_true.2 fun x hx => ((parE_in h3).2 (h4 x hx)).1
    have e5 : parfB l = true := List.all_eq_true.2 fun x hx => ((parE_in h3).2 (h4 x hx)).2
    rw [checkT, if_neg (by omega), if_neg (by simpa using e2), if_neg (by simp [e3]), if_neg (by simp [e4]), if_neg (by simp [e5])]
theorem FullT.path {l : List Entry} (h : FullT l) {x : Entry} (hx : x ∈ l) : checkP [x.path] = 0 := entErr_path (h.ents x hx)
theorem FullT.ok {l : List Entry} (h : FullT l) : okE l := by
  refine ⟨by have := h.len; omega, fun x hx => ⟨by have := checkP_len (h.path hx); omega, ?_⟩⟩
  have := h.ents x hx
  unfold entErr at this
  grind
theorem FullT.good {l : List Entry} (h : FullT l) : GoodT l := checkT_good h.ok (checkT_iff.2 h)
theorem isIn_refl (p : Str) : isIn p p = true := (isIn_iff p p).2 (.inl rfl)
theorem isIn_trans {a b c : Str} (h : isIn a b = true) (k : isIn b c = true) : isIn a c = true := by
  rw [isIn_iff] at *
  rcases h with rfl | ⟨t, rfl⟩
  · exact k
  · rcases k with rfl | ⟨u, rfl⟩
    · exact .inr ⟨t, rfl⟩
    · exact .inr ⟨u ++ 47 :: t, by simp⟩
/-- a path that is not of one name is its front, a slash and its last name -/
theorem front_eq {p : Str} (h : headOf p ≠ []) : p = headOf p ++ 47 :: tailOf p := by
  rcases cut_last p with hp | ⟨f, x, rfl, hx⟩
  · exact absurd (headOf_no hp) h
  · rw [headOf_join hx, tailOf_join hx]
theorem in_front {p : Str} (h : headOf p ≠ []) : isIn p (headOf p) = true := by
  rw [isIn_iff]
  exact .inr ⟨tailOf p, front_eq h⟩
theorem front_lt {p : Str} (h : headOf p ≠ []) : (headOf p).length < p.length := by
  have := congrArg List.length (front_eq h)
  simp at this
  omega
theorem front_ne {p : Str} (h : headOf p ≠ []) : headOf p ≠ p := fun e => by
  have := front_lt h
  rw [e] at this
  omega
/-- what is properly within something has its front in it -/
theorem front_in {p q : Str} (h : isIn p q = true) (hne : p ≠ q) (hp : 47 ∉ tailOf p) : isIn (headOf p) q = true ∧ headOf p = q ++ (headOf p).drop q.length := by
  rw [isIn_iff] at h
  rcases h with h | ⟨t, rfl⟩
  · exact absurd h hne
  · rcases cut_last t with ht | ⟨f, x, rfl, hx⟩
    · rw [headOf_join ht]
      exact ⟨isIn_refl q, by simp⟩
    · rw [show q ++ 47 :: (f ++ 47 :: x) = (q ++ 47 :: f) ++ 47 :: x by simp, headOf_join hx]
      exact ⟨(isIn_iff _ _).2 (.inr ⟨f, rfl⟩), by simp⟩
theorem tail_no (p : Str) : 47 ∉ tailOf p := by
  rcases cut_last p with hp | ⟨f, x, rfl, hx⟩
  · rw [tailOf_no hp]; exact hp
  · rw [tailOf_join hx]; exact hx
theorem front_in' {p q : Str} (h : isIn p q = true) (hne : p ≠ q) : isIn (headOf p) q = true := (front_in h hne (tail_no p)).1
theorem front_ne_nil {p q : Str} (hq : q ≠ []) (h : isIn p q = true) (hne : p ≠ q) : headOf p ≠ [] := fun e => by
  have := isIn_len (front_in' h hne)
  rw [e] at this
  have : q.length = 0 := by simpa using this
  exact hq (List.length_eq_zero_iff.1 this)
/-- the front of a moved path -/
theorem front_moved {p f : Str} (t : Str) (h : isIn p f = true) (hne : p ≠ f) : headOf (t ++ p.drop f.length) = t ++ (headOf p).drop f.length := by
  rw [isIn_iff] at h
  rcases h with h | ⟨u, rfl⟩
  · exact absurd h hne
  · rw [List.drop_left]
    rcases cut_last u with hu | ⟨g, x, rfl, hx⟩
    · rw [headOf_join hu, headOf_join hu]
      simp
    · rw [show f ++ 47 :: (g ++ 47 :: x) = (f ++ 47 :: g) ++ 47 :: x by simp, show t ++ 47 :: (g ++ 47 :: x) = (t ++ 47 :: g) ++ 47 :: x by simp, headOf_join hx, headOf_join hx, List.drop_left]
theorem moved_eq_top {p f t : Str} (h : isIn p f = true) : t ++ p.drop f.length = t ↔ p = f := by
  rw [isIn_iff] at h
  rcases h with rfl | ⟨u, rfl⟩
  · simp
  · simp
theorem moved_inj {p q f t : Str} (hp : isIn p f = true) (hq : isIn q f = true) (h : t ++ p.drop f.length = t ++ q.drop f.length) : p = q := by
  have h := List.append_cancel_left h
  have e : ∀ {x : Str}, isIn x f = true → x = f ++ x.drop f.length := by
    intro x hx
    rw [isIn_iff] at hx
    rcases hx with rfl | ⟨u, rfl⟩
    · simp
    · simp
  rw [e hp, e hq, h]
theorem FullT.anc {l : List Entry} (g : FullT l) {q : Str} (hq : q ≠ []) : ∀ (n : Nat) (x : Entry), x.path.length ≤ n → x ∈ l → isIn x.path q = true → ∃ y ∈ l, y.path = q ∧ (x.path ≠ q → y.folder = true)
  | 0, x, hn, hx, h => by
    have := isIn_len h
    have : q.length = 0 := by omega
    exact absurd (List.length_eq_zero_iff.1 this) hq
  | n + 1, x, hn, hx, h => by
    by_cases he : x.path = q
    · exact ⟨x, hx, he, fun hne => absurd he hne⟩
    · have h1 := front_in' h he
      have h2 := front_ne_nil hq h he
      rcases g.par x hx with h3 | ⟨y, hy, hy2, hy3⟩
      · exact absurd h3 h2
      · obtain ⟨z, hz, hz2, hz3⟩ := FullT.anc g hq n y (by rw [hy2]; have := front_lt h2; omega) hy (by rw [hy2]; exact h1)
        refine ⟨z, hz, hz2, fun _ => ?_⟩
        by_cases hyq : y.path = q
        · have := sorted_mem_inj g.sorted hz hy (hz2.trans hyq.symm)
          rw [this]; exact hy3
        · exact hz3 hyq
theorem FullT.above {l : List Entry} (g : FullT l) {q : Str} (hq : q ≠ []) {x : Entry} (hx : x ∈ l) (h : isIn x.path q = true) : ∃ y ∈ l, y.path = q ∧ (x.path ≠ q → y.folder = true) :=
  g.anc hq _ x (Nat.le_refl _) hx h
theorem pass_ne {p : Str} (h : checkP [p] = 0) : p ≠ [] := by
  rintro rfl
  have := ((checkP_iff []).1 h).1 [] (by simp [pcs])
  exact isName_ne this rfl
theorem foldl_put_mem : ∀ (g t : List Entry), SortedE t → (g.Pairwise fun a b => a.path ≠ b.path) → ∀ y, y ∈ g.foldl putE t ↔ y ∈ g ∨ (y ∈ t ∧ ∀ z ∈ g, z.path ≠ y.path)
  | [], t, _, _, y => by simp
  | x :: g, t, ht, hg, y => by
    obtain ⟨h1, h2⟩ := List.pairwise_cons.1 hg
    rw [List.foldl_cons, foldl_put_mem g _ (putE_sorted ht x) h2 y, putE_mem ht]
    constructor
    · rintro (h | ⟨h | ⟨h, h3⟩, h4⟩)
      · exact .inl (by simp [h])
      · exact .inl (by simp [h])
      · refine .inr ⟨h, fun z hz => ?_⟩
        rcases List.mem_cons.1 hz with rfl | hz
        · exact fun e => h3 e.symm
        · exact h4 z hz
    · rintro (h | ⟨h, h3⟩)
      · rcases List.mem_cons.1 h with rfl | h
        · exact .inr ⟨.inl rfl, fun z hz e => h1 z hz e.symm⟩
        · exact .inl h
      · exact .inr ⟨.inr ⟨h, fun e => h3 x (by simp) e.symm⟩, fun z hz => h3 z (by simp [hz])⟩
theorem goes_pair {l : List Entry} (hs : SortedE l) (c : Change) (v : Int) : (goesP l c v).Pairwise fun a b => a.path ≠ b.path := by
  unfold goesP
  rw [List.pairwise_map]
  have h : (l.filter (inB c.path)).Pairwise fun a b => a.path < b.path := filter_sorted hs _
  refine (List.pairwise_iff_forall_sublist.2 fun {a b} hab => ?_)
  have hlt := List.pairwise_iff_forall_sublist.1 h hab
  have ha : a ∈ l.filter (inB c.path) := hab.subset (by simp)
  have hb : b ∈ l.filter (inB c.path) := hab.subset (by simp)
  intro e
  have := moved_inj (List.mem_filter.1 ha).2 (List.mem_filter.1 hb).2 e
  rw [this] at hlt
  exact lt_irrefl' _ hlt
end Go.VM.Tryd
end
section
set_option maxHeartbeats 4000000
set_option linter.unusedVariables false
set_option linter.unusedSimpArgs false
open Go Go.VM Go.Proofs Tether
namespace Go.VM.Tryd
structure MayT (l : List Entry) (c : Change) : Prop where
  par : headOf (goalP c) = [] ∨ ∃ y ∈ l, y.path = headOf (goalP c) ∧ y.folder = true
  new : c.kind = 1 → ∀ x ∈ l, x.path ≠ c.path
  file : c.kind = 2 → ∀ x ∈ l, x.path = c.path → x.folder = false
  is : c.kind ≠ 1 → c.kind ≠ 2 → ∃ x ∈ l, x.path = c.path
  apart : c.kind = 3 → isIn c.to c.path = false
  free : c.kind = 3 → ∀ x ∈ l, x.path ≠ c.to
theorem has_no {l : List Entry} (hs : SortedE l) {p : Str} (h : hasE l p = false) : ∀ x ∈ l, x.path ≠ p := fun x hx e => by
  rw [(hasE_iff hs).2 ⟨x, hx, e⟩] at h
  cases h
theorem may_iff {l : List Entry} (hs : SortedE l) {c : Change} (h : mayP l c = 0) : MayT l c := by
  have h1 : (parE l (goalP c)).2 = true ∧ (parE l (goalP c)).1.folder = true := by unfold mayP at h; grind
  have h2 : c.kind = 1 → hasE l c.path = false := by unfold mayP at h; grind
  have h3 : c.kind = 2 → hasE l c.path = true → (l.getD (eIx l c.path) default).folder = false := by unfold mayP at h; grind
  have h4 : c.kind ≠ 1 → c.kind ≠ 2 → hasE l c.path = true := by unfold mayP at h; grind
  have h5 : c.kind = 3 → isIn c.to c.path = false := by unfold mayP at h; grind
  have h6 : c.kind = 3 → hasE l c.to = false := by unfold mayP at h; grind
  refine ⟨(parE_in hs).1 h1, fun k => has_no hs (h2 k), fun k x hx e => ?_, fun k1 k2 => (hasE_iff hs).1 (h4 k1 k2), h5, fun k => has_no hs (h6 k)⟩
  have hh := (hasE_iff hs).2 ⟨x, hx, e⟩
  have hf := findE_eq hs c.path
  rw [if_pos hh] at hf
  obtain ⟨q1, q2⟩ := findE_some hf
  rw [sorted_mem_inj hs hx q1 (e.trans q2.symm)]
  exact h3 k hh
theorem may_of {l : List Entry} (hs : SortedE l) {c : Change} (hk : 1 ≤ c.kind ∧ c.kind ≤ 4) (m : MayT l c) (hst : c.base ≠ -1 → ∀ x ∈ l, staleB c x = false) : mayP l c = 0 := by
  obtain ⟨h1, h2⟩ := (parE_in hs).2 m.par
  have h3 : c.kind = 1 → hasE l c.path = false := fun k => by
    cases hh : hasE l c.path with
    | false => rfl
    | true => obtain ⟨x, hx, e⟩ := (hasE_iff hs).1 hh; exact absurd e (m.new k x hx)
  have h4 : c.kind = 2 → hasE l c.path = true → (l.getD (eIx l c.path) default).folder = false := fun k hh => by
    have hf := findE_eq hs c.path
    rw [if_pos hh] at hf
    obtain ⟨q1, q2⟩ := findE_some hf
    exact m.file k _ q1 q2
  have h5 : c.kind ≠ 1 → c.kind ≠ 2 → hasE l c.path = true := fun k1 k2 => (hasE_iff hs).2 (m.is k1 k2)
  have h6 := m.apart
  have h7 : c.kind = 3 → hasE l c.to = false := fun k => by
    cases hh : hasE l c.to with
    | false => rfl
    | true => obtain ⟨x, hx, e⟩ := (hasE_iff hs).1 hh; exact absurd e (m.free k x hx)
  have h8 : c.base ≠ -1 → l.any (staleB c) = false := fun hb => by
    rw [List.any_eq_false]
    intro x hx
    simp [hst hb x hx]
  unfold mayP
  grind
theorem goes_mem {l : List Entry} {c : Change} {v : Int} {y : Entry} : y ∈ goesP l c v ↔ ∃ x ∈ l, isIn x.path c.path = true ∧ mvE c v x = y := by
  unfold goesP
  rw [List.mem_map]
  constructor
  · rintro ⟨x, hx, e⟩
    exact ⟨x, (List.mem_filter.1 hx).1, (List.mem_filter.1 hx).2, e⟩
  · rintro ⟨x, hx, h, e⟩
    exact ⟨x, List.mem_filter.2 ⟨hx, h⟩, e⟩
theorem goes_in {l : List Entry} {c : Change} {v : Int} {y : Entry} (h : y ∈ goesP l c v) : isIn y.path c.to = true := by
  obtain ⟨x, hx, h1, rfl⟩ := goes_mem.1 h
  exact moved_in c.to h1
/-- nothing is where nothing may be -/
theorem FullT.clear {l : List Entry} (g : FullT l) {q : Str} (hq : checkP [q] = 0) (h : ∀ x ∈ l, x.path ≠ q) : ∀ x ∈ l, isIn x.path q = false := by
  intro x hx
  cases hi : isIn x.path q with
  | false => rfl
  | true =>
    obtain ⟨y, hy, e, _⟩ := g.above (pass_ne hq) hx hi
    exact absurd e (h y hy)
/-- the members of a moved tree -/
theorem movedL_mem {l : List Entry} {c : Change} {v : Int} (g : FullT l) (m : MayT l c) (hk : c.kind = 3) (ht : checkP [c.to] = 0) {y : Entry} :
    y ∈ movedL l c v ↔ y ∈ goesP l c v ∨ (y ∈ l ∧ isIn y.path c.path = false) := by
  unfold movedL
  rw [foldl_put_mem _ _ (filter_sorted g.sorted _) (goes_pair g.sorted c v)]
  have hcl := g.clear ht (m.free hk)
  constructor
  · rintro (h | ⟨h, _⟩)
    · exact .inl h
    · obtain ⟨h1, h2⟩ := List.mem_filter.1 h
      exact .inr ⟨h1, by simpa [outB] using h2⟩
  · rintro (h | ⟨h1, h2⟩)
    · exact .inl h
    · refine .inr ⟨List.mem_filter.2 ⟨h1, by simpa [outB] using h2⟩, fun z hz e => ?_⟩
      have := goes_in hz
      rw [e, hcl y h1] at this
      cases this
theorem verB_iff {v : Int} : verB v = true ↔ 1 ≤ v ∧ v ≤ 1000000 := by simp [verB]
theorem entErr_iff {x : Entry} : entErr x = 0 ↔ checkP [x.path] = 0 ∧ ¬ (x.folder = true ∧ x.text ≠ []) ∧ x.text.length ≤ 300 ∧ 1 ≤ x.version ∧ x.version ≤ 1000000 := by
  unfold entErr
  grind
theorem form_text {c : Change} (h : formP c = 0) : c.text.length ≤ 300 := by
  unfold formP at h
  grind
/-- nothing is within something that is a file -/
theorem out_front {p q : Str} (h : isIn p q = false) (hp : headOf p ≠ []) : isIn (headOf p) q = false := by
  cases hi : isIn (headOf p) q with
  | false => rfl
  | true => rw [isIn_trans (in_front hp) hi] at h; cases h
theorem made_full {l : List Entry} {c : Change} {v : Int} (g : FullT l) (hv : verB v = true) (h : rawErr l c v = 0) : FullT (madeP l c v) := by
  obtain ⟨hf, hm, hd⟩ := raw_0 h
  obtain ⟨hgr, hlen⟩ := done_0 hd
  obtain ⟨hcp, hct⟩ := form_ok hf
  have hfk := form_kind hf
  have m := may_iff g.sorted hm
  have hver := verB_iff.1 hv
  have htx := form_text hf
  by_cases k1 : c.kind = 1
  · have e : madeP l c v = putE l ⟨c.path, true, [], v⟩ := by rw [madeP, if_pos k1]
    have hg : goalP c = c.path := by rw [goalP, if_neg (by omega)]
    rw [e] at hlen ⊢
    refine ⟨hlen, fun x hx => ?_, putE_sorted g.sorted _, fun x hx => ?_⟩
    · rcases (putE_mem g.sorted).1 hx with rfl | ⟨hx, _⟩
      · exact entErr_iff.2 ⟨hcp, by simp, by simp, hver.1, hver.2⟩
      · exact g.ents x hx
    · have keep : ∀ y ∈ l, y ∈ putE l ⟨c.path, true, [], v⟩ := fun y hy => (putE_mem g.sorted).2 (.inr ⟨hy, m.new k1 y hy⟩)
      rcases (putE_mem g.sorted).1 hx with rfl | ⟨hx, _⟩
      · have := m.par
        rw [hg] at this
        rcases this with h | ⟨y, hy, h1, h2⟩
        · exact .inl h
        · exact .inr ⟨y, keep y hy, h1, h2⟩
      · rcases g.par x hx with h | ⟨y, hy, h1, h2⟩
        · exact .inl h
        · exact .inr ⟨y, keep y hy, h1, h2⟩
  · by_cases k2 : c.kind = 2
    · have e : madeP l c v = putE l ⟨c.path, false, c.text, v⟩ := by rw [madeP, if_neg k1, if_pos k2]
      have hg : goalP c = c.path := by rw [goalP, if_neg (by omega)]
      rw [e] at hlen ⊢
      refine ⟨hlen, fun x hx => ?_, putE_sorted g.sorted _, fun x hx => ?_⟩
      · rcases (putE_mem g.sorted).1 hx with rfl | ⟨hx, _⟩
        · exact entErr_iff.2 ⟨hcp, by simp, htx, hver.1, hver.2⟩
        · exact g.ents x hx
      · have keep : ∀ y ∈ l, y.folder = true → y ∈ putE l ⟨c.path, false, c.text, v⟩ := fun y hy hfy => (putE_mem g.sorted).2 (.inr ⟨hy, fun e => by rw [m.file k2 y hy e] at hfy; cases hfy⟩)
        rcases (putE_mem g.sorted).1 hx with rfl | ⟨hx, _⟩
        · have := m.par
          rw [hg] at this
          rcases this with h | ⟨y, hy, h1, h2⟩
          · exact .inl h
          · exact .inr ⟨y, keep y hy h2, h1, h2⟩
        · rcases g.par x hx with h | ⟨y, hy, h1, h2⟩
          · exact .inl h
          · exact .inr ⟨y, keep y hy h2, h1, h2⟩
    · by_cases k4 : c.kind = 4
      · have e : madeP l c v = l.filter (outB c.path) := by rw [madeP, if_neg k1, if_neg k2, if_pos k4]
        rw [e] at hlen ⊢
        refine ⟨hlen, fun x hx => g.ents x (List.mem_filter.1 hx).1, filter_sorted g.sorted _, fun x hx => ?_⟩
        obtain ⟨h1, h2⟩ := List.mem_filter.1 hx
        have h2 : isIn x.path c.path = false := by simpa [outB] using h2
        by_cases h0 : headOf x.path = []
        · exact .inl h0
        · rcases g.par x h1 with h | ⟨y, hy, h3, h4⟩
          · exact .inl h
          · exact .inr ⟨y, List.mem_filter.2 ⟨hy, by simp [outB, h3, out_front h2 h0]⟩, h3, h4⟩
      · have k3 : c.kind = 3 := by omega
        have e : madeP l c v = movedL l c v := by rw [madeP, if_neg k1, if_neg k2, if_neg k4, if_pos k3]
        have ht := hct k3
        have hmem : ∀ {y : Entry}, y ∈ movedL l c v ↔ y ∈ goesP l c v ∨ (y ∈ l ∧ isIn y.path c.path = false) := movedL_mem g m k3 ht
        have hg : goalP c = c.to := by rw [goalP, if_pos k3]
        rw [e] at hlen ⊢
        refine ⟨hlen, fun x hx => ?_, foldl_put_sorted _ (filter_sorted g.sorted _), fun x hx => ?_⟩
        · rcases hmem.1 hx with h1 | ⟨h1, _⟩
          · have hp := goes_path (fun y hy => g.path hy) ht (hgr k3) h1
            obtain ⟨y, hy, h2, rfl⟩ := goes_mem.1 h1
            obtain ⟨q1, q2, q3, q4, q5⟩ := entErr_iff.1 (g.ents y hy)
            refine entErr_iff.2 ⟨hp, q2, q3, ?_⟩
            show 1 ≤ (if y.path = c.path then v else y.version) ∧ (if y.path = c.path then v else y.version) ≤ 1000000
            split
            · exact hver
            · exact ⟨q4, q5⟩
          · exact g.ents x h1
        · rcases hmem.1 hx with h1 | ⟨h1, h2⟩
          · obtain ⟨y, hy, h2, rfl⟩ := goes_mem.1 h1
            by_cases hyp : y.path = c.path
            · have hxp : (mvE c v y).path = c.to := by show c.to ++ y.path.drop c.path.length = c.to; rw [(moved_eq_top h2).2 hyp]
              rw [hxp]
              have hpar := m.par
              rw [hg] at hpar
              rcases hpar with h | ⟨z, hz, h3, h4⟩
              · exact .inl h
              · by_cases h0 : headOf c.to = []
                · exact .inl h0
                · refine .inr ⟨z, hmem.2 (.inr ⟨hz, ?_⟩), h3, h4⟩
                  rw [h3]
                  exact out_front (m.apart k3) h0
            · have hne := front_ne_nil (pass_ne hcp) h2 hyp
              rcases g.par y hy with h | ⟨z, hz, h3, h4⟩
              · exact absurd h hne
              · right
                have hzin : isIn z.path c.path = true := by rw [h3]; exact front_in' h2 hyp
                refine ⟨mvE c v z, hmem.2 (.inl (goes_mem.2 ⟨z, hz, hzin, rfl⟩)), ?_, h4⟩
                show c.to ++ z.path.drop c.path.length = headOf (c.to ++ y.path.drop c.path.length)
                rw [front_moved c.to h2 hyp, h3]
          · by_cases h0 : headOf x.path = []
            · exact .inl h0
            · rcases g.par x h1 with h | ⟨y, hy, h3, h4⟩
              · exact .inl h
              · exact .inr ⟨y, hmem.2 (.inr ⟨hy, by rw [h3]; exact out_front h2 h0⟩), h3, h4⟩
theorem apply_0 {l : List Entry} {c : Change} {v : Int} (h : applyErr l c v = 0) : FullT l ∧ verB v = true ∧ rawErr l c v = 0 ∧ applyP l c v = madeP l c v := by
  have hp : applyP l c v = madeP l c v := by rw [applyP, if_pos h]
  unfold applyErr at h
  have h1 : checkT l = 0 := by grind
  have h2 : verB v = true := by grind
  have h3 : rawErr l c v = 0 := by grind
  exact ⟨checkT_iff.1 h1, h2, h3, hp⟩
theorem apply_of {l : List Entry} {c : Change} {v : Int} (g : FullT l) (hv : verB v = true) (h : rawErr l c v = 0) : applyErr l c v = 0 := by
  rw [applyErr, if_neg (by simp [checkT_iff.2 g]), if_neg (by simp [hv]), h]
end Go.VM.Tryd
end
section
set_option maxHeartbeats 4000000
set_option linter.unusedVariables false
set_option linter.unusedSimpArgs false
open Go Go.VM Go.Proofs Tether
namespace Go.VM.Tryd
set_option maxRecDepth 100000
def shapeE (x : Entry) : Str × Bool × Str := (x.path, x.folder, x.text)
def likeL (a b : List Entry) : Bool := decide (a.map shapeE = b.map shapeE)
end Go.VM.Tryd
end
section
set_option maxHeartbeats 4000000
set_option linter.unusedVariables false
set_option linter.unusedSimpArgs false
open Go Go.VM Go.Proofs Tether
namespace Go.VM.Tryd
set_option maxRecDepth 100000
theorem IndexFunc_string (f : Nat) (caps : List V) (hc : ltrs 0 caps = true) (p : Str → Bool) (l : List Str) (hp : ∀ x ∈ l, Meets Tryd.prog f (.str x :: caps) (.bool (p x)) []) (hl : l.length < 4611686018427387904) :
    Meets Tryd.prog 49 [lstV 1 strE' [] l, .fn f [] caps] (.int .i64 (idxF p l)) [] := by
  refine meets_x (fn := Tryd.f49) Tryd.func49 rfl fb49 (by kernel_rfl) (Nat.le_of_ble_eq_true rfl) ?_
  refine cx_sr ?_
  simp only [go_sem]
  repeat first | (with_reducible refine side_d ?_ ?_; exact byD) | (with_reducible refine side_q ?_ ?_; exact byQ)
  refine cx_seq ?_
  refine cx_sr ?_
  simp only [go_sem]
  refine cx_block ?_
  refine cx_loop0 (σ := Nat) (fun i => i ≤ l.length ∧ ∀ j, j < i → p (l.getD j []) = false) (fun i => [⟨8, 0, [], .int .i64 (i : Nat)⟩]) [0, 1, 7] (fun i => l.length - i) 0 ⟨Nat.zero_le _, fun j hj => absurd hj (Nat.not_lt_zero j)⟩ (Nat.zero_le _) byC (fun i hI1 => ?_)
  simp only [go_sem]
  refine cx_sr ?_
  simp only [go_sem]
  repeat first | (with_reducible refine side_d ?_ ?_; exact byD) | (with_reducible refine side_q ?_ ?_; exact byQ)
  intro t9 e9
  subst e9
  refine cx_seq ?_
  refine cx_if _ rfl (fun h9 => ?_) (fun h9 => ?_)
  ·
   (try simp only [go_sem] at h9)
   refine cx_skip ?_
   (try simp only [go_sem])
   refine cx_seq (cx_block ?_)
   refine cx_sr ?_
   simp only [go_sem]
   refine cx_sr ?_
   simp only [go_sem]
   repeat first | (with_reducible refine side_d ?_ ?_; exact byD) | (with_reducible refine side_q ?_ ?_; exact byQ)
   refine cw_m (hp (l.getD i []) (getD_mem (by omega))) byW byT ?_
   simp only [go_sem]
   refine cx_if _ rfl (fun h16 => ?_) (fun h16 => ?_)
   ·
    (try simp only [go_sem] at h16)
    refine cx_sr ?_
    simp only [go_sem]
    refine cx_ret ?_
    simp only [go_sem]
    refine finw_int ?_
    rw [idxF_at (by omega) hI1.2 h16]
   ·
    (try simp only [go_sem] at h16)
    refine cx_skip ?_
    (try simp only [go_sem])
    refine cx_region ?_
    simp only [go_sem]
    intro t18 e18
    (try replace e18 := w64 e18 (by omega) (by omega))
    refine rnd_next (i + 1) ⟨by omega, all_next hI1.2 h16⟩ (by first | omega | (dsimp only; omega)) byC
  ·
   (try simp only [go_sem] at h9)
   refine cx_exit ?_
   simp only [go_sem]
   refine cx_sr ?_
   simp only [go_sem]
   refine cx_ret ?_
   simp only [go_sem]
   refine finw_int ?_
   rw [idxF_none fun j hj => hI1.2 j (by omega)]
theorem ContainsFunc_string (f : Nat) (caps : List V) (hc : ltrs 0 caps = true) (p : Str → Bool) (l : List Str) (hp : ∀ x ∈ l, Meets Tryd.prog f (.str x :: caps) (.bool (p x)) []) (hl : l.length < 4611686018427387904) :
    Meets Tryd.prog 35 [lstV 1 strE' [] l, .fn f [] caps] (.bool (l.any p)) [] := by
  refine meets_x (fn := Tryd.f35) Tryd.func35 rfl fb35 (by kernel_rfl) (Nat.le_of_ble_eq_true rfl) ?_
  refine cx_sr ?_
  simp only [go_sem]
  repeat first | (with_reducible refine side_d ?_ ?_; exact byD) | (with_reducible refine side_q ?_ ?_; exact byQ)
  refine cx_sr ?_
  simp only [go_sem]
  refine cw_m (IndexFunc_string f caps hc p l hp hl) byW byT ?_
  simp only [go_sem]
  intro t8 e8
  subst e8
  refine cx_ret ?_
  simp only [go_sem]
  refine finw_bool ?_
  rw [← idxF_any]
def likeB (a b : Entry) : Bool := decide (shapeE a = shapeE b)
theorem like_c (a b : Entry) : Meets Tryd.prog 30 [.agg a.enc, .agg b.enc] (.bool (likeB a b)) [] := by
  refine meets_x (fn := Tryd.f30) Tryd.func30 rfl fb30 (by kernel_rfl) (Nat.le_of_ble_eq_true rfl) ?_
  refine cx_sr ?_
  simp only [go_sem]
  repeat first | (with_reducible refine side_d ?_ ?_; exact byD) | (with_reducible refine side_q ?_ ?_; exact byQ)
  refine cx_sr ?_
  simp only [go_sem]
  intro t9 e9
  intro t15 e15
  intro t16 e16
  rw [bsel_and] at e16
  intro t22 e22
  intro t23 e23
  rw [bsel_and] at e23
  subst e9 e15 e16 e22 e23
  refine cx_ret ?_
  simp only [go_sem]
  refine finw_bool ?_
  unfold likeB shapeE
  grind
def check2 (a b : List Entry) : Int := if checkT a ≠ 0 then checkT a else checkT b
theorem dcheck_c (a b : List Entry) (oka : okE a) (okb : okE b) : Meets Tryd.prog 28 [esV a, esV b] (.int .i64 (check2 a b)) [] := by
  refine meets_x (fn := Tryd.f28) Tryd.func28 rfl fb28 (by kernel_rfl) (Nat.le_of_ble_eq_true rfl) ?_
  refine cx_sr ?_
  simp only [go_sem]
  repeat first | (with_reducible refine side_d ?_ ?_; exact byD) | (with_reducible refine side_q ?_ ?_; exact byQ)
  refine cx_seq ?_
  refine cx_sr ?_
  simp only [go_sem]
  refine cw_m (TCheck_c a oka) byW byT ?_
  simp only [go_sem]
  refine cx_sr ?_
  simp only [go_sem]
  intro t9 e9
  subst e9
  refine cx_if _ rfl (fun h9 => ?_) (fun h9 => ?_)
  ·
   (try simp only [go_sem] at h9)
   refine cx_sr ?_
   simp only [go_sem]
   refine cx_ret ?_
   simp only [go_sem]
   exact finw_int (by rw [check2, if_pos h9])
  ·
   (try simp only [go_sem] at h9)
   refine cx_skip ?_
   (try simp only [go_sem])
   refine cx_sr ?_
   simp only [go_sem]
   refine cw_m (TCheck_c b okb) byW byT ?_
   simp only [go_sem]
   refine cx_ret ?_
   simp only [go_sem]
   exact finw_int (by rw [check2, if_neg (by simpa using h9)])
theorem EqualFunc_c (a b : List Entry) (ha : a.length < 4611686018427387904) (hb : b.length < 4611686018427387904) : Meets Tryd.prog 29 [esV a, esV b, .fn 30 [] []] (.bool (likeL a b)) [] := by
  refine meets_x (fn := Tryd.f29) Tryd.func29 rfl fb29 (by kernel_rfl) (Nat.le_of_ble_eq_true rfl) ?_
  refine cx_sr ?_
  simp only [go_sem]
  repeat first | (with_reducible refine side_d ?_ ?_; exact byD) | (with_reducible refine side_q ?_ ?_; exact byQ)
  refine cx_seq ?_
  refine cx_sr ?_
  simp only [go_sem]
  intro t14 e14
  subst e14
  refine cx_if _ rfl (fun h14 => ?_) (fun h14 => ?_)
  ·
   (try simp only [go_sem] at h14)
   refine cx_sr ?_
   simp only [go_sem]
   refine cx_ret ?_
   simp only [go_sem]
   refine finw_bool ?_
   have : ¬ a.map shapeE = b.map shapeE := fun e => by
     have := congrArg List.length e
     simp only [List.length_map] at this
     grind
   simp [likeL, this]
  ·
   (try simp only [go_sem] at h14)
   refine cx_skip ?_
   (try simp only [go_sem])
   refine cx_seq ?_
   refine cx_sr ?_
   simp only [go_sem]
   refine cx_block ?_
   refine cx_loop0 (σ := Nat) (fun i => i ≤ a.length ∧ ∀ j, j < i → shapeE (a.getD j default) = shapeE (b.getD j default)) (fun i => [⟨17, 0, [], .int .i64 (i : Nat)⟩]) [1, 2, 15, 16] (fun i => a.length - i) 0 ⟨Nat.zero_le _, fun j hj => absurd hj (Nat.not_lt_zero j)⟩ (Nat.zero_le _) byC (fun i hI1 => ?_)
   simp only [go_sem]
   refine cx_sr ?_
   simp only [go_sem]
   repeat first | (with_reducible refine side_d ?_ ?_; exact byD) | (with_reducible refine side_q ?_ ?_; exact byQ)
   intro t18 e18
   subst e18
   refine cx_seq ?_
   refine cx_if _ rfl (fun h18 => ?_) (fun h18 => ?_)
   ·
    (try simp only [go_sem] at h18)
    refine cx_skip ?_
    (try simp only [go_sem])
    refine cx_seq (cx_block ?_)
    refine cx_sr ?_
    simp only [go_sem]
    repeat first | (with_reducible refine side_d ?_ ?_; exact byD) | (with_reducible refine side_q ?_ ?_; exact byQ)
    refine cx_sr ?_
    simp only [go_sem]
    repeat first | (with_reducible refine side_d ?_ ?_; exact byD) | (with_reducible refine side_q ?_ ?_; exact byQ)
    refine cx_sr ?_
    simp only [go_sem]
    refine cw_m (like_c (a.getD i default) (b.getD i default)) byW byT ?_
    simp only [go_sem]
    intro t30 e30
    subst e30
    refine cx_if _ rfl (fun h30 => ?_) (fun h30 => ?_)
    ·
     (try simp only [go_sem] at h30)
     refine cx_sr ?_
     simp only [go_sem]
     refine cx_ret ?_
     simp only [go_sem]
     refine finw_bool ?_
     have : ¬ a.map shapeE = b.map shapeE := fun e => by
       have h1 := congrArg (fun z => z[i]?) e
       simp only [List.getElem?_map, List.getElem?_eq_getElem (show i < a.length by omega), List.getElem?_eq_getElem (show i < b.length by omega), Option.map_some, Option.some.injEq] at h1
       have e1 : a.getD i default = a[i] := by simp [List.getD, show i < a.length by omega]
       have e2 : b.getD i default = b[i] := by simp [List.getD, show i < b.length by omega]
       rw [e1, e2] at h30
       rw [likeB, h1] at h30
       simp at h30
     simp [likeL, this]
    ·
     (try simp only [go_sem] at h30)
     refine cx_skip ?_
     (try simp only [go_sem])
     refine cx_region ?_
     simp only [go_sem]
     intro t31 e31
     (try replace e31 := w64 e31 (by omega) (by omega))
     have hk : shapeE (a.getD i default) = shapeE (b.getD i default) := by simpa [likeB] using h30
     refine rnd_next (i + 1) ⟨by omega, all_next hI1.2 hk⟩ (by first | omega | (dsimp only; omega)) byC
   ·
    (try simp only [go_sem] at h18)
    refine cx_exit ?_
    simp only [go_sem]
    refine cx_sr ?_
    simp only [go_sem]
    refine cx_ret ?_
    simp only [go_sem]
    refine finw_bool ?_
    have : a.map shapeE = b.map shapeE := by
      apply List.ext_getElem (by simp; omega)
      intro i h1 h2
      simp only [List.length_map] at h1 h2
      have := hI1.2 i (by omega)
      simpa [List.getD, h1, h2] using this
    simp [likeL, this]
theorem Same_c (a b : List Entry) (oka : okE a) (okb : okE b) : Meets Tryd.prog 12 [esV a, esV b] (.tup [.bool (decide (check2 a b = 0) && likeL a b), .int .i64 (check2 a b)]) [] := by
  refine meets_x (fn := Tryd.f12) Tryd.func12 rfl fb12 (by kernel_rfl) (Nat.le_of_ble_eq_true rfl) ?_
  refine cx_sr ?_
  simp only [go_sem]
  repeat first | (with_reducible refine side_d ?_ ?_; exact byD) | (with_reducible refine side_q ?_ ?_; exact byQ)
  refine cx_seq ?_
  refine cx_sr ?_
  simp only [go_sem]
  refine cw_m (dcheck_c a b oka okb) byW byT ?_
  simp only [go_sem]
  refine cx_sr ?_
  simp only [go_sem]
  intro t11 e11
  subst e11
  refine cx_if _ rfl (fun h11 => ?_) (fun h11 => ?_)
  ·
   (try simp only [go_sem] at h11)
   refine cx_sr ?_
   simp only [go_sem]
   refine cx_ret ?_
   simp only [go_sem]
   refine finw_flat rfl ?_
   have h : ¬ check2 a b = 0 := by simpa using h11
   rw [decide_eq_false h, Bool.false_and]
   exact wk_refl _
  ·
   (try simp only [go_sem] at h11)
   refine cx_skip ?_
   (try simp only [go_sem])
   refine cx_sr ?_
   simp only [go_sem]
   refine cw_m (EqualFunc_c a b (by have := oka.1; omega) (by have := okb.1; omega)) byW byT ?_
   simp only [go_sem]
   refine cx_ret ?_
   simp only [go_sem]
   refine finw_flat rfl ?_
   have h : check2 a b = 0 := by simpa using h11
   rw [decide_eq_true h, Bool.true_and, h]
   exact wk_refl _
end Go.VM.Tryd
end
section
set_option maxHeartbeats 4000000
set_option linter.unusedVariables false
set_option linter.unusedSimpArgs false
open Go Go.VM Go.Proofs Tether
namespace Go.VM.Tryd
set_option maxRecDepth 100000
def badE (b : List Entry) (x : Entry) : Bool := match findE b x.path with | some y => y.folder != x.folder | none => true
def delC (x : Entry) : Change := ⟨4, x.path, [], [], -1⟩
def addC (x : Entry) : Change := ⟨if x.folder = true then 1 else 2, x.path, [], x.text, -1⟩
def stepD (b : List Entry) (s : List Change × List Str) (x : Entry) : List Change × List Str :=
  if (s.2.any fun p => isIn x.path p) = true then s else if badE b x = true then (s.1 ++ [delC x], s.2 ++ [x.path]) else s
def delsP (a b : List Entry) (i : Nat) : List Change × List Str := (a.take i).foldl (stepD b) ([], [])
def hasLike (a : List Entry) (x : Entry) : Bool := match findE a x.path with | some y => likeB y x | none => false
def addsP (a b : List Entry) (i : Nat) : List Change := ((b.take i).filter fun x => !hasLike a x).map addC
def diffP (a b : List Entry) : List Change := (delsP a b a.length).1 ++ addsP a b b.length
theorem dels_next {a b : List Entry} {i : Nat} (h : i < a.length) : delsP a b (i + 1) = stepD b (delsP a b i) (a.getD i default) := foldl_take _ _ _ _ h
theorem dels_len (a b : List Entry) : ∀ i, i ≤ a.length → (delsP a b i).1.length ≤ i ∧ (delsP a b i).2.length ≤ i
  | 0, _ => by simp [delsP]
  | i + 1, h => by
    have ih := dels_len a b i (by omega)
    rw [dels_next (by omega)]
    unfold stepD
    split
    · omega
    · split
      · simp; omega
      · omega
theorem dels_path (a b : List Entry) : ∀ i, i ≤ a.length → ∀ p ∈ (delsP a b i).2, ∃ x ∈ a, x.path = p
  | 0, _, p, hp => by simp [delsP] at hp
  | i + 1, h, p, hp => by
    have ih := dels_path a b i (by omega)
    rw [dels_next (by omega)] at hp
    unfold stepD at hp
    split at hp
    · exact ih p hp
    · split at hp
      · rcases List.mem_append.1 hp with hp | hp
        · exact ih p hp
        · exact ⟨a.getD i default, getD_mem (by omega), (List.mem_singleton.1 hp).symm⟩
      · exact ih p hp
theorem adds_next {a b : List Entry} {i : Nat} (h : i < b.length) : addsP a b (i + 1) = if hasLike a (b.getD i default) = true then addsP a b i else addsP a b i ++ [addC (b.getD i default)] := by
  unfold addsP
  rw [filter_snoc h]
  by_cases hl : hasLike a (b.getD i default) = true
  · rw [if_neg (by rw [hl]; decide), if_pos hl]
  · rw [if_pos (by rw [Bool.not_eq_true] at hl; rw [hl]; rfl), if_neg hl]
    simp
theorem adds_len (a b : List Entry) (i : Nat) : (addsP a b i).length ≤ i := by
  unfold addsP
  rw [List.length_map]
  have := List.length_filter_le (fun x => !hasLike a x) (b.take i)
  simp at this
  omega
def outD (a b : List Entry) (i : Nat) : List Change := (delsP a b a.length).1 ++ addsP a b i
theorem outD_len (a b : List Entry) (i : Nat) : (outD a b i).length ≤ a.length + i := by
  have h1 := adds_len a b i
  have h2 := (dels_len a b a.length (Nat.le_refl _)).1
  rw [outD, List.length_append]
  omega
theorem rawIn_c (p : Str) (x : Entry) (hp : p.length < 4611686018427387904) (hx : x.path.length < 4611686018427387904) : Meets Tryd.prog 36 [.str p, .iptr x.enc 0] (.bool (isIn x.path p)) [] := by
  refine meets_x (fn := Tryd.f36) Tryd.func36 rfl fb36 (by kernel_rfl) (Nat.le_of_ble_eq_true rfl) ?_
  refine cx_sr ?_
  simp only [go_sem]
  repeat first | (with_reducible refine side_d ?_ ?_; exact byD) | (with_reducible refine side_q ?_ ?_; exact byQ)
  refine cx_sr ?_
  simp only [go_sem]
  refine cw_m (In_c x.path p hx hp) byW byT ?_
  simp only [go_sem]
  refine cx_ret ?_
  simp only [go_sem]
  exact finw_bool rfl
theorem DRaw_c (a b : List Entry) (ha : SortedE a) (hb : SortedE b) (oka : okE a) (okb : okE b) : Meets Tryd.prog 17 [esV a, esV b] (.own none 0 5 0 (diffP a b).length .loose) [.arr 5 (diffP a b).length (En Change.enc default (diffP a b))] := by
  refine meets_x (fn := Tryd.f17) Tryd.func17 rfl fb17 (by kernel_rfl) (Nat.le_of_ble_eq_true rfl) ?_
  have hal := oka.1
  have hbl := okb.1
  have hix : ∀ (l : List Entry) p, hasE l p = true → eIx l p < l.length := fun l p h => by simp [hasE] at h; exact h.1
  refine cx_sr ?_
  simp only [go_sem]
  repeat first | (with_reducible refine side_d ?_ ?_; exact byD) | (with_reducible refine side_q ?_ ?_; exact byQ)
  refine cx_sr ?_
  simp only [go_sem]
  refine cx_sr ?_
  simp only [go_sem]
  refine cx_virt 5 5 (En Change.enc default []) rfl ?_
  refine cx_virt 6 1 (En strE' [] []) rfl ?_
  refine cx_seq ?_
  refine cx_sr ?_
  simp only [go_sem]
  refine cx_block ?_
  refine cx_loopk (σ := Nat) (fun i => i ≤ a.length) (fun i => [⟨18, 0, [], .int .i64 (i : Nat)⟩, ⟨5, 0, [], .own none 0 5 0 (delsP a b i).1.length .loose⟩, ⟨6, 0, [], .own none 1 1 0 (delsP a b i).2.length .loose⟩]) [0, 1, 4, 16, 17] (fun i => [.arr 5 (delsP a b i).1.length (En Change.enc default (delsP a b i).1), .arr 1 (delsP a b i).2.length (En strE' [] (delsP a b i).2)]) (fun i => a.length - i) 0 (by first | trivial | omega | simp) (fun _ => (Nat.zero_le _)) byC (fun i hI1 => ?_)
  simp only [go_sem]
  have hdl := dels_len a b i hI1
  refine cx_sr ?_
  simp only [go_sem]
  repeat first | (with_reducible refine side_d ?_ ?_; exact byD) | (with_reducible refine side_q ?_ ?_; exact byQ)
  intro t19 e19
  subst e19
  refine cx_seq ?_
  refine cx_if _ rfl (fun h19 => ?_) (fun h19 => ?_)
  ·
   (try simp only [go_sem] at h19)
   have hxl := oka.at (i := i) (by omega)
   have hpl : ∀ p ∈ (delsP a b i).2, p.length < 4611686018427387904 := fun p hp => by
     obtain ⟨x, hx, e⟩ := dels_path a b i hI1 p hp
     have := (oka.2 x hx).1
     rw [e] at this
     omega
   have hdn := dels_next (a := a) (b := b) (i := i) (by omega)
   refine cx_skip ?_
   (try simp only [go_sem])
   refine cx_seq (cx_block ?_)
   refine cx_sr ?_
   simp only [go_sem]
   repeat first | (with_reducible refine side_d ?_ ?_; exact byD) | (with_reducible refine side_q ?_ ?_; exact byQ)
   refine cx_seq ?_
   refine cx_sr ?_
   simp only [go_sem]
   refine cw_v 2 (ContainsFunc_string 36 [.iptr (a.getD i default).enc 0] rfl (fun p => isIn (a.getD i default).path p) (delsP a b i).2 (fun p hp => rawIn_c p _ (hpl p hp) (by omega)) (by omega)) byV byC rfl ?_
   simp only [go_sem]
   refine cx_if _ rfl (fun h24 => ?_) (fun h24 => ?_)
   ·
    (try simp only [go_sem] at h24)
    refine cx_exit ?_
    simp only [go_sem]
    refine cx_region ?_
    simp only [go_sem]
    intro t55 e55
    (try replace e55 := w64 e55 (by omega) (by omega))
    have hd : delsP a b (i + 1) = delsP a b i := by rw [hdn, stepD, if_pos h24]
    refine rnd_next (i + 1) (by omega) (by first | omega | (dsimp only; omega)) ?_
    rw [hd]
    exact byC
   ·
    (try simp only [go_sem] at h24)
    refine cx_skip ?_
    (try simp only [go_sem])
    refine cx_sr ?_
    simp only [go_sem]
    refine cw_m (At_c b (a.getD i default).path hb (by omega)) byW byT ?_
    simp only [go_sem]
    refine cx_seq (cx_draw mixed [] (.first 0 (.first 1 (.first 2 (.first 3 (.first 4 (.first 5 (.first 6 (.first 7 (.first 8 (.first 9 (.first 10 (.first 11 (.done))))))))))))) (by kernel_rfl) ?_)
    simp only [go_sem]
    intro t33 e33
    repeat ((with_reducible first | refine side_d ?_ ?_ | refine side_q ?_ ?_); focus (first | exact byD | exact byQ | ((refine Sd.of fun hp => ?_; simp only [pc, and_true] at hp; (have hq := hix b (a.getD i default).path (by rw [e33] at hp; simpa using hp)); omega))))
    repeat first | (with_reducible refine side_d ?_ ?_; exact byD) | (with_reducible refine side_q ?_ ?_; exact byQ)
    intro t42 e42
    intro t43 e43
    rw [bsel_or] at e43
    subst e33 e42 e43
    refine cx_if _ rfl (fun h43 => ?_) (fun h43 => ?_)
    ·
     (try simp only [go_sem] at h43)
     refine cx_sr ?_
     simp only [go_sem]
     repeat first | (with_reducible refine side_d ?_ ?_; exact byD) | (with_reducible refine side_q ?_ ?_; exact byQ)
     refine cx_region ?_
     simp only [go_sem]
     repeat first | (with_reducible refine side_d ?_ ?_; exact byD) | (with_reducible refine side_q ?_ ?_; exact byQ)
     refine cx_region ?_
     simp only [go_sem]
     intro t55 e55
     (try replace e55 := w64 e55 (by omega) (by omega))
     have hb1 : badE b (a.getD i default) = true := by unfold badE; rw [findE_eq hb]; grind
     have hd : delsP a b (i + 1) = ((delsP a b i).1 ++ [delC (a.getD i default)], (delsP a b i).2 ++ [(a.getD i default).path]) := by rw [hdn, stepD, if_neg (by rw [h24]; decide), if_pos hb1]
     refine rnd_nextr (i + 1) [4, 6] (by omega) (by first | omega | (dsimp only; omega)) ⟨rfl, rfl, ?_, ?_⟩
     · rw [hd]; exact byC
     · rw [hd]
       simp only [go_sem, wk, wks, wkB, wkH, List.length_append, List.length_cons, List.length_nil]
       exact ⟨fun q hq => wks_mp_snoc (x := delC (a.getD i default)) (fun x => rnVs_no _ rfl) rfl hq, fun q hq => wks_mp_snoc (x := (a.getD i default).path) (fun x => rnVs_no _ rfl) rfl hq⟩
    ·
     (try simp only [go_sem] at h43)
     refine cx_skip ?_
     (try simp only [go_sem])
     refine cx_region ?_
     simp only [go_sem]
     intro t55 e55
     (try replace e55 := w64 e55 (by omega) (by omega))
     have hb1 : ¬ badE b (a.getD i default) = true := by unfold badE; rw [findE_eq hb]; grind
     have hd : delsP a b (i + 1) = delsP a b i := by rw [hdn, stepD, if_neg (by rw [h24]; decide), if_neg hb1]
     refine rnd_next (i + 1) (by omega) (by first | omega | (dsimp only; omega)) ?_
     rw [hd]
     exact byC
  ·
   (try simp only [go_sem] at h19)
   obtain rfl : i = a.length := by omega
   have e0 : (delsP a b a.length).1 = outD a b 0 := by simp [outD, addsP]
   rw [e0]
   refine cx_exit ?_
   simp only [go_sem]
   refine cx_seq ?_
   refine cx_sr ?_
   simp only [go_sem]
   refine cx_block ?_
   refine cx_loopk (σ := Nat) (fun i => i ≤ b.length) (fun i => [⟨58, 0, [], .int .i64 (i : Nat)⟩, ⟨5, 0, [], .own none 0 5 0 (outD a b i).length .loose⟩]) [0, 4, 56, 57] (fun i => [.arr 5 (outD a b i).length (En Change.enc default (outD a b i)), .dead]) (fun i => b.length - i) 0 (by first | trivial | omega | simp) (fun _ => (Nat.zero_le _)) byC (fun i hI2 => ?_)
   simp only [go_sem]
   have hll := outD_len a b i
   refine cx_sr ?_
   simp only [go_sem]
   repeat first | (with_reducible refine side_d ?_ ?_; exact byD) | (with_reducible refine side_q ?_ ?_; exact byQ)
   intro t59 e59
   subst e59
   refine cx_seq ?_
   refine cx_if _ rfl (fun h59 => ?_) (fun h59 => ?_)
   ·
    (try simp only [go_sem] at h59)
    have hyl := okb.at (i := i) (by omega)
    have han := adds_next (a := a) (b := b) (i := i) (by omega)
    refine cx_skip ?_
    (try simp only [go_sem])
    refine cx_seq (cx_block ?_)
    refine cx_sr ?_
    simp only [go_sem]
    repeat first | (with_reducible refine side_d ?_ ?_; exact byD) | (with_reducible refine side_q ?_ ?_; exact byQ)
    refine cx_sr ?_
    simp only [go_sem]
    refine cw_m (At_c a (b.getD i default).path ha (by omega)) byW byT ?_
    simp only [go_sem]
    refine cx_seq ?_
    refine cx_seq (cx_draw mixed [] (.first 0 (.first 1 (.first 2 (.first 3 (.first 4 (.first 5 (.first 6 (.one 7 (.first 8 (.done)))))))))) (by kernel_rfl) ?_)
    simp only [go_sem]
    repeat ((with_reducible first | refine side_d ?_ ?_ | refine side_q ?_ ?_); focus (first | exact byD | exact byQ | ((refine Sd.of fun hp => ?_; simp only [pc, and_true] at hp; (have hq := hix a (b.getD i default).path (by simpa using hp)); omega))))
    repeat first | (with_reducible refine side_d ?_ ?_; exact byD) | (with_reducible refine side_q ?_ ?_; exact byQ)
    refine ⟨_, fun hp => cwE_m (like_c (a.getD (eIx a (b.getD i default).path) default) (b.getD i default)) byW byT ⟨rfl, rfl⟩, ?_⟩
    simp only [go_sem]
    intro t77 e77
    rw [bsel_and] at e77
    subst e77
    refine cx_if _ rfl (fun h77 => ?_) (fun h77 => ?_)
    ·
     (try simp only [go_sem] at h77)
     refine cx_exit ?_
     simp only [go_sem]
     refine cx_region ?_
     simp only [go_sem]
     intro t90 e90
     (try replace e90 := w64 e90 (by omega) (by omega))
     have hl1 : hasLike a (b.getD i default) = true := by unfold hasLike; rw [findE_eq ha]; grind
     have hd : outD a b (i + 1) = outD a b i := by rw [outD, han, if_pos hl1, outD]
     refine rnd_next (i + 1) (by omega) (by first | omega | (dsimp only; omega)) ?_
     rw [hd]
     exact byC
    ·
     (try simp only [go_sem] at h77)
     refine cx_skip ?_
     (try simp only [go_sem])
     refine cx_sr ?_
     simp only [go_sem]
     refine cx_seq ?_
     refine cx_sr ?_
     simp only [go_sem]
     refine cx_meet (σ := Unit) (fun u => True) (fun u => []) [0, 4, 5, 15, 56, 57, 58] (fun u => [.arr 5 (outD a b i).length (En Change.enc default (outD a b i)), .dead, .box (b.getD i default).enc, .box [.int .i64 (if (b.getD i default).folder = true then 1 else 2), .str (b.getD i default).path, .str [], .str (b.getD i default).text, .int .i64 (-1)]]) (fun _ => (Nat.zero_le _)) ?_ (fun u hIM1 => ?_)
     ·
      refine cx_if _ rfl (fun h84 => ?_) (fun h84 => ?_)
      ·
       (try simp only [go_sem] at h84)
       refine cx_region ?_
       simp only [go_sem]
       refine mt_next () trivial ?_
       rw [if_pos h84]
       exact byC
      ·
       (try simp only [go_sem] at h84)
       refine cx_skip ?_
       (try simp only [go_sem])
       refine mt_next () trivial ?_
       rw [if_neg (by simpa using h84)]
       exact byC
     simp only [go_sem]
     refine cx_region ?_
     simp only [go_sem]
     repeat first | (with_reducible refine side_d ?_ ?_; exact byD) | (with_reducible refine side_q ?_ ?_; exact byQ)
     refine cx_region ?_
     simp only [go_sem]
     intro t90 e90
     (try replace e90 := w64 e90 (by omega) (by omega))
     have hl1 : ¬ hasLike a (b.getD i default) = true := by unfold hasLike; rw [findE_eq ha]; grind
     have hd : outD a b (i + 1) = outD a b i ++ [addC (b.getD i default)] := by rw [outD, han, if_neg hl1, ← List.append_assoc, outD]
     refine rnd_nextr (i + 1) [5, 1] (by omega) (by first | omega | (dsimp only; omega)) ⟨rfl, rfl, ?_, ?_⟩
     · (try rw [hd]); exact byC
     · rw [hd]; skip
       simp only [go_sem, wk, wks, wkB, wkH, List.length_append, List.length_cons, List.length_nil]
       first | exact fun q hq => wks_mp_snoc (fun x => rnVs_no _ rfl) (by rfl) hq | (and_intros <;> first | trivial | rfl | omega | (exact fun q hq => wks_mp_snoc (fun x => rnVs_no _ rfl) (by rfl) hq) | exact wks_refl _ | exact byC)
   ·
    (try simp only [go_sem] at h59)
    refine cx_exit ?_
    simp only [go_sem]
    refine cx_sr ?_
    simp only [go_sem]
    refine cx_ret ?_
    simp only [go_sem]
    obtain rfl : i = b.length := by omega
    have hd : diffP a b = outD a b b.length := rfl
    rw [hd]
    exact finx_of 1 [0] rfl byC byC byC byC
end Go.VM.Tryd
end
section
set_option maxHeartbeats 4000000
set_option linter.unusedVariables false
set_option linter.unusedSimpArgs false
open Go Go.VM Go.Proofs Tether
namespace Go.VM.Tryd
set_option maxRecDepth 100000
theorem filter_full {l : List Entry} (g : FullT l) {p : Entry → Bool} (h : ∀ x ∈ l, ∀ y ∈ l, headOf x.path ≠ [] → y.path = headOf x.path → p x = true → p y = true) : FullT (l.filter p) := by
  refine ⟨Nat.le_trans (List.length_filter_le p l) g.len, fun x hx => g.ents x (List.mem_filter.1 hx).1, filter_sorted g.sorted p, fun x hx => ?_⟩
  obtain ⟨h1, h2⟩ := List.mem_filter.1 hx
  by_cases h0 : headOf x.path = []
  · exact .inl h0
  · rcases g.par x h1 with h3 | ⟨y, hy, h3, h4⟩
    · exact .inl h3
    · exact .inr ⟨y, List.mem_filter.2 ⟨hy, h x h1 y hy h0 h3 h2⟩, h3, h4⟩
def goneB (a b : List Entry) (i : Nat) (x : Entry) : Bool := (delsP a b i).2.any fun p => isIn x.path p
def leftP (a b : List Entry) (i : Nat) : List Entry := a.filter fun x => !goneB a b i x
theorem left_full {a b : List Entry} (g : FullT a) (i : Nat) : FullT (leftP a b i) := by
  refine filter_full g fun x _ y _ h0 h1 h2 => ?_
  simp only [goneB, Bool.not_eq_true', List.any_eq_false] at h2 ⊢
  intro p hp
  have := h2 p hp
  rw [h1]
  have h3 : isIn x.path p = false := by simpa using this
  simp [out_front h3 h0]
theorem left_mem {a b : List Entry} {i : Nat} {x : Entry} : x ∈ leftP a b i ↔ x ∈ a ∧ goneB a b i x = false := by
  unfold leftP
  rw [List.mem_filter]
  simp
theorem dels_bad (a b : List Entry) : ∀ i, i ≤ a.length → ∀ p ∈ (delsP a b i).2, ∃ x ∈ a, x.path = p ∧ badE b x = true
  | 0, _, p, hp => by simp [delsP] at hp
  | i + 1, h, p, hp => by
    have ih := dels_bad a b i (by omega)
    rw [dels_next (by omega)] at hp
    unfold stepD at hp
    split at hp
    · exact ih p hp
    · split at hp
      · rename_i hb
        rcases List.mem_append.1 hp with hp | hp
        · exact ih p hp
        · exact ⟨a.getD i default, getD_mem (by omega), (List.mem_singleton.1 hp).symm, hb⟩
      · exact ih p hp
theorem gone_mono (a b : List Entry) {i : Nat} (h : i < a.length) {x : Entry} (hx : goneB a b i x = true) : goneB a b (i + 1) x = true := by
  unfold goneB at hx ⊢
  rw [dels_next h]
  unfold stepD
  split
  · exact hx
  · split
    · rw [List.any_append, hx]; rfl
    · exact hx
theorem bad_gone (a b : List Entry) : ∀ i, i ≤ a.length → ∀ j, j < i → badE b (a.getD j default) = true → goneB a b i (a.getD j default) = true
  | 0, _, j, hj, _ => by omega
  | i + 1, h, j, hj, hb => by
    rcases Nat.lt_or_ge j i with h1 | h1
    · exact gone_mono a b (by omega) (bad_gone a b i (by omega) j h1 hb)
    · obtain rfl : j = i := by omega
      unfold goneB
      rw [dels_next (by omega)]
      unfold stepD
      split
      · rename_i h2; exact h2
      · first
          | (rw [if_pos hb, List.any_append]; simp [isIn_refl])
          | (show ((delsP a b j).2 ++ [(a.getD j default).path]).any _ = true; rw [List.any_append]; simp [isIn_refl])
theorem left_next {a b : List Entry} {i : Nat} (h : i < a.length) (h1 : goneB a b i (a.getD i default) = false) (h2 : badE b (a.getD i default) = true) : leftP a b (i + 1) = (leftP a b i).filter (outB (a.getD i default).path) := by
  have hd : delsP a b (i + 1) = ((delsP a b i).1 ++ [delC (a.getD i default)], (delsP a b i).2 ++ [(a.getD i default).path]) := by
    unfold goneB at h1
    rw [dels_next h, stepD, if_neg (by rw [h1]; decide), if_pos h2]
  unfold leftP
  rw [List.filter_filter]
  refine List.filter_congr fun x _ => ?_
  unfold goneB outB
  rw [hd]
  simp only [List.any_append, List.any_cons, List.any_nil, Bool.or_false, Bool.not_or]
  rw [Bool.and_comm]
theorem left_same {a b : List Entry} {i : Nat} (h : i < a.length) (h1 : goneB a b i (a.getD i default) = true ∨ badE b (a.getD i default) = false) : leftP a b (i + 1) = leftP a b i ∧ delsP a b (i + 1) = delsP a b i := by
  have hd : delsP a b (i + 1) = delsP a b i := by
    rw [dels_next h, stepD]
    rcases h1 with h1 | h1
    · unfold goneB at h1
      rw [if_pos h1]
    · split
      · rfl
      · rw [if_neg (by rw [h1]; decide)]
  refine ⟨?_, hd⟩
  unfold leftP goneB
  rw [hd]
theorem left_find {a b : List Entry} (g : FullT a) {i : Nat} {x : Entry} (hx : x ∈ a) : (findE (leftP a b i) x.path = none ↔ goneB a b i x = true) := by
  rw [findE_none]
  constructor
  · intro h
    cases hg : goneB a b i x with
    | true => rfl
    | false => exact absurd rfl (h x (left_mem.2 ⟨hx, hg⟩))
  · intro h y hy e
    obtain ⟨h1, h2⟩ := left_mem.1 hy
    rw [sorted_mem_inj g.sorted h1 hx e, h] at h2
    cases h2
/-- a deletion that is due may be made -/
theorem del_may {t : List Entry} (g : FullT t) {x : Entry} (hx : x ∈ t) {v : Int} : rawErr t (delC x) v = 0 := by
  have hp := g.path hx
  have hf : formP (delC x) = 0 := by simp [formP, delC, hp]
  have m : MayT t (delC x) := by
    refine ⟨?_, (fun k => absurd k (by show ¬ (4 : Int) = 1; decide)), (fun k => absurd k (by show ¬ (4 : Int) = 2; decide)), fun _ _ => ⟨x, hx, rfl⟩, (fun k => absurd k (by show ¬ (4 : Int) = 3; decide)), (fun k => absurd k (by show ¬ (4 : Int) = 3; decide))⟩
    exact g.par x hx
  have hm : mayP t (delC x) = 0 := may_of g.sorted ⟨by show (1 : Int) ≤ 4; decide, by show (4 : Int) ≤ 4; decide⟩ m fun hb => absurd rfl hb
  have hd : doneErr t (delC x) v = 0 := by
    unfold doneErr
    rw [if_neg (by rintro ⟨h, _⟩; exact absurd h (by show ¬ (4 : Int) = 3; decide)), if_neg]
    have : (madeP t (delC x) v).length ≤ t.length := List.length_filter_le (outB x.path) t
    have := g.len
    omega
  rw [rawErr, if_neg (by simp [hf]), if_neg (by simp [hm]), hd]
theorem badE_iff {b : List Entry} (g : FullT b) {x : Entry} : badE b x = false ↔ ∃ y ∈ b, y.path = x.path ∧ y.folder = x.folder := by
  unfold badE
  cases hf : findE b x.path with
  | none =>
    constructor
    · intro h; cases h
    · rintro ⟨y, hy, h1, _⟩
      exact absurd h1 (findE_none.1 hf y hy)
  | some z =>
    obtain ⟨h1, h2⟩ := findE_some hf
    constructor
    · intro h
      exact ⟨z, h1, h2, by simpa using h⟩
    · rintro ⟨y, hy, h3, h4⟩
      have e := sorted_mem_inj g.sorted h1 hy (h2.trans h3.symm)
      subst e
      show (z.folder != x.folder) = false
      rw [h4]
      simp
theorem left_bad {a b : List Entry} {y : Entry} (h : y ∈ leftP a b a.length) : badE b y = false := by
  obtain ⟨h1, h2⟩ := left_mem.1 h
  obtain ⟨j, hj, rfl⟩ := List.getElem_of_mem h1
  cases hb : badE b a[j] with
  | false => rfl
  | true =>
    have e : a.getD j default = a[j] := by simp [List.getD, hj]
    have := bad_gone a b a.length (Nat.le_refl _) j hj (by rw [e]; exact hb)
    rw [e, h2] at this
    cases this
theorem folder_text {x : Entry} (h : entErr x = 0) (hf : x.folder = true) : x.text = [] := by
  have := (entErr_iff.1 h).2.1
  rw [hf] at this
  simpa using this
/-- whether something must be written, by what is left -/
theorem hasLike_left {a b : List Entry} (ga : FullT a) (gb : FullT b) {x : Entry} (hx : x ∈ b) :
    hasLike a x = match findE (leftP a b a.length) x.path with | some y => x.folder || decide (y.text = x.text) | none => false := by
  have gl := left_full (b := b) ga a.length
  cases hf : findE (leftP a b a.length) x.path with
  | some y =>
    obtain ⟨h1, h2⟩ := findE_some hf
    have hya := (left_mem.1 h1).1
    obtain ⟨z, hz, h3, h4⟩ := (badE_iff gb).1 (left_bad h1)
    have hzx := sorted_mem_inj gb.sorted hz hx (h3.trans h2)
    subst hzx
    have hfa : findE a z.path = some y := by rw [← h2]; exact findE_mem ga.sorted hya
    rw [hasLike, hfa]
    show likeB y z = (z.folder || decide (y.text = z.text))
    unfold likeB shapeE
    rw [h2, ← h4]
    by_cases hfo : z.folder = true
    · have t1 := folder_text (gb.ents z hz) hfo
      have t2 := folder_text (ga.ents y hya) (by rw [← h4]; exact hfo)
      rw [t1, t2, hfo]
      simp
    · have hfo : z.folder = false := by simpa using hfo
      rw [hfo]
      simp
  | none =>
    show hasLike a x = false
    rw [hasLike]
    cases hfa : findE a x.path with
    | none => rfl
    | some y =>
      obtain ⟨h1, h2⟩ := findE_some hfa
      have hg : goneB a b a.length y = true := by
        rw [← left_find ga h1, h2]
        exact hf
      show likeB y x = false
      unfold goneB at hg
      obtain ⟨p, hp, hin⟩ := List.any_eq_true.1 hg
      obtain ⟨z, hz, hzp, hzb⟩ := dels_bad a b a.length (Nat.le_refl _) p hp
      have hpne : p ≠ [] := by rw [← hzp]; exact pass_ne (ga.path hz)
      by_cases hyp : y.path = p
      · have hyz := sorted_mem_inj ga.sorted h1 hz (hyp.trans hzp.symm)
        rw [← hyz] at hzb
        unfold badE at hzb
        rw [h2, findE_mem gb.sorted hx] at hzb
        unfold likeB shapeE
        refine decide_eq_false fun e => ?_
        simp only [Prod.mk.injEq] at e
        have : x.folder ≠ y.folder := by simpa using hzb
        exact this e.2.1.symm
      · exfalso
        obtain ⟨z', hz', h3, h4⟩ := ga.above hpne h1 hin
        have hzz := sorted_mem_inj ga.sorted hz' hz (h3.trans hzp.symm)
        have hzf : z.folder = true := by rw [← hzz]; exact h4 hyp
        obtain ⟨w, hw, h5, h6⟩ := gb.above hpne hx (by rw [← h2]; exact hin)
        have hwf : w.folder = true := h6 (by rw [← h2]; exact hyp)
        have : badE b z = false := (badE_iff gb).2 ⟨w, hw, h5.trans hzp.symm, by rw [hwf, hzf]⟩
        rw [this] at hzb
        cases hzb
end Go.VM.Tryd
end
section
set_option maxHeartbeats 4000000
set_option linter.unusedVariables false
set_option linter.unusedSimpArgs false
open Go Go.VM Go.Proofs Tether
namespace Go.VM.Tryd
set_option maxRecDepth 100000
set_option maxHeartbeats 4000000
theorem left_0 (a b : List Entry) : leftP a b 0 = a := by
  unfold leftP goneB delsP
  simp
attribute [go_sem] left_0
end Go.VM.Tryd
end
