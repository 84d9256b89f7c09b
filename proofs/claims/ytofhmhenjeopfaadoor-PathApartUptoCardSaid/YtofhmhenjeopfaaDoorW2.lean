import Derived.Test.YtofhmhenjeopfaaDoorW1
section
set_option linter.unusedVariables false
set_option linter.unusedSimpArgs false
open Go Go.VM Go.Proofs Tether
namespace Tether
def strE' (s : Str) : List V := [.str s]
abbrev strsV' (l : List Str) : V := lstV 1 strE' [] l
attribute [go_sem] strE'
end Tether
namespace Go.VM.Tryd
set_option maxRecDepth 100000
theorem pcs_len : ∀ (s x : List UInt8), x ∈ pcs s → x.length ≤ s.length := by
  intro s
  induction s with
  | nil => intro x h; simp [pcs] at h; simp [h]
  | cons b r ih =>
    intro x h
    by_cases hb : b = 47
    · simp [pcs, hb] at h
      rcases h with rfl | h
      · simp
      · have := ih x h; simp; omega
    · simp only [pcs, hb, if_false] at h
      rcases hp : pcs r with _ | ⟨y, ys⟩
      · exact absurd hp (pcs_ne r)
      · rw [hp] at h ih
        simp at h
        rcases h with rfl | h
        · have := ih y (by simp); simp; omega
        · have := ih x (by simp [h]); simp; omega
/-- what is found wrong with paths: the first one's fault -/
def checkP : List Str → Int
  | [] => 0
  | p :: r => if (pcs p).all isName then (if greatB p then 2 else checkP r) else 1
theorem check_c (l : List Str) (hl : l.length < 4611686018427387904) (hs : ∀ s ∈ l, s.length < 4611686018427387904) : Meets Tryd.prog 31 [strsV' l] (.int .i64 (checkP l)) [] := by
  refine meets_x (fn := Tryd.f31) Tryd.func31 rfl fb31 (by kernel_rfl) (Nat.le_of_ble_eq_true rfl) ?_
  refine cx_sr ?_
  simp only [go_sem]
  repeat first | (with_reducible refine side_d ?_ ?_; exact byD) | (with_reducible refine side_q ?_ ?_; exact byQ)
  refine cx_seq ?_
  refine cx_sr ?_
  simp only [go_sem]
  repeat first | (with_reducible refine side_d ?_ ?_; exact byD) | (with_reducible refine side_q ?_ ?_; exact byQ)
  refine cx_block ?_
  refine cx_loopk (σ := Nat) (fun i => i ≤ l.length ∧ checkP l = checkP (l.drop i)) (fun i => [⟨8, 0, [], .int .i64 (i : Nat)⟩]) [2, 6, 7] (fun i => [.box [.int .i64 0]]) (fun i => l.length - i) 0 ⟨Nat.zero_le _, by simp⟩ (fun _ => (Nat.zero_le _)) byC (fun i hI1 => ?_)
  simp only [go_sem]
  refine cx_sr ?_
  simp only [go_sem]
  repeat first | (with_reducible refine side_d ?_ ?_; exact byD) | (with_reducible refine side_q ?_ ?_; exact byQ)
  intro t9 e9
  repeat first | (with_reducible refine side_d ?_ ?_; exact byD) | (with_reducible refine side_q ?_ ?_; exact byQ)
  subst e9
  refine cx_seq ?_
  refine cx_if _ rfl (fun h9 => ?_) (fun h9 => ?_)
  ·
    (try simp only [go_sem] at h9)
    have hlt : i < l.length := by omega
    have hgd : l.getD i [] = l[i] := by simp [List.getD_eq_getElem?_getD, hlt]
    have hp : (l.getD i []).length < 4611686018427387904 := hs _ (by rw [hgd]; exact List.getElem_mem hlt)
    have hck : checkP (l.drop i) = if (pcs (l.getD i [])).all isName then (if greatB (l.getD i []) then 2 else checkP (l.drop (i + 1))) else 1 := by
      rw [List.drop_eq_getElem_cons hlt, hgd]
      rfl
    refine cx_skip ?_
    (try simp only [go_sem])
    refine cx_seq (cx_block ?_)
    refine cx_sr ?_
    simp only [go_sem]
    repeat first | (with_reducible refine side_d ?_ ?_; exact byD) | (with_reducible refine side_q ?_ ?_; exact byQ)
    refine cx_seq ?_
    refine cx_sr ?_
    simp only [go_sem]
    repeat first | (with_reducible refine side_d ?_ ?_; exact byD) | (with_reducible refine side_q ?_ ?_; exact byQ)
    refine cw_m (SplitSeq _) byW byT ?_
    simp only [go_sem]
    repeat first | (with_reducible refine side_d ?_ ?_; exact byD) | (with_reducible refine side_q ?_ ?_; exact byQ)
    refine cx_block ?_
    refine cx_range (fun x : List UInt8 => Value.string ⟨x.toArray⟩) (fun x : List UInt8 => V.str x) (fun c x => by simp only [VR]) (pcs (l.getD i [])) [1, 2, 3] (fun pre => ∀ y ∈ pre, isName y = true) (fun y h => by cases h) (fun pre => [.box [.int .i64 0], .dead, .dead, .dead]) ?_ ?_ ?_ ?_ (fun _ => rfl) ?_ ?_
    · exact itOk_split _ hp _ 1 2 3 rfl rfl rfl (by decide) (by decide)
    · intro r hr; simp at hr; rcases hr with rfl | rfl | rfl <;> exact ⟨_, rfl, trivial⟩
    · exact ⟨.inr rfl, .inl rfl, .inl rfl, .inl rfl, rfl⟩
    · intro r x hr h; simp at hr; rcases hr with rfl | rfl | rfl <;> (cases h; exact id)
    · rintro pre x hpre hIr
      have hm : x ∈ pcs (l.getD i []) := hpre.subset (by simp)
      have hx : x.length < 4611686018427387904 := Nat.lt_of_le_of_lt (pcs_len _ _ hm) hp
      refine cx_region ?_
      simp only [go_sem]
      repeat first | (with_reducible refine side_d ?_ ?_; exact byD) | (with_reducible refine side_q ?_ ?_; exact byQ)
      refine cx_block ?_
      refine cx_sr ?_
      simp only [go_sem]
      repeat first | (with_reducible refine side_d ?_ ?_; exact byD) | (with_reducible refine side_q ?_ ?_; exact byQ)
      refine cw_m (IsName_c _ hx) byW byT ?_
      simp only [go_sem]
      repeat first | (with_reducible refine side_d ?_ ?_; exact byD) | (with_reducible refine side_q ?_ ?_; exact byQ)
      intro t17 e17
      repeat first | (with_reducible refine side_d ?_ ?_; exact byD) | (with_reducible refine side_q ?_ ?_; exact byQ)
      subst e17
      refine cx_if _ rfl (fun h17 => ?_) (fun h17 => ?_)
      ·
        (try simp only [go_sem] at h17)
        refine cx_sr ?_
        simp only [go_sem]
        repeat first | (with_reducible refine side_d ?_ ?_; exact byD) | (with_reducible refine side_q ?_ ?_; exact byQ)
        refine cx_ret ?_
        simp only [go_sem]
        have hall : (pcs (l.getD i [])).all isName = false := by
          rw [List.all_eq_false]
          exact ⟨x, hm, by simpa using h17⟩
        rw [hI1.2, hck, hall]
        exact finx_of 1 [] rfl byC byC byC byC
      ·
        (try simp only [go_sem] at h17)
        refine cx_skip ?_
        (try simp only [go_sem])
        exact ⟨fun y hy => by rcases List.mem_append.1 hy with h | h; exact hIr y h; simp at h; subst h; simpa using h17, .inl byC⟩
    · intro hIr
      (try simp only [go_sem])
      refine cx_sr ?_
      simp only [go_sem]
      repeat first | (with_reducible refine side_d ?_ ?_; exact byD) | (with_reducible refine side_q ?_ ?_; exact byQ)
      refine cw_m (great _) byW byT ?_
      simp only [go_sem]
      repeat first | (with_reducible refine side_d ?_ ?_; exact byD) | (with_reducible refine side_q ?_ ?_; exact byQ)
      refine cx_if _ rfl (fun h19 => ?_) (fun h19 => ?_)
      ·
        (try simp only [go_sem] at h19)
        refine cx_sr ?_
        simp only [go_sem]
        repeat first | (with_reducible refine side_d ?_ ?_; exact byD) | (with_reducible refine side_q ?_ ?_; exact byQ)
        refine cx_ret ?_
        simp only [go_sem]
        have hall : (pcs (l.getD i [])).all isName = true := List.all_eq_true.2 hIr
        rw [hI1.2, hck, hall, show greatB (l.getD i []) = true from by simpa using h19]
        exact finx_of 1 [] rfl byC byC byC byC
      ·
        (try simp only [go_sem] at h19)
        refine cx_skip ?_
        (try simp only [go_sem])
        refine cx_region ?_
        simp only [go_sem]
        repeat first | (with_reducible refine side_d ?_ ?_; exact byD) | (with_reducible refine side_q ?_ ?_; exact byQ)
        intro t20 e20
        (try replace e20 := w64 e20 (by omega) (by omega))
        repeat first | (with_reducible refine side_d ?_ ?_; exact byD) | (with_reducible refine side_q ?_ ?_; exact byQ)
        have hall : (pcs (l.getD i [])).all isName = true := List.all_eq_true.2 hIr
        refine rnd_next (i + 1) ⟨by omega, ?_⟩ (by show l.length - (i + 1) < l.length - i; omega) byC
        rw [hI1.2, hck, hall, show greatB (l.getD i []) = false from by simpa using h19]
        rfl
  ·
    (try simp only [go_sem] at h9)
    refine cx_exit ?_
    simp only [go_sem]
    refine cx_sr ?_
    simp only [go_sem]
    repeat first | (with_reducible refine side_d ?_ ?_; exact byD) | (with_reducible refine side_q ?_ ?_; exact byQ)
    refine cx_ret ?_
    simp only [go_sem]
    obtain rfl : i = l.length := by omega
    rw [hI1.2]
    simp only [List.drop_length]
    exact finx_of 1 [] rfl byC byC byC byC
end Go.VM.Tryd
end
section
set_option linter.unusedVariables false
open Go Go.VM Tether
namespace Go.VM.Tryd
/-- the pieces that are closed by the first bytes; where the next one begins -/
def nm (s : Str) : Nat → List Str × Nat
  | 0 => ([], 0)
  | i + 1 => if at8 s i = 47 then ((nm s i).1 ++ [(s.take i).drop (nm s i).2], i + 1) else nm s i
theorem pcs_no : ∀ s : List UInt8, 47 ∉ s → pcs s = [s]
  | [], _ => rfl
  | b :: r, h => by
    have h1 : b ≠ 47 := fun e => h (by simp [e])
    have h2 : 47 ∉ r := fun e => h (.tail _ e)
    simp [pcs, h1, pcs_no r h2]
theorem pcs_cat : ∀ (u v : List UInt8), 47 ∉ u → pcs (u ++ 47 :: v) = u :: pcs v
  | [], v, _ => by simp [pcs]
  | b :: u, v, h => by
    have h1 : b ≠ 47 := fun e => h (by simp [e])
    have h2 : 47 ∉ u := fun e => h (.tail _ e)
    simp [pcs, h1, pcs_cat u v h2]
theorem at8_47 {s : Str} {i : Nat} (hi : i < s.length) : at8 s i = 47 ↔ s[i] = 47 := by
  simp only [at8, List.getD_eq_getElem?_getD, List.getElem?_eq_getElem hi, Option.getD_some]
  constructor
  · intro h
    apply UInt8.toNat_inj.1
    have : (47 : UInt8).toNat = 47 := rfl
    rw [this]
    omega
  · intro h
    rw [h]
    rfl
theorem nm_inv (s : Str) : ∀ i, i ≤ s.length → pcs s = (nm s i).1 ++ pcs (s.drop (nm s i).2) ∧ (nm s i).2 ≤ i ∧ 47 ∉ (s.take i).drop (nm s i).2 ∧ (nm s i).1.length ≤ i
  | 0, _ => by simp [nm]
  | i + 1, h => by
    obtain ⟨h1, h2, h3, h4⟩ := nm_inv s i (by omega)
    have ht : s.take (i + 1) = s.take i ++ [s[i]] := by rw [List.take_add_one, List.getElem?_eq_getElem (by omega)]; rfl
    unfold nm
    by_cases hc : at8 s i = 47
    · rw [if_pos hc]
      have hi : s[i] = 47 := (at8_47 (by omega)).1 hc
      refine ⟨?_, Nat.le_refl _, by simp, by simp; omega⟩
      have e : ∀ k, k ≤ i → s.drop k = (s.take i).drop k ++ 47 :: s.drop (i + 1) := by
        intro k hk
        have : s = s.take i ++ 47 :: s.drop (i + 1) := by
          rw [← hi, ← List.drop_eq_getElem_cons, List.take_append_drop]
        conv => lhs; rw [this]
        rw [List.drop_append_of_le_length (by simp; omega)]
      rw [h1, e _ h2, pcs_cat _ _ h3]
      simp
    · rw [if_neg hc]
      have hi : s[i] ≠ 47 := fun e => hc ((at8_47 (by omega)).2 e)
      refine ⟨h1, by omega, ?_, by omega⟩
      rw [ht, List.drop_append_of_le_length (by simp; omega)]
      simp only [List.mem_append, List.mem_singleton, not_or]
      exact ⟨h3, fun e => hi e.symm⟩
theorem nm_pcs (s : Str) : (nm s s.length).1 ++ [s.drop (nm s s.length).2] = pcs s := by
  obtain ⟨h1, h2, h3, h4⟩ := nm_inv s s.length (Nat.le_refl _)
  rw [h1, pcs_no (s.drop _) (by simpa using h3)]
end Go.VM.Tryd
end
section
set_option linter.unusedVariables false
set_option linter.unusedSimpArgs false
open Go Go.VM
namespace Tether
/-- where the first one is; -1: nowhere -/
def idxF {α : Type} (p : α → Bool) (l : List α) : Int := match l.findIdx? p with | some i => (i : Int) | none => -1
theorem idxF_at {α : Type} {p : α → Bool} {l : List α} {d : α} {i : Nat} (hi : i < l.length) (hb : ∀ j, j < i → p (l.getD j d) = false) (h : p (l.getD i d) = true) : idxF p l = i := by
  have : l.findIdx? p = some i := by
    rw [List.findIdx?_eq_some_iff_getElem]
    refine ⟨hi, by simpa [List.getD, hi] using h, fun j hj => ?_⟩
    have hj' : j < l.length := by omega
    simpa [List.getD, hj'] using hb j hj
  rw [idxF, this]
theorem idxF_none {α : Type} {p : α → Bool} {l : List α} {d : α} (hb : ∀ j, j < l.length → p (l.getD j d) = false) : idxF p l = -1 := by
  have : l.findIdx? p = none := by
    rw [List.findIdx?_eq_none_iff]
    intro x hx
    obtain ⟨i, hi, rfl⟩ := List.getElem_of_mem hx
    simpa [List.getD, hi] using hb i hi
  rw [idxF, this]
theorem idxF_spec {α : Type} {p : α → Bool} {l : List α} (d : α) (h : ¬ idxF p l = -1) : ∃ i : Nat, idxF p l = (i : Int) ∧ i < l.length ∧ p (l.getD i d) = true ∧ (l.take (i + 1)).filter (fun x => !p x) = l.take i := by
  unfold idxF at h ⊢
  cases hf : l.findIdx? p with
  | none => rw [hf] at h; exact absurd rfl h
  | some i =>
    rw [List.findIdx?_eq_some_iff_getElem] at hf
    obtain ⟨hi, h1, h2⟩ := hf
    refine ⟨i, rfl, hi, by simpa [List.getD, hi] using h1, ?_⟩
    rw [List.take_succ_eq_append_getElem hi, List.filter_append]
    simp only [List.filter_cons, h1, Bool.not_true, List.filter_nil]
    simp only [Bool.false_eq_true, if_false, List.append_nil]
    rw [List.filter_eq_self]
    intro x hx
    obtain ⟨j, hj, rfl⟩ := List.getElem_of_mem hx
    have := h2 j (by simp at hj; omega)
    simpa using this
theorem idxF_all {α : Type} {p : α → Bool} {l : List α} (h : idxF p l = -1) : l.filter (fun x => !p x) = l := by
  rw [List.filter_eq_self]
  unfold idxF at h
  cases hf : l.findIdx? p with
  | some i => rw [hf] at h; simp at h
  | none =>
    rw [List.findIdx?_eq_none_iff] at hf
    intro x hx
    simp [hf x hx]
/-- a round of DeleteFunc: what stays is put ahead -/
theorem del_keep {α : Type} {p : α → Bool} {l L : List α} {d : α} {i j : Nat} (h1 : i < j) (h2 : j < l.length) (h3 : L.length = l.length) (h4 : L.take i = (l.take j).filter (fun x => !p x)) (h5 : L.drop j = l.drop j) (hp : p (L.getD j d) = false) :
    (L.set i (L.getD j d)).take (i + 1) = (l.take (j + 1)).filter (fun x => !p x) ∧ (L.set i (L.getD j d)).drop (j + 1) = l.drop (j + 1) := by
  have e : L.getD j d = l.getD j d := by
    have := congrArg (fun l => l.getD 0 d) h5
    simpa [List.getD] using this
  constructor
  · rw [List.take_succ_eq_append_getElem (by simp; omega), List.take_set, List.set_eq_of_length_le (by simp; omega), h4]
    rw [List.take_succ_eq_append_getElem h2, List.filter_append]
    have : l[j] = l.getD j d := by simp [List.getD, h2]
    rw [this, ← e]
    rw [List.getElem_set_self]
    generalize L.getD j d = y at hp ⊢
    simp [hp]
  · rw [List.drop_set_of_lt (by omega)]
    have := congrArg (List.drop 1) h5
    simpa [List.drop_drop, Nat.add_comm] using this
theorem del_drop {α : Type} {p : α → Bool} {l L : List α} {d : α} {i j : Nat} (h2 : j < l.length) (h4 : L.take i = (l.take j).filter (fun x => !p x)) (h5 : L.drop j = l.drop j) (hp : p (L.getD j d) = true) :
    L.take i = (l.take (j + 1)).filter (fun x => !p x) ∧ L.drop (j + 1) = l.drop (j + 1) := by
  have e : L.getD j d = l.getD j d := by
    have := congrArg (fun l => l.getD 0 d) h5
    simpa [List.getD] using this
  constructor
  · rw [List.take_succ_eq_append_getElem h2, List.filter_append, h4]
    have : l[j] = l.getD j d := by simp [List.getD, h2]
    rw [this, ← e]
    generalize L.getD j d = y at hp ⊢
    simp [hp]
  · have := congrArg (List.drop 1) h5
    simpa [List.drop_drop, Nat.add_comm] using this
theorem idxF_any {α : Type} {p : α → Bool} {l : List α} : decide (0 ≤ idxF p l) = l.any p := by
  unfold idxF
  cases hf : l.findIdx? p with
  | some i =>
    rw [List.findIdx?_eq_some_iff_getElem] at hf
    obtain ⟨hi, h1, _⟩ := hf
    have : l.any p = true := List.any_eq_true.2 ⟨l[i], List.getElem_mem hi, h1⟩
    rw [this]; simp
  | none =>
    rw [List.findIdx?_eq_none_iff] at hf
    have : l.any p = false := List.any_eq_false.2 fun x hx => by simp [hf x hx]
    rw [this]; simp
end Tether
end
section
set_option linter.unusedVariables false
set_option linter.unusedSimpArgs false
open Go Go.VM
namespace Tether
def Uploads.ok (u : Uploads) : Prop := u.ss.length * 56 ≤ 140737488355328 ∧ ∀ s ∈ u.ss, s.who.length < 4611686018427387904 ∧ s.text.length < 4611686018427387904
theorem Uploads.ok.len {u : Uploads} (h : u.ok) : u.ss.length < 4611686018427387904 := by have := h.1; omega
/-- uploads whose sessions lie in the first block -/
abbrev Uploads.own (u : Uploads) : V := .agg [.own none 0 5 0 u.ss.length .loose, .int .i64 u.next, .int .i64 u.lasts, .int .i64 u.room]
abbrev Uploads.blk (u : Uploads) : Heap := [.arr 5 u.ss.length (En Session.enc default u.ss)]
/-- no uploads -/
abbrev noU : V := .agg [.nil, .int .i64 0, .int .i64 0, .int .i64 0]
def swept (u : Uploads) (now : Int) : Uploads := { u with ss := u.ss.filter fun s => !decide (s.till < now) }
theorem swept_next {u : Uploads} {now : Int} : (swept u now).next = u.next := rfl
theorem swept_lasts {u : Uploads} {now : Int} : (swept u now).lasts = u.lasts := rfl
theorem swept_room {u : Uploads} {now : Int} : (swept u now).room = u.room := rfl
attribute [go_sem] swept_next swept_lasts swept_room
def beginErr (u : Uploads) (now : Int) : Int := if ¬ checkU u = 0 then checkU u else if within now 0 1099511627776 = false then 3 else 0
def isMine (who : Str) (number : Int) (s : Session) : Bool := decide (s.num = number) && decide (s.who = who)
/-- the place of somebody's session -/
def mineIx (u : Uploads) (who : Str) (number now : Int) : Int := idxF (isMine who number) (swept u now).ss
def mineErr (u : Uploads) (who : Str) (number now : Int) : Int :=
  if ¬ beginErr u now = 0 then beginErr u now else if isName who = false then 1 else if mineIx u who number now < 0 then 5 else 0
def zeroU : Uploads := ⟨[], 0, 0, 0⟩
def openErr (u : Uploads) (who : Str) (size now : Int) : Int :=
  if ¬ beginErr u now = 0 then beginErr u now else if isName who = false then 1
  else if within size 0 300 = false ∨ u.next = 1099511627776 then 3
  else if ((swept u now).ss.length : Int) = 20 then 2
  else if u.room < wrap (openW (swept u now).ss who + size) then 10 else 0
def openU (u : Uploads) (who : Str) (size now : Int) : Uploads × Int × Int :=
  if openErr u who size now = 0 then ({ swept u now with ss := (swept u now).ss ++ [⟨u.next, who, [], size, now + u.lasts⟩], next := u.next + 1 }, u.next, 0)
  else (zeroU, 0, openErr u who size now)
theorem within_iff {n a b : Int} : within n a b = true ↔ a ≤ n ∧ n ≤ b := by simp [within]
theorem checkU_ok {u : Uploads} (h : checkU u = 0) : (1 ≤ u.lasts ∧ u.lasts ≤ 1000000) ∧ (0 ≤ u.room ∧ u.room ≤ 100000) ∧ (1 ≤ u.next ∧ u.next ≤ 1099511627776) ∧ u.ss.length ≤ 20 ∧ ∀ s ∈ u.ss, sessErr u s = 0 := by
  unfold checkU at h
  split at h
  · simp at h
  rename_i h1
  split at h
  · simp at h
  rename_i h2
  split at h
  · rename_i h3; exact absurd h h3
  rename_i h3
  simp only [Bool.or_eq_true, Bool.not_eq_true', not_or, Bool.not_eq_false, within_iff] at h1
  refine ⟨h1.1.1, h1.1.2, h1.2, by omega, fun s hs => ?_⟩
  have h3 : firstErr (sessErr u) u.ss = 0 := by simpa using h3
  clear h h1 h2
  generalize u.ss = l at h3 hs
  induction l with
  | nil => cases hs
  | cons x l ih =>
    unfold firstErr at h3
    split at h3
    · rename_i h4; exact absurd h3 h4
    · rename_i h4
      rcases List.mem_cons.1 hs with rfl | hs
      · simpa using h4
      · exact ih h3 hs
theorem begin_facts {u : Uploads} {now : Int} (h : beginErr u now = 0) : checkU u = 0 ∧ 0 ≤ now ∧ now ≤ 1099511627776 := by
  unfold beginErr at h
  split at h
  · rename_i h1; exact absurd h h1
  · rename_i h1
    split at h
    · simp at h
    · rename_i h2
      have h2 : within now 0 1099511627776 = true := by simpa using h2
      rw [within_iff] at h2
      exact ⟨by simpa using h1, h2⟩
def queryU (u : Uploads) (who : Str) (number now : Int) : Int × Int :=
  if mineErr u who number now = 0 then ((((swept u now).ss.getD (mineIx u who number now).toNat default).text.length : Int), 0) else (0, mineErr u who number now)
theorem openU_len {u : Uploads} (hu : u.ok) (who : Str) (size now : Int) : (openU u who size now).1.ss.length < 4611686018427387904 := by
  unfold openU
  split
  · have := hu.1
    have h2 : (swept u now).ss.length ≤ u.ss.length := List.length_filter_le _ _
    simp; omega
  · simp [zeroU]
/-- behind an append of a text to a session -/
def appendU (u : Uploads) (who : Str) (number offset : Int) (text : Str) (now : Int) : Uploads × Int × Int :=
  if mineErr u who number now = 0 then
    let i := (mineIx u who number now).toNat
    let s := (swept u now).ss.getD i default
    if (0 ≤ offset ∧ offset ≤ (s.text.length : Int)) ∧ s.text.drop offset.toNat = text then (swept u now, (s.text.length : Int), 0)
    else if ¬ offset = (s.text.length : Int) then (zeroU, 0, 4)
    else if s.size < (s.text.length : Int) + (text.length : Int) then (zeroU, 0, 2)
    else ({ swept u now with ss := (swept u now).ss.set i { s with text := s.text ++ text, till := now + u.lasts } }, ((s.text ++ text).length : Int), 0)
  else (zeroU, 0, mineErr u who number now)
/-- behind a session's end -/
def finishU (u : Uploads) (who : Str) (number now : Int) : Uploads × Str × Int :=
  if mineErr u who number now = 0 then
    let i := (mineIx u who number now).toNat
    let s := (swept u now).ss.getD i default
    if (s.text.length : Int) < s.size then (zeroU, [], 4)
    else ({ swept u now with ss := (swept u now).ss.take i ++ (swept u now).ss.drop (i + 1) }, s.text, 0)
  else (zeroU, [], mineErr u who number now)
theorem mineErr_b {u : Uploads} {who : Str} {number now : Int} (h : ¬ beginErr u now = 0) : mineErr u who number now = beginErr u now := by rw [mineErr, if_pos h]
theorem mineErr_n {u : Uploads} {who : Str} {number now : Int} (h : beginErr u now = 0) (h1 : isName who = false) : mineErr u who number now = 1 := by rw [mineErr, if_neg (by simp [h]), if_pos h1]
theorem mineErr_i {u : Uploads} {who : Str} {number now : Int} (h : beginErr u now = 0) (h1 : ¬ isName who = false) (h2 : mineIx u who number now < 0) : mineErr u who number now = 5 := by rw [mineErr, if_neg (by simp [h]), if_neg h1, if_pos h2]
theorem mineErr_0 {u : Uploads} {who : Str} {number now : Int} (h : beginErr u now = 0) (h1 : ¬ isName who = false) (h2 : ¬ mineIx u who number now < 0) : mineErr u who number now = 0 := by rw [mineErr, if_neg (by simp [h]), if_neg h1, if_neg h2]
theorem mineErr_facts {u : Uploads} {who : Str} {number now : Int} (h : mineErr u who number now = 0) : beginErr u now = 0 ∧ isName who = true ∧ 0 ≤ mineIx u who number now := by
  unfold mineErr at h
  split at h
  · rename_i h1; exact absurd h h1
  rename_i h1
  split at h
  · simp at h
  rename_i h2
  split at h
  · simp at h
  rename_i h3
  exact ⟨by simpa using h1, by simpa using h2, by omega⟩
theorem mineIx_of {u : Uploads} {who : Str} {number now : Int} (h : mineErr u who number now = 0) : 0 ≤ mineIx u who number now ∧ mineIx u who number now < ((swept u now).ss.length : Int) := by
  have h1 := (mineErr_facts h).2.2
  refine ⟨h1, ?_⟩
  unfold mineIx at h1 ⊢
  obtain ⟨i, h2, h3, _⟩ := idxF_spec (p := isMine who number) (l := (swept u now).ss) default (by omega)
  omega
theorem mine_mem {u : Uploads} {who : Str} {number now : Int} (h : mineErr u who number now = 0) : (swept u now).ss.getD (mineIx u who number now).toNat default ∈ u.ss := by
  obtain ⟨h1, h2⟩ := mineIx_of h
  exact (List.mem_filter.1 (getD_mem (l := (swept u now).ss) (d := default) (by omega))).1
def swI (u : Uploads) (now : Int) (i : Nat) : List Session := (u.ss.take i).filter fun s => !decide (s.till < now)
theorem swI_len (u : Uploads) (now : Int) (i : Nat) : (swI u now i).length ≤ i :=
  Nat.le_trans (List.length_filter_le _ _) (by simp; omega)
theorem swI_T {u : Uploads} {now : Int} {i : Nat} (hi : i < u.ss.length) (h : now ≤ (u.ss.getD i default).till) : swI u now (i + 1) = swI u now i ++ [u.ss.getD i default] := by
  have e : u.ss[i] = u.ss.getD i default := by simp [List.getD, hi]
  unfold swI
  rw [List.take_succ_eq_append_getElem hi, List.filter_append, e]
  generalize u.ss.getD i default = x at h ⊢
  have : ¬ x.till < now := by omega
  simp [this]
theorem swI_F {u : Uploads} {now : Int} {i : Nat} (hi : i < u.ss.length) (h : ¬ now ≤ (u.ss.getD i default).till) : swI u now (i + 1) = swI u now i := by
  have e : u.ss[i] = u.ss.getD i default := by simp [List.getD, hi]
  unfold swI
  rw [List.take_succ_eq_append_getElem hi, List.filter_append, e]
  generalize u.ss.getD i default = x at h ⊢
  have : x.till < now := by omega
  simp [this]
theorem swI_all {u : Uploads} {now : Int} {i : Nat} (hi : u.ss.length ≤ i) : swI u now i = (swept u now).ss := by
  unfold swI swept
  rw [List.take_of_length_le hi]
theorem swept_len {u : Uploads} (hu : u.ok) (now : Int) : (swept u now).ss.length < 4611686018427387904 := by
  have := hu.len
  have : (swept u now).ss.length ≤ u.ss.length := List.length_filter_le _ _
  omega
end Tether
end
section
set_option linter.unusedVariables false
set_option linter.unusedSimpArgs false
open Go Go.VM
namespace Tether
def sgnR (c : Int) : Bool := decide (97 ≤ c) && decide (c ≤ 122) || decide (65 ≤ c) && decide (c ≤ 90) || decide (48 ≤ c) && decide (c ≤ 57) || decide (c = 45) || decide (c = 95) || decide (c = 46) || decide (c = 40) || decide (c = 41) || decide (c = 32)
theorem sgnR_eq (c : UInt8) : signB (c.toNat : Int) = sgnR (c.toNat : Int) := by
  have h : ∀ n : Fin 256, signB (((UInt8.ofNat n.val).toNat : Nat) : Int) = sgnR (((UInt8.ofNat n.val).toNat : Nat) : Int) := by decide +kernel
  have := h ⟨c.toNat, c.toNat_lt⟩
  simpa using this
/-- may a sign stand there? -/
def okAt (s : Str) (i : Nat) : Bool := sgnR (at8 s i) && !(decide (at8 s i = 32) && (decide (i = 0) || decide ((i : Int) = (s.length : Int) - 1)))
theorem isName_okAt (s : Str) : ((List.range s.length).all (okAt s) && (((!decide (s = []) && decide ((s.length : Int) ≤ 20)) && !decide (s = [46])) && !decide (s = [46, 46]))) = isName s := by
  unfold isName
  by_cases h0 : s = []
  · subst h0; rfl
  have hpos : 0 < s.length := by rcases s with _ | ⟨x, s⟩; exact absurd rfl h0; simp
  have key : (List.range s.length).all (okAt s) = (!(decide (at8 s 0 = 32) || decide (at8 s (s.length - 1) = 32)) && (List.range s.length).all fun i => signB (at8 s i)) := by
    rw [Bool.eq_iff_iff]
    simp only [List.all_eq_true, List.mem_range, Bool.and_eq_true, Bool.not_eq_true', Bool.or_eq_false_iff, decide_eq_false_iff_not]
    have hs : ∀ i, sgnR (at8 s i) = signB (at8 s i) := fun i => (sgnR_eq _).symm
    constructor
    · intro h
      refine ⟨⟨fun e => ?_, fun e => ?_⟩, fun i hi => ?_⟩
      · have := h 0 hpos
        simp [okAt, e] at this
      · have := h (s.length - 1) (by omega)
        have hk : ((s.length - 1 : Nat) : Int) = (s.length : Int) - 1 := by omega
        simp [okAt, e, hk] at this
      · have := h i hi
        rw [okAt, hs] at this
        exact (Bool.and_eq_true_iff.1 this).1
    · rintro ⟨⟨e1, e2⟩, h⟩ i hi
      rw [okAt, hs, h i hi, Bool.true_and, Bool.not_eq_true']
      by_cases e : at8 s i = 32
      · have i0 : i ≠ 0 := by rintro rfl; exact e1 e
        have i1 : ¬ (i : Int) = (s.length : Int) - 1 := by
          intro h
          have : i = s.length - 1 := by omega
          subst this; exact e2 e
        simp [e, i0, i1]
      · simp [e]
  rw [key]
  have e1 : decide ((s.length : Int) ≤ 20) = !decide (20 < (s.length : Int)) := by
    by_cases h : (s.length : Int) ≤ 20
    · have : ¬ 20 < (s.length : Int) := by omega
      simp [h, this]
    · have : 20 < (s.length : Int) := by omega
      simp [h, this]
  rw [e1]
  generalize decide (s = []) = a, decide (20 < (s.length : Int)) = b, decide (s = [46]) = c, decide (s = [46, 46]) = d, (!(decide (at8 s 0 = 32) || decide (at8 s (s.length - 1) = 32))) = e, ((List.range s.length).all fun i => signB (at8 s i)) = f
  cases a <;> cases b <;> cases c <;> cases d <;> cases e <;> cases f <;> rfl
def sameS (s t : Session) : Bool := decide (s.num = t.num) && (decide (s.who = t.who) && (decide (s.text = t.text) && (decide (s.size = t.size) && decide (s.till = t.till))))
theorem sameS_self (s : Session) : sameS s s = true := by simp [sameS]
def sameU (a b : Uploads) : Bool := decide (a.next = b.next) && decide (a.lasts = b.lasts) && decide (a.room = b.room) && decide ((a.ss.length : Int) = (b.ss.length : Int)) && (List.range a.ss.length).all fun i => sameS (a.ss.getD i default) (b.ss.getD i default)
theorem sameU_self (a : Uploads) : sameU a a = true := by
  simp only [sameU, decide_true, Bool.true_and]
  exact range_all_true fun i _ => sameS_self _
end Tether
end
section
set_option linter.unusedVariables false
set_option linter.unusedSimpArgs false
open Go Go.VM Go.Proofs Tether
namespace Go.VM.Tryd
set_option maxRecDepth 100000
theorem RIsName_c (s : Str) (hs : s.length < 4611686018427387904) : Meets Tryd.prog 25 [.str s] (.bool (isName s)) [] := by
  refine meets_x (fn := Tryd.f25) Tryd.func25 rfl fb25 (by kernel_rfl) (Nat.le_of_ble_eq_true rfl) ?_
  refine cx_sr ?_
  simp only [go_sem]
  repeat first | (with_reducible refine side_d ?_ ?_; exact byD) | (with_reducible refine side_q ?_ ?_; exact byQ)
  refine cx_seq ?_
  refine cx_sr ?_
  simp only [go_sem]
  repeat first | (with_reducible refine side_d ?_ ?_; exact byD) | (with_reducible refine side_q ?_ ?_; exact byQ)
  refine cx_block ?_
  refine cx_loop0 (σ := Nat) (fun i => i ≤ s.length ∧ ∀ j, j < i → okAt s j = true) (fun i => [⟨3, 0, [], .int .i64 (i : Nat)⟩]) [0] (fun i => s.length - i) 0 ⟨Nat.zero_le _, fun j hj => absurd hj (Nat.not_lt_zero j)⟩ (Nat.zero_le _) byC (fun i hI1 => ?_)
  simp only [go_sem]
  refine cx_seq ?_
  refine cx_sr ?_
  simp only [go_sem]
  repeat first | (with_reducible refine side_d ?_ ?_; exact byD) | (with_reducible refine side_q ?_ ?_; exact byQ)
  intro t9 e9
  repeat first | (with_reducible refine side_d ?_ ?_; exact byD) | (with_reducible refine side_q ?_ ?_; exact byQ)
  subst e9
  refine cx_if _ rfl (fun h9 => ?_) (fun h9 => ?_)
  ·
    (try simp only [go_sem] at h9)
    refine cx_skip ?_
    (try simp only [go_sem])
    refine cx_seq (cx_block ?_)
    refine cx_sr ?_
    simp only [go_sem]
    repeat first | (with_reducible refine side_d ?_ ?_; exact byD) | (with_reducible refine side_q ?_ ?_; exact byQ)
    intro t14 e14
    repeat first | (with_reducible refine side_d ?_ ?_; exact byD) | (with_reducible refine side_q ?_ ?_; exact byQ)
    refine cx_sr ?_
    simp only [go_sem]
    repeat first | (with_reducible refine side_d ?_ ?_; exact byD) | (with_reducible refine side_q ?_ ?_; exact byQ)
    intro t16 e16
    repeat first | (with_reducible refine side_d ?_ ?_; exact byD) | (with_reducible refine side_q ?_ ?_; exact byQ)
    intro t19 e19
    repeat first | (with_reducible refine side_d ?_ ?_; exact byD) | (with_reducible refine side_q ?_ ?_; exact byQ)
    intro t20 e20
    rw [bsel_and] at e20
    repeat first | (with_reducible refine side_d ?_ ?_; exact byD) | (with_reducible refine side_q ?_ ?_; exact byQ)
    intro t23 e23
    repeat first | (with_reducible refine side_d ?_ ?_; exact byD) | (with_reducible refine side_q ?_ ?_; exact byQ)
    intro t26 e26
    repeat first | (with_reducible refine side_d ?_ ?_; exact byD) | (with_reducible refine side_q ?_ ?_; exact byQ)
    intro t27 e27
    rw [bsel_and] at e27
    repeat first | (with_reducible refine side_d ?_ ?_; exact byD) | (with_reducible refine side_q ?_ ?_; exact byQ)
    intro t28 e28
    rw [bsel_or] at e28
    repeat first | (with_reducible refine side_d ?_ ?_; exact byD) | (with_reducible refine side_q ?_ ?_; exact byQ)
    intro t31 e31
    repeat first | (with_reducible refine side_d ?_ ?_; exact byD) | (with_reducible refine side_q ?_ ?_; exact byQ)
    intro t34 e34
    repeat first | (with_reducible refine side_d ?_ ?_; exact byD) | (with_reducible refine side_q ?_ ?_; exact byQ)
    intro t35 e35
    rw [bsel_and] at e35
    repeat first | (with_reducible refine side_d ?_ ?_; exact byD) | (with_reducible refine side_q ?_ ?_; exact byQ)
    intro t36 e36
    rw [bsel_or] at e36
    repeat first | (with_reducible refine side_d ?_ ?_; exact byD) | (with_reducible refine side_q ?_ ?_; exact byQ)
    intro t39 e39
    repeat first | (with_reducible refine side_d ?_ ?_; exact byD) | (with_reducible refine side_q ?_ ?_; exact byQ)
    intro t40 e40
    rw [bsel_or] at e40
    repeat first | (with_reducible refine side_d ?_ ?_; exact byD) | (with_reducible refine side_q ?_ ?_; exact byQ)
    intro t43 e43
    repeat first | (with_reducible refine side_d ?_ ?_; exact byD) | (with_reducible refine side_q ?_ ?_; exact byQ)
    intro t44 e44
    rw [bsel_or] at e44
    repeat first | (with_reducible refine side_d ?_ ?_; exact byD) | (with_reducible refine side_q ?_ ?_; exact byQ)
    intro t47 e47
    repeat first | (with_reducible refine side_d ?_ ?_; exact byD) | (with_reducible refine side_q ?_ ?_; exact byQ)
    intro t48 e48
    rw [bsel_or] at e48
    repeat first | (with_reducible refine side_d ?_ ?_; exact byD) | (with_reducible refine side_q ?_ ?_; exact byQ)
    intro t51 e51
    repeat first | (with_reducible refine side_d ?_ ?_; exact byD) | (with_reducible refine side_q ?_ ?_; exact byQ)
    intro t52 e52
    rw [bsel_or] at e52
    repeat first | (with_reducible refine side_d ?_ ?_; exact byD) | (with_reducible refine side_q ?_ ?_; exact byQ)
    intro t55 e55
    repeat first | (with_reducible refine side_d ?_ ?_; exact byD) | (with_reducible refine side_q ?_ ?_; exact byQ)
    intro t56 e56
    rw [bsel_or] at e56
    repeat first | (with_reducible refine side_d ?_ ?_; exact byD) | (with_reducible refine side_q ?_ ?_; exact byQ)
    intro t59 e59
    repeat first | (with_reducible refine side_d ?_ ?_; exact byD) | (with_reducible refine side_q ?_ ?_; exact byQ)
    intro t60 e60
    rw [bsel_or] at e60
    repeat first | (with_reducible refine side_d ?_ ?_; exact byD) | (with_reducible refine side_q ?_ ?_; exact byQ)
    subst e16 e19 e20 e23 e26 e27 e28 e31 e34 e35 e36 e39 e40 e43 e44 e47 e48 e51 e52 e55 e56 e59 e60
    refine cx_sr ?_
    simp only [go_sem]
    repeat first | (with_reducible refine side_d ?_ ?_; exact byD) | (with_reducible refine side_q ?_ ?_; exact byQ)
    intro t62 e62
    repeat first | (with_reducible refine side_d ?_ ?_; exact byD) | (with_reducible refine side_q ?_ ?_; exact byQ)
    intro t65 e65
    repeat first | (with_reducible refine side_d ?_ ?_; exact byD) | (with_reducible refine side_q ?_ ?_; exact byQ)
    intro t68 e68
    repeat first | (with_reducible refine side_d ?_ ?_; exact byD) | (with_reducible refine side_q ?_ ?_; exact byQ)
    intro t73 e73
    (try replace e73 := w64 e73 (by omega) (by omega))
    repeat first | (with_reducible refine side_d ?_ ?_; exact byD) | (with_reducible refine side_q ?_ ?_; exact byQ)
    intro t74 e74
    repeat first | (with_reducible refine side_d ?_ ?_; exact byD) | (with_reducible refine side_q ?_ ?_; exact byQ)
    intro t75 e75
    rw [bsel_or] at e75
    repeat first | (with_reducible refine side_d ?_ ?_; exact byD) | (with_reducible refine side_q ?_ ?_; exact byQ)
    intro t76 e76
    rw [bsel_and] at e76
    repeat first | (with_reducible refine side_d ?_ ?_; exact byD) | (with_reducible refine side_q ?_ ?_; exact byQ)
    intro t77 e77
    rw [bsel_or] at e77
    repeat first | (with_reducible refine side_d ?_ ?_; exact byD) | (with_reducible refine side_q ?_ ?_; exact byQ)
    subst e62 e65 e68 e74 e75 e76 e77
    refine cx_if _ rfl (fun h77 => ?_) (fun h77 => ?_)
    ·
      (try simp only [go_sem] at h77)
      refine cx_sr ?_
      simp only [go_sem]
      repeat first | (with_reducible refine side_d ?_ ?_; exact byD) | (with_reducible refine side_q ?_ ?_; exact byQ)
      refine cx_ret ?_
      simp only [go_sem]
      refine finw_bool ?_
      have ha : at8 s i = t14 := e14.symm
      have hk : okAt s i = false := by
        simp only [okAt, sgnR, ha, Bool.and_eq_true, Bool.or_eq_true, Bool.not_eq_false', Bool.and_eq_false_iff, Bool.or_eq_false_iff, decide_eq_true_eq, decide_eq_false_iff_not]
        omega
      rw [← isName_okAt, range_all_false (i := i) (by omega) hk, Bool.false_and]
    ·
      (try simp only [go_sem] at h77)
      refine cx_skip ?_
      (try simp only [go_sem])
      refine cx_region ?_
      simp only [go_sem]
      repeat first | (with_reducible refine side_d ?_ ?_; exact byD) | (with_reducible refine side_q ?_ ?_; exact byQ)
      intro t11 e11
      (try replace e11 := w64 e11 (by omega) (by omega))
      repeat first | (with_reducible refine side_d ?_ ?_; exact byD) | (with_reducible refine side_q ?_ ?_; exact byQ)
      have ha : at8 s i = t14 := e14.symm
      have hk : okAt s i = true := by
        simp only [okAt, sgnR, ha, Bool.and_eq_true, Bool.or_eq_true, Bool.not_eq_true', Bool.and_eq_false_iff, Bool.or_eq_false_iff, decide_eq_true_eq, decide_eq_false_iff_not]
        omega
      refine rnd_next (i + 1) ⟨by omega, all_next hI1.2 hk⟩ (by first | omega | (dsimp only; omega)) byC
  ·
    (try simp only [go_sem] at h9)
    refine cx_exit ?_
    simp only [go_sem]
    refine cx_sr ?_
    simp only [go_sem]
    repeat first | (with_reducible refine side_d ?_ ?_; exact byD) | (with_reducible refine side_q ?_ ?_; exact byQ)
    intro t79 e79
    repeat first | (with_reducible refine side_d ?_ ?_; exact byD) | (with_reducible refine side_q ?_ ?_; exact byQ)
    intro t83 e83
    repeat first | (with_reducible refine side_d ?_ ?_; exact byD) | (with_reducible refine side_q ?_ ?_; exact byQ)
    intro t84 e84
    rw [bsel_and] at e84
    repeat first | (with_reducible refine side_d ?_ ?_; exact byD) | (with_reducible refine side_q ?_ ?_; exact byQ)
    intro t87 e87
    repeat first | (with_reducible refine side_d ?_ ?_; exact byD) | (with_reducible refine side_q ?_ ?_; exact byQ)
    intro t88 e88
    rw [bsel_and] at e88
    repeat first | (with_reducible refine side_d ?_ ?_; exact byD) | (with_reducible refine side_q ?_ ?_; exact byQ)
    intro t91 e91
    repeat first | (with_reducible refine side_d ?_ ?_; exact byD) | (with_reducible refine side_q ?_ ?_; exact byQ)
    intro t92 e92
    rw [bsel_and] at e92
    repeat first | (with_reducible refine side_d ?_ ?_; exact byD) | (with_reducible refine side_q ?_ ?_; exact byQ)
    subst e79 e83 e84 e87 e88 e91 e92
    refine cx_ret ?_
    simp only [go_sem]
    refine finw_bool ?_
    rw [← isName_okAt, range_all_true fun j hj => hI1.2 j (by omega), Bool.true_and]

theorem nm_le (s : Str) {i : Nat} (hi : i ≤ s.length) : (nm s i).2 ≤ i ∧ (nm s i).1.length ≤ i := ⟨(nm_inv s i hi).2.1, (nm_inv s i hi).2.2.2⟩
theorem NamesOf_c (s : Str) (hs : (s.length + 1) * 16 ≤ 140737488355328) : Meets Tryd.prog 30 [.str s] (strsV' (pcs s)) [] := by
  refine meets_x (fn := Tryd.f30) Tryd.func30 rfl fb30 (by kernel_rfl) (Nat.le_of_ble_eq_true rfl) ?_
  refine cx_sr ?_
  simp only [go_sem]
  repeat first | (with_reducible refine side_d ?_ ?_; exact byD) | (with_reducible refine side_q ?_ ?_; exact byQ)
  refine cx_sr ?_
  simp only [go_sem]
  repeat first | (with_reducible refine side_d ?_ ?_; exact byD) | (with_reducible refine side_q ?_ ?_; exact byQ)
  refine cx_virt 3 1 (En strE' [] []) rfl ?_
  refine cx_sr ?_
  simp only [go_sem]
  repeat first | (with_reducible refine side_d ?_ ?_; exact byD) | (with_reducible refine side_q ?_ ?_; exact byQ)
  refine cx_seq ?_
  refine cx_sr ?_
  simp only [go_sem]
  repeat first | (with_reducible refine side_d ?_ ?_; exact byD) | (with_reducible refine side_q ?_ ?_; exact byQ)
  refine cx_block ?_
  refine cx_loopk (σ := Nat) (fun i => i ≤ s.length) (fun i => [⟨5, 0, [], .int .i64 (i : Nat)⟩, ⟨4, 0, [], .int .i64 ((nm s i).2 : Nat)⟩, ⟨3, 0, [], .own none 0 1 0 (nm s i).1.length .loose⟩]) [0, 2] (fun i => [.arr 1 (nm s i).1.length (En strE' [] (nm s i).1)]) (fun i => s.length - i) 0 (by first | trivial | omega | simp) (fun _ => (Nat.zero_le _)) byC (fun i hI1 => ?_)
  simp only [go_sem]
  have hnl := nm_le s hI1
  refine cx_seq ?_
  refine cx_sr ?_
  simp only [go_sem]
  repeat first | (with_reducible refine side_d ?_ ?_; exact byD) | (with_reducible refine side_q ?_ ?_; exact byQ)
  intro t9 e9
  repeat first | (with_reducible refine side_d ?_ ?_; exact byD) | (with_reducible refine side_q ?_ ?_; exact byQ)
  subst e9
  refine cx_if _ rfl (fun h9 => ?_) (fun h9 => ?_)
  ·
    (try simp only [go_sem] at h9)
    refine cx_skip ?_
    (try simp only [go_sem])
    refine cx_seq (cx_block ?_)
    refine cx_sr ?_
    simp only [go_sem]
    repeat first | (with_reducible refine side_d ?_ ?_; exact byD) | (with_reducible refine side_q ?_ ?_; exact byQ)
    intro t14 e14
    repeat first | (with_reducible refine side_d ?_ ?_; exact byD) | (with_reducible refine side_q ?_ ?_; exact byQ)
    intro t15 e15
    repeat first | (with_reducible refine side_d ?_ ?_; exact byD) | (with_reducible refine side_q ?_ ?_; exact byQ)
    subst e15
    refine cx_if _ rfl (fun h15 => ?_) (fun h15 => ?_)
    ·
      (try simp only [go_sem] at h15)
      refine cx_sr ?_
      simp only [go_sem]
      repeat first | (with_reducible refine side_d ?_ ?_; exact byD) | (with_reducible refine side_q ?_ ?_; exact byQ)
      refine cx_region ?_
      simp only [go_sem]
      repeat first | (with_reducible refine side_d ?_ ?_; exact byD) | (with_reducible refine side_q ?_ ?_; exact byQ)
      intro t24 e24
      (try replace e24 := w64 e24 (by omega) (by omega))
      repeat first | (with_reducible refine side_d ?_ ?_; exact byD) | (with_reducible refine side_q ?_ ?_; exact byQ)
      refine cx_region ?_
      simp only [go_sem]
      repeat first | (with_reducible refine side_d ?_ ?_; exact byD) | (with_reducible refine side_q ?_ ?_; exact byQ)
      intro t11 e11
      (try replace e11 := w64 e11 (by omega) (by omega))
      repeat first | (with_reducible refine side_d ?_ ?_; exact byD) | (with_reducible refine side_q ?_ ?_; exact byQ)
      have hn1 : nm s (i + 1) = ((nm s i).1 ++ [(s.take i).drop (nm s i).2], i + 1) := by
        simp only [nm]
        rw [if_pos (by subst e14; exact h15)]
      refine rnd_nextr (i + 1) [2] (by omega) (by first | omega | (dsimp only; omega)) ⟨rfl, rfl, ?_, ?_⟩
      · rw [hn1]; exact byC
      · rw [hn1]; skip
        simp only [go_sem, wk, wks, wkB, wkH, List.length_append, List.length_cons, List.length_nil]
        first | exact fun q hq => wks_mp_snoc (fun x => rnVs_no _ rfl) (by rfl) hq | (and_intros <;> first | trivial | rfl | (exact fun q hq => wks_mp_snoc (fun x => rnVs_no _ rfl) (by rfl) hq) | exact wks_refl _ | exact byC)
    ·
      (try simp only [go_sem] at h15)
      refine cx_skip ?_
      (try simp only [go_sem])
      refine cx_region ?_
      simp only [go_sem]
      repeat first | (with_reducible refine side_d ?_ ?_; exact byD) | (with_reducible refine side_q ?_ ?_; exact byQ)
      intro t11 e11
      (try replace e11 := w64 e11 (by omega) (by omega))
      repeat first | (with_reducible refine side_d ?_ ?_; exact byD) | (with_reducible refine side_q ?_ ?_; exact byQ)
      have hn1 : nm s (i + 1) = nm s i := by
        simp only [nm]
        rw [if_neg (by subst e14; exact h15)]
      refine rnd_next (i + 1) (by omega) (by first | omega | (dsimp only; omega)) ?_
      rw [hn1]
      exact byC
  ·
    (try simp only [go_sem] at h9)
    refine cx_exit ?_
    simp only [go_sem]
    refine cx_sr ?_
    simp only [go_sem]
    repeat first | (with_reducible refine side_d ?_ ?_; exact byD) | (with_reducible refine side_q ?_ ?_; exact byQ)
    refine cx_ret ?_
    simp only [go_sem]
    obtain rfl : i = s.length := by omega
    rw [← nm_pcs s]
    refine finx_w (.own none 2 1 0 ((nm s s.length).1 ++ [s.drop (nm s s.length).2]).length .loose) [.dead, .dead, .arr 1 ((nm s s.length).1 ++ [s.drop (nm s s.length).2]).length (En strE' [] ((nm s s.length).1 ++ [s.drop (nm s s.length).2]))] ?_ ?_ ?_
    · simp only [go_sem, wk, wks, wkB, wkH, List.length_append, List.length_cons, List.length_nil]
    · simp only [go_sem, wk, wks, wkB, wkH, List.length_append, List.length_cons, List.length_nil]
      and_intros <;> first | trivial | rfl | (exact fun q hq => wks_En_snoc (wks_refl _) hq) | exact byC
    · exact finx_of 1 [] rfl byC byC byC byC
end Go.VM.Tryd
end
section
set_option linter.unusedVariables false
set_option linter.unusedSimpArgs false
open Go Go.VM Go.Proofs Tether
namespace Go.VM.Tryd
set_option maxRecDepth 100000
theorem pcs_cnt : ∀ s : List UInt8, (pcs s).length = s.count 47 + 1
  | [] => rfl
  | b :: r => by
    have ih := pcs_cnt r
    by_cases hb : b = 47
    · simp [pcs, hb, ih]
    · simp only [pcs, hb, if_false]
      rcases hp : pcs r with _ | ⟨y, ys⟩
      · exact absurd hp (pcs_ne r)
      · rw [hp] at ih
        simp [hb] at ih ⊢
        omega
theorem greatB_pcs (s : List UInt8) : (decide ((6 : Int) < ((pcs s).length : Nat)) || decide ((80 : Int) < (s.length : Nat))) = greatB s := by
  have h1 : ((6 : Int) < ((pcs s).length : Nat)) ↔ 6 ≤ s.count 47 := by rw [pcs_cnt]; omega
  have h2 : ((80 : Int) < (s.length : Nat)) ↔ 80 < s.length := by omega
  simp only [greatB, h1, h2]
theorem TooGreat_c (s : Str) (hs : (s.length + 1) * 16 ≤ 140737488355328) : Meets Tryd.prog 27 [.str s] (.bool (greatB s)) [] := by
  refine meets_x (fn := Tryd.f27) Tryd.func27 rfl fb27 (by kernel_rfl) (Nat.le_of_ble_eq_true rfl) ?_
  refine cx_sr ?_
  simp only [go_sem]
  repeat first | (with_reducible refine side_d ?_ ?_; exact byD) | (with_reducible refine side_q ?_ ?_; exact byQ)
  refine cx_sr ?_
  simp only [go_sem]
  repeat first | (with_reducible refine side_d ?_ ?_; exact byD) | (with_reducible refine side_q ?_ ?_; exact byQ)
  refine cw_m (NamesOf_c s hs) byW byT ?_
  simp only [go_sem]
  repeat first | (with_reducible refine side_d ?_ ?_; exact byD) | (with_reducible refine side_q ?_ ?_; exact byQ)
  intro t6 e6
  repeat first | (with_reducible refine side_d ?_ ?_; exact byD) | (with_reducible refine side_q ?_ ?_; exact byQ)
  intro t10 e10
  repeat first | (with_reducible refine side_d ?_ ?_; exact byD) | (with_reducible refine side_q ?_ ?_; exact byQ)
  intro t11 e11
  rw [bsel_or] at e11
  repeat first | (with_reducible refine side_d ?_ ?_; exact byD) | (with_reducible refine side_q ?_ ?_; exact byQ)
  subst e6 e10 e11
  refine cx_ret ?_
  simp only [go_sem]
  refine finw_bool ?_
  rw [← greatB_pcs]
theorem names_all {l : List Str} (h : ∀ j, j < l.length → isName (l.getD j []) = true) : l.all isName = true := by
  rw [List.all_eq_true]
  intro x hx
  obtain ⟨j, hj, rfl⟩ := List.getElem_of_mem hx
  have := h j hj
  simpa [List.getD_eq_getElem?_getD, hj] using this
theorem checkP_cons (p : Str) (r : List Str) : checkP (p :: r) = if checkP [p] = 0 then checkP r else checkP [p] := by
  simp only [checkP]
  by_cases h1 : (pcs p).all isName = true <;> by_cases h2 : greatB p = true <;> simp only [h1, h2, if_true, if_false] <;> simp
theorem CheckPath_c (s : Str) (hs : (s.length + 1) * 16 ≤ 140737488355328) : Meets Tryd.prog 12 [.str s] (.int .i64 (checkP [s])) [] := by
  refine meets_x (fn := Tryd.f12) Tryd.func12 rfl fb12 (by kernel_rfl) (Nat.le_of_ble_eq_true rfl) ?_
  have hpl : (pcs s).length ≤ s.length + 1 := by rw [pcs_cnt]; have := List.count_le_length (a := (47 : UInt8)) (l := s); omega
  refine cx_sr ?_
  simp only [go_sem]
  repeat first | (with_reducible refine side_d ?_ ?_; exact byD) | (with_reducible refine side_q ?_ ?_; exact byQ)
  refine cx_sr ?_
  simp only [go_sem]
  repeat first | (with_reducible refine side_d ?_ ?_; exact byD) | (with_reducible refine side_q ?_ ?_; exact byQ)
  refine cw_m (NamesOf_c s hs) byW byT ?_
  simp only [go_sem]
  repeat first | (with_reducible refine side_d ?_ ?_; exact byD) | (with_reducible refine side_q ?_ ?_; exact byQ)
  refine cx_seq ?_
  refine cx_sr ?_
  simp only [go_sem]
  repeat first | (with_reducible refine side_d ?_ ?_; exact byD) | (with_reducible refine side_q ?_ ?_; exact byQ)
  refine cx_block ?_
  refine cx_loop0 (σ := Nat) (fun i => i ≤ (pcs s).length ∧ ∀ j, j < i → isName ((pcs s).getD j []) = true) (fun i => [⟨4, 0, [], .int .i64 (i : Nat)⟩]) [0, 3] (fun i => (pcs s).length - i) 0 ⟨Nat.zero_le _, fun j hj => absurd hj (Nat.not_lt_zero j)⟩ (Nat.zero_le _) byC (fun i hI1 => ?_)
  simp only [go_sem]
  refine cx_seq ?_
  refine cx_sr ?_
  simp only [go_sem]
  repeat first | (with_reducible refine side_d ?_ ?_; exact byD) | (with_reducible refine side_q ?_ ?_; exact byQ)
  intro t10 e10
  repeat first | (with_reducible refine side_d ?_ ?_; exact byD) | (with_reducible refine side_q ?_ ?_; exact byQ)
  subst e10
  refine cx_if _ rfl (fun h10 => ?_) (fun h10 => ?_)
  ·
    (try simp only [go_sem] at h10)
    have hlt : i < (pcs s).length := by omega
    have hgd : (pcs s).getD i [] = (pcs s)[i] := by simp [List.getD_eq_getElem?_getD, hlt]
    have hx : ((pcs s).getD i []).length < 4611686018427387904 := by
      have := pcs_len s _ (by rw [hgd]; exact List.getElem_mem hlt : (pcs s).getD i [] ∈ pcs s)
      omega
    refine cx_skip ?_
    (try simp only [go_sem])
    refine cx_seq (cx_block ?_)
    refine cx_sr ?_
    simp only [go_sem]
    repeat first | (with_reducible refine side_d ?_ ?_; exact byD) | (with_reducible refine side_q ?_ ?_; exact byQ)
    refine cw_m (RIsName_c ((pcs s).getD i []) hx) byW byT ?_
    simp only [go_sem]
    repeat first | (with_reducible refine side_d ?_ ?_; exact byD) | (with_reducible refine side_q ?_ ?_; exact byQ)
    intro t18 e18
    repeat first | (with_reducible refine side_d ?_ ?_; exact byD) | (with_reducible refine side_q ?_ ?_; exact byQ)
    subst e18
    refine cx_if _ rfl (fun h18 => ?_) (fun h18 => ?_)
    ·
      (try simp only [go_sem] at h18)
      refine cx_sr ?_
      simp only [go_sem]
      repeat first | (with_reducible refine side_d ?_ ?_; exact byD) | (with_reducible refine side_q ?_ ?_; exact byQ)
      refine cx_ret ?_
      simp only [go_sem]
      refine finw_int ?_
      have hall : (pcs s).all isName = false := by
        rw [List.all_eq_false]
        exact ⟨(pcs s)[i], List.getElem_mem hlt, by rw [← hgd]; simpa using h18⟩
      simp [checkP, hall]
    ·
      (try simp only [go_sem] at h18)
      refine cx_skip ?_
      (try simp only [go_sem])
      refine cx_region ?_
      simp only [go_sem]
      repeat first | (with_reducible refine side_d ?_ ?_; exact byD) | (with_reducible refine side_q ?_ ?_; exact byQ)
      intro t12 e12
      (try replace e12 := w64 e12 (by omega) (by omega))
      repeat first | (with_reducible refine side_d ?_ ?_; exact byD) | (with_reducible refine side_q ?_ ?_; exact byQ)
      refine rnd_next (i + 1) ⟨by omega, all_next hI1.2 (by simpa using h18)⟩ (by first | omega | (dsimp only; omega)) byC
  ·
    (try simp only [go_sem] at h10)
    refine cx_exit ?_
    simp only [go_sem]
    refine cx_seq ?_
    refine cx_sr ?_
    simp only [go_sem]
    repeat first | (with_reducible refine side_d ?_ ?_; exact byD) | (with_reducible refine side_q ?_ ?_; exact byQ)
    refine cw_m (TooGreat_c s hs) byW byT ?_
    simp only [go_sem]
    repeat first | (with_reducible refine side_d ?_ ?_; exact byD) | (with_reducible refine side_q ?_ ?_; exact byQ)
    refine cx_if _ rfl (fun h20 => ?_) (fun h20 => ?_)
    ·
      (try simp only [go_sem] at h20)
      refine cx_sr ?_
      simp only [go_sem]
      repeat first | (with_reducible refine side_d ?_ ?_; exact byD) | (with_reducible refine side_q ?_ ?_; exact byQ)
      refine cx_ret ?_
      simp only [go_sem]
      refine finw_int ?_
      have hall : (pcs s).all isName = true := names_all (fun j hj => hI1.2 j (by omega))
      have hg : greatB s = true := by simpa using h20
      simp [checkP, hall, hg]
    ·
      (try simp only [go_sem] at h20)
      refine cx_skip ?_
      (try simp only [go_sem])
      refine cx_sr ?_
      simp only [go_sem]
      repeat first | (with_reducible refine side_d ?_ ?_; exact byD) | (with_reducible refine side_q ?_ ?_; exact byQ)
      refine cx_ret ?_
      simp only [go_sem]
      refine finw_int ?_
      have hall : (pcs s).all isName = true := names_all (fun j hj => hI1.2 j (by omega))
      have hg : greatB s = false := by simpa using h20
      simp [checkP, hall, hg]
theorem CheckPaths_c (l : List Str) (hl : l.length < 4611686018427387904) (hs : ∀ s ∈ l, (s.length + 1) * 16 ≤ 140737488355328) : Meets Tryd.prog 22 [strsV' l] (.int .i64 (checkP l)) [] := by
  refine meets_x (fn := Tryd.f22) Tryd.func22 rfl fb22 (by kernel_rfl) (Nat.le_of_ble_eq_true rfl) ?_
  refine cx_sr ?_
  simp only [go_sem]
  repeat first | (with_reducible refine side_d ?_ ?_; exact byD) | (with_reducible refine side_q ?_ ?_; exact byQ)
  refine cx_seq ?_
  refine cx_sr ?_
  simp only [go_sem]
  repeat first | (with_reducible refine side_d ?_ ?_; exact byD) | (with_reducible refine side_q ?_ ?_; exact byQ)
  refine cx_block ?_
  refine cx_loop0 (σ := Nat) (fun i => i ≤ l.length ∧ checkP l = checkP (l.drop i)) (fun i => [⟨3, 0, [], .int .i64 (i : Nat)⟩]) [0] (fun i => l.length - i) 0 ⟨Nat.zero_le _, by simp⟩ (Nat.zero_le _) byC (fun i hI1 => ?_)
  simp only [go_sem]
  refine cx_seq ?_
  refine cx_sr ?_
  simp only [go_sem]
  repeat first | (with_reducible refine side_d ?_ ?_; exact byD) | (with_reducible refine side_q ?_ ?_; exact byQ)
  intro t8 e8
  repeat first | (with_reducible refine side_d ?_ ?_; exact byD) | (with_reducible refine side_q ?_ ?_; exact byQ)
  subst e8
  refine cx_if _ rfl (fun h8 => ?_) (fun h8 => ?_)
  ·
    (try simp only [go_sem] at h8)
    have hlt : i < l.length := by omega
    have hgd : l.getD i [] = l[i] := by simp [List.getD_eq_getElem?_getD, hlt]
    have hx : ((l.getD i []).length + 1) * 16 ≤ 140737488355328 := hs _ (by rw [hgd]; exact List.getElem_mem hlt)
    have hck : checkP (l.drop i) = if checkP [l.getD i []] = 0 then checkP (l.drop (i + 1)) else checkP [l.getD i []] := by
      rw [List.drop_eq_getElem_cons hlt, hgd]
      exact checkP_cons _ _
    refine cx_skip ?_
    (try simp only [go_sem])
    refine cx_seq (cx_block ?_)
    refine cx_sr ?_
    simp only [go_sem]
    repeat first | (with_reducible refine side_d ?_ ?_; exact byD) | (with_reducible refine side_q ?_ ?_; exact byQ)
    refine cw_m (CheckPath_c (l.getD i []) hx) byW byT ?_
    simp only [go_sem]
    repeat first | (with_reducible refine side_d ?_ ?_; exact byD) | (with_reducible refine side_q ?_ ?_; exact byQ)
    refine cx_sr ?_
    simp only [go_sem]
    repeat first | (with_reducible refine side_d ?_ ?_; exact byD) | (with_reducible refine side_q ?_ ?_; exact byQ)
    intro t17 e17
    repeat first | (with_reducible refine side_d ?_ ?_; exact byD) | (with_reducible refine side_q ?_ ?_; exact byQ)
    subst e17
    refine cx_if _ rfl (fun h17 => ?_) (fun h17 => ?_)
    ·
      (try simp only [go_sem] at h17)
      refine cx_sr ?_
      simp only [go_sem]
      repeat first | (with_reducible refine side_d ?_ ?_; exact byD) | (with_reducible refine side_q ?_ ?_; exact byQ)
      refine cx_ret ?_
      simp only [go_sem]
      refine finw_int ?_
      rw [hI1.2, hck, if_neg (by simpa using h17)]
    ·
      (try simp only [go_sem] at h17)
      refine cx_skip ?_
      (try simp only [go_sem])
      refine cx_region ?_
      simp only [go_sem]
      repeat first | (with_reducible refine side_d ?_ ?_; exact byD) | (with_reducible refine side_q ?_ ?_; exact byQ)
      intro t10 e10
      (try replace e10 := w64 e10 (by omega) (by omega))
      repeat first | (with_reducible refine side_d ?_ ?_; exact byD) | (with_reducible refine side_q ?_ ?_; exact byQ)
      refine rnd_next (i + 1) ⟨by omega, by rw [hI1.2, hck, if_pos (by simpa using h17)]⟩ (by first | omega | (dsimp only; omega)) byC
  ·
    (try simp only [go_sem] at h8)
    refine cx_exit ?_
    simp only [go_sem]
    refine cx_sr ?_
    simp only [go_sem]
    repeat first | (with_reducible refine side_d ?_ ?_; exact byD) | (with_reducible refine side_q ?_ ?_; exact byQ)
    refine cx_ret ?_
    simp only [go_sem]
    obtain rfl : i = l.length := by omega
    refine finw_int ?_
    rw [hI1.2]
    simp [checkP]
end Go.VM.Tryd
end
section
set_option linter.unusedVariables false
set_option linter.unusedSimpArgs false
open Go Go.VM Go.Proofs Tether
namespace Go.VM.Tryd
set_option maxRecDepth 100000
/-- the last place ahead of n that holds c; -1: none -/
def lixN (s : Str) (c : Int) : Nat → Int
  | 0 => -1
  | n + 1 => if at8 s n = c then n else lixN s c n
theorem joined_c (a b : Str) (h : a.length + b.length < 4611686018427387904) : Meets Tryd.prog 36 [.str a, .str b] (.str (if a = [] then b else a ++ 47 :: b)) [] := by
  refine meets_x (fn := Tryd.f36) Tryd.func36 rfl fb36 (by kernel_rfl) (Nat.le_of_ble_eq_true rfl) ?_
  refine cx_sr ?_
  simp only [go_sem]
  repeat first | (with_reducible refine side_d ?_ ?_; exact byD) | (with_reducible refine side_q ?_ ?_; exact byQ)
  refine cx_seq ?_
  refine cx_sr ?_
  simp only [go_sem]
  repeat first | (with_reducible refine side_d ?_ ?_; exact byD) | (with_reducible refine side_q ?_ ?_; exact byQ)
  intro t6 e6
  repeat first | (with_reducible refine side_d ?_ ?_; exact byD) | (with_reducible refine side_q ?_ ?_; exact byQ)
  subst e6
  refine cx_if _ rfl (fun h6 => ?_) (fun h6 => ?_)
  ·
    (try simp only [go_sem] at h6)
    refine cx_sr ?_
    simp only [go_sem]
    repeat first | (with_reducible refine side_d ?_ ?_; exact byD) | (with_reducible refine side_q ?_ ?_; exact byQ)
    refine cx_ret ?_
    simp only [go_sem]
    exact finw_str (by simp_all)
  ·
    (try simp only [go_sem] at h6)
    refine cx_skip ?_
    (try simp only [go_sem])
    refine cx_sr ?_
    simp only [go_sem]
    repeat ((with_reducible first | refine side_d ?_ ?_ | refine side_q ?_ ?_); focus (first | exact byD | exact byQ | ((refine Sd.mk ?_; simp; omega))))
    repeat ((with_reducible first | refine side_d ?_ ?_ | refine side_q ?_ ?_); focus (first | exact byD | exact byQ | ((refine Sd.mk ?_; simp; omega))))
    repeat first | (with_reducible refine side_d ?_ ?_; exact byD) | (with_reducible refine side_q ?_ ?_; exact byQ)
    refine cx_ret ?_
    simp only [go_sem]
    exact finw_str (by simp_all)
theorem LastIx0_c (s : Str) (c : Int) (hs : s.length < 4611686018427387904) : Meets Tryd.prog 42 [.str s, .int .u8 c] (.int .i64 (lixN s c s.length)) [] := by
  refine meets_x (fn := Tryd.f42) Tryd.func42 rfl fb42 (by kernel_rfl) (Nat.le_of_ble_eq_true rfl) ?_
  refine cx_sr ?_
  simp only [go_sem]
  repeat first | (with_reducible refine side_d ?_ ?_; exact byD) | (with_reducible refine side_q ?_ ?_; exact byQ)
  refine cx_seq ?_
  refine cx_sr ?_
  simp only [go_sem]
  repeat first | (with_reducible refine side_d ?_ ?_; exact byD) | (with_reducible refine side_q ?_ ?_; exact byQ)
  intro t8 e8
  (try replace e8 := w64 e8 (by omega) (by omega))
  repeat first | (with_reducible refine side_d ?_ ?_; exact byD) | (with_reducible refine side_q ?_ ?_; exact byQ)
  refine cx_block ?_
  refine cx_loop0 (σ := Nat) (fun n => n ≤ s.length ∧ lixN s c n = lixN s c s.length) (fun n => [⟨5, 0, [], .int .i64 ((n : Int) - 1)⟩]) [0, 1] (fun n => n) s.length ⟨Nat.le_refl _, rfl⟩ (Nat.zero_le _) byC (fun n hI1 => ?_)
  simp only [go_sem]
  refine cx_seq ?_
  refine cx_sr ?_
  simp only [go_sem]
  repeat first | (with_reducible refine side_d ?_ ?_; exact byD) | (with_reducible refine side_q ?_ ?_; exact byQ)
  intro t10 e10
  repeat first | (with_reducible refine side_d ?_ ?_; exact byD) | (with_reducible refine side_q ?_ ?_; exact byQ)
  subst e10
  refine cx_if _ rfl (fun h10 => ?_) (fun h10 => ?_)
  ·
    (try simp only [go_sem] at h10)
    obtain ⟨m, rfl⟩ : ∃ m, n = m + 1 := ⟨n - 1, by omega⟩
    have hm : (((m + 1 : Nat) : Int) - 1).toNat = m := by omega
    have hl : lixN s c (m + 1) = if at8 s m = c then (m : Int) else lixN s c m := rfl
    refine cx_skip ?_
    (try simp only [go_sem])
    refine cx_seq (cx_block ?_)
    refine cx_sr ?_
    simp only [go_sem]
    repeat first | (with_reducible refine side_d ?_ ?_; exact byD) | (with_reducible refine side_q ?_ ?_; exact byQ)
    intro t15 e15
    repeat first | (with_reducible refine side_d ?_ ?_; exact byD) | (with_reducible refine side_q ?_ ?_; exact byQ)
    intro t17 e17
    repeat first | (with_reducible refine side_d ?_ ?_; exact byD) | (with_reducible refine side_q ?_ ?_; exact byQ)
    subst e17
    refine cx_if _ rfl (fun h17 => ?_) (fun h17 => ?_)
    ·
      (try simp only [go_sem] at h17)
      refine cx_sr ?_
      simp only [go_sem]
      repeat first | (with_reducible refine side_d ?_ ?_; exact byD) | (with_reducible refine side_q ?_ ?_; exact byQ)
      refine cx_ret ?_
      simp only [go_sem]
      refine finw_int ?_
      have hne : at8 s m = c := by subst e15; simpa [at8, hm] using h17
      rw [if_pos hne] at hl
      rw [← hI1.2, hl]
      omega
    ·
      (try simp only [go_sem] at h17)
      refine cx_skip ?_
      (try simp only [go_sem])
      refine cx_region ?_
      simp only [go_sem]
      repeat first | (with_reducible refine side_d ?_ ?_; exact byD) | (with_reducible refine side_q ?_ ?_; exact byQ)
      intro t12 e12
      (try replace e12 := w64 e12 (by omega) (by omega))
      repeat first | (with_reducible refine side_d ?_ ?_; exact byD) | (with_reducible refine side_q ?_ ?_; exact byQ)
      have hne : ¬ at8 s m = c := by subst e15; simpa [at8, hm] using h17
      rw [if_neg hne] at hl
      refine rnd_next m ⟨by omega, by rw [← hl]; exact hI1.2⟩ (by first | omega | (dsimp only; omega)) byC
  ·
    (try simp only [go_sem] at h10)
    obtain rfl : n = 0 := by omega
    refine cx_exit ?_
    simp only [go_sem]
    refine cx_sr ?_
    simp only [go_sem]
    repeat first | (with_reducible refine side_d ?_ ?_; exact byD) | (with_reducible refine side_q ?_ ?_; exact byQ)
    refine cx_ret ?_
    simp only [go_sem]
    refine finw_int ?_
    rw [← hI1.2]
    rfl
theorem LastIx_c (s : Str) (c : Int) (hs : s.length < 4611686018427387904) : Meets Tryd.prog 33 [.str s, .int .u8 c] (.int .i64 (lixN s c s.length)) [] := by
  refine meets_x (fn := Tryd.f33) Tryd.func33 rfl fb33 (by kernel_rfl) (Nat.le_of_ble_eq_true rfl) ?_
  refine cx_sr ?_
  simp only [go_sem]
  repeat first | (with_reducible refine side_d ?_ ?_; exact byD) | (with_reducible refine side_q ?_ ?_; exact byQ)
  refine cx_sr ?_
  simp only [go_sem]
  repeat first | (with_reducible refine side_d ?_ ?_; exact byD) | (with_reducible refine side_q ?_ ?_; exact byQ)
  refine cw_m (LastIx0_c s c hs) byW byT ?_
  simp only [go_sem]
  repeat first | (with_reducible refine side_d ?_ ?_; exact byD) | (with_reducible refine side_q ?_ ?_; exact byQ)
  refine cx_ret ?_
  simp only [go_sem]
  exact finw_int rfl
def hasPre (s p : Str) : Bool := decide (p.length ≤ s.length) && decide (s.take p.length = p)
theorem HasPre0_c (s p : Str) (hs : s.length < 4611686018427387904) : Meets Tryd.prog 60 [.str s, .str p] (.bool (hasPre s p)) [] := by
  refine meets_x (fn := Tryd.f60) Tryd.func60 rfl fb60 (by kernel_rfl) (Nat.le_of_ble_eq_true rfl) ?_
  refine cx_sr ?_
  simp only [go_sem]
  repeat first | (with_reducible refine side_d ?_ ?_; exact byD) | (with_reducible refine side_q ?_ ?_; exact byQ)
  refine cx_sr ?_
  simp only [go_sem]
  repeat first | (with_reducible refine side_d ?_ ?_; exact byD) | (with_reducible refine side_q ?_ ?_; exact byQ)
  intro t9 e9
  repeat first | (with_reducible refine side_d ?_ ?_; exact byD) | (with_reducible refine side_q ?_ ?_; exact byQ)
  intro t16 e16
  repeat first | (with_reducible refine side_d ?_ ?_; exact byD) | (with_reducible refine side_q ?_ ?_; exact byQ)
  intro t17 e17
  rw [bsel_and] at e17
  repeat first | (with_reducible refine side_d ?_ ?_; exact byD) | (with_reducible refine side_q ?_ ?_; exact byQ)
  subst e9 e16 e17
  refine cx_ret ?_
  simp only [go_sem]
  refine finw_bool ?_
  simp [hasPre]
theorem HasPre_c (s p : Str) (hs : s.length < 4611686018427387904) : Meets Tryd.prog 49 [.str s, .str p] (.bool (hasPre s p)) [] := by
  refine meets_x (fn := Tryd.f49) Tryd.func49 rfl fb49 (by kernel_rfl) (Nat.le_of_ble_eq_true rfl) ?_
  refine cx_sr ?_
  simp only [go_sem]
  repeat first | (with_reducible refine side_d ?_ ?_; exact byD) | (with_reducible refine side_q ?_ ?_; exact byQ)
  refine cx_sr ?_
  simp only [go_sem]
  repeat first | (with_reducible refine side_d ?_ ?_; exact byD) | (with_reducible refine side_q ?_ ?_; exact byQ)
  refine cw_m (HasPre0_c s p hs) byW byT ?_
  simp only [go_sem]
  repeat first | (with_reducible refine side_d ?_ ?_; exact byD) | (with_reducible refine side_q ?_ ?_; exact byQ)
  refine cx_ret ?_
  simp only [go_sem]
  exact finw_bool rfl
def isIn (a b : Str) : Bool := decide (a = b) || hasPre a (b ++ [47])
theorem In_c (a b : Str) (hs : a.length < 4611686018427387904) (hb : b.length < 4611686018427387904) : Meets Tryd.prog 39 [.str a, .str b] (.bool (isIn a b)) [] := by
  refine meets_x (fn := Tryd.f39) Tryd.func39 rfl fb39 (by kernel_rfl) (Nat.le_of_ble_eq_true rfl) ?_
  refine cx_sr ?_
  simp only [go_sem]
  repeat first | (with_reducible refine side_d ?_ ?_; exact byD) | (with_reducible refine side_q ?_ ?_; exact byQ)
  refine cx_sr ?_
  simp only [go_sem]
  repeat first | (with_reducible refine side_d ?_ ?_; exact byD) | (with_reducible refine side_q ?_ ?_; exact byQ)
  intro t7 e7
  repeat ((with_reducible first | refine side_d ?_ ?_ | refine side_q ?_ ?_); focus (first | exact byD | exact byQ | ((refine Sd.mk ?_; simp; omega))))
  repeat first | (with_reducible refine side_d ?_ ?_; exact byD) | (with_reducible refine side_q ?_ ?_; exact byQ)
  refine ⟨_, fun hp => cw_m (HasPre_c _ _ hs) byW byT ⟨rfl, rfl⟩, ?_⟩
  simp only [go_sem]
  repeat first | (with_reducible refine side_d ?_ ?_; exact byD) | (with_reducible refine side_q ?_ ?_; exact byQ)
  intro t13 e13
  rw [bsel_or] at e13
  repeat first | (with_reducible refine side_d ?_ ?_; exact byD) | (with_reducible refine side_q ?_ ?_; exact byQ)
  subst e7 e13
  refine cx_ret ?_
  simp only [go_sem]
  refine finw_bool ?_
  simp [isIn]
theorem Check_c (s : Str) (hs : s.length < 4611686018427387904) : Meets Tryd.prog 16 [.str s] (.int .i64 (checkP [s])) [] := by
  refine meets_x (fn := Tryd.f16) Tryd.func16 rfl fb16 (by kernel_rfl) (Nat.le_of_ble_eq_true rfl) ?_
  refine cx_sr ?_
  simp only [go_sem]
  repeat first | (with_reducible refine side_d ?_ ?_; exact byD) | (with_reducible refine side_q ?_ ?_; exact byQ)
  refine cx_sr ?_
  simp only [go_sem]
  repeat first | (with_reducible refine side_d ?_ ?_; exact byD) | (with_reducible refine side_q ?_ ?_; exact byQ)
  refine cw_v 2 (check_c [s] (by simp) (by simpa using hs)) byV byC rfl ?_
  simp only [go_sem]
  repeat first | (with_reducible refine side_d ?_ ?_; exact byD) | (with_reducible refine side_q ?_ ?_; exact byQ)
  refine cx_ret ?_
  simp only [go_sem]
  exact finw_int rfl
end Go.VM.Tryd
end
section
set_option linter.unusedVariables false
set_option linter.unusedSimpArgs false
open Go Go.VM Go.Proofs Tether
namespace Go.VM.Tryd
set_option maxRecDepth 100000
abbrev lix (s : Str) (c : Int) : Int := lixN s c s.length
theorem lixN_le (s : Str) (c : Int) : ∀ n, -1 ≤ lixN s c n ∧ lixN s c n < n
  | 0 => by simp [lixN]
  | n + 1 => by
    have := lixN_le s c n
    simp only [lixN]
    split <;> omega
def headOf (s : Str) : Str := s.take (lix s 47).toNat
def tailOf (s : Str) : Str := s.drop (lix s 47 + 1).toNat
theorem Split_c (s : Str) (hs : s.length < 4611686018427387904) : Meets Tryd.prog 32 [.str s] (.tup [.str (headOf s), .str (tailOf s)]) [] := by
  refine meets_x (fn := Tryd.f32) Tryd.func32 rfl fb32 (by kernel_rfl) (Nat.le_of_ble_eq_true rfl) ?_
  have hlx := lixN_le s 47 s.length
  refine cx_sr ?_
  simp only [go_sem]
  repeat first | (with_reducible refine side_d ?_ ?_; exact byD) | (with_reducible refine side_q ?_ ?_; exact byQ)
  refine cx_sr ?_
  simp only [go_sem]
  repeat first | (with_reducible refine side_d ?_ ?_; exact byD) | (with_reducible refine side_q ?_ ?_; exact byQ)
  refine cw_m (LastIx_c s 47 hs) byW byT ?_
  simp only [go_sem]
  repeat first | (with_reducible refine side_d ?_ ?_; exact byD) | (with_reducible refine side_q ?_ ?_; exact byQ)
  refine cx_seq (cx_draw mixed [2, 3, 6, 7] (.first 0 (.first 1 (.first 4 (.first 5 (.alt 2 (.alt 3 (.first 8 (.one 6 (.one 7 (.first 9 (.done))))) (.one 6 (.alt 3 (.first 8 (.one 7 (.first 9 (.done)))) (.one 7 (.one 3 (.first 8 (.first 9 (.done)))))))) (.one 6 (.alt 2 (.alt 3 (.first 8 (.one 7 (.first 9 (.done)))) (.one 7 (.one 3 (.first 8 (.first 9 (.done)))))) (.one 7 (.one 2 (.one 3 (.first 8 (.first 9 (.done))))))))))))) (by kernel_rfl) ?_)
  simp only [go_sem]
  repeat first | (with_reducible refine side_d ?_ ?_; exact byD) | (with_reducible refine side_q ?_ ?_; exact byQ)
  refine ⟨?_, ?_⟩
  ·
    repeat first | (with_reducible refine side_d ?_ ?_; exact byD) | (with_reducible refine side_q ?_ ?_; exact byQ)
    refine ⟨?_, ?_⟩
    ·
      repeat first | (with_reducible refine side_d ?_ ?_; exact byD) | (with_reducible refine side_q ?_ ?_; exact byQ)
      intro t13 e13
      (try replace e13 := w64 e13 (by omega) (by omega))
      repeat first | (with_reducible refine side_d ?_ ?_; exact byD) | (with_reducible refine side_q ?_ ?_; exact byQ)
      refine cx_ret ?_
      simp only [go_sem]
      refine finw_flat rfl ?_
      have h1 : (if lixN s 47 s.length > 0 then lixN s 47 s.length else 0).toNat = (lixN s 47 s.length).toNat := by split <;> omega
      subst e13
      rw [h1]
      exact wk_refl _
    ·
      repeat first | (with_reducible refine side_d ?_ ?_; exact byD) | (with_reducible refine side_q ?_ ?_; exact byQ)
      intro t13 e13
      (try replace e13 := w64 e13 (by omega) (by omega))
      repeat first | (with_reducible refine side_d ?_ ?_; exact byD) | (with_reducible refine side_q ?_ ?_; exact byQ)
      refine ⟨?_, ?_⟩
      ·
        repeat first | (with_reducible refine side_d ?_ ?_; exact byD) | (with_reducible refine side_q ?_ ?_; exact byQ)
        refine cx_ret ?_
        simp only [go_sem]
        refine finw_flat rfl ?_
        have h1 : (if lixN s 47 s.length > 0 then lixN s 47 s.length else 0).toNat = (lixN s 47 s.length).toNat := by split <;> omega
        subst e13
        rw [h1]
        exact wk_refl _
      ·
        repeat first | (with_reducible refine side_d ?_ ?_; exact byD) | (with_reducible refine side_q ?_ ?_; exact byQ)
        refine cx_ret ?_
        simp only [go_sem]
        refine finw_flat rfl ?_
        have h1 : (if lixN s 47 s.length > 0 then lixN s 47 s.length else 0).toNat = (lixN s 47 s.length).toNat := by split <;> omega
        subst e13
        rw [h1]
        exact wk_refl _
  ·
    repeat first | (with_reducible refine side_d ?_ ?_; exact byD) | (with_reducible refine side_q ?_ ?_; exact byQ)
    intro t13 e13
    (try replace e13 := w64 e13 (by omega) (by omega))
    repeat first | (with_reducible refine side_d ?_ ?_; exact byD) | (with_reducible refine side_q ?_ ?_; exact byQ)
    refine ⟨?_, ?_⟩
    ·
      repeat first | (with_reducible refine side_d ?_ ?_; exact byD) | (with_reducible refine side_q ?_ ?_; exact byQ)
      refine ⟨?_, ?_⟩
      ·
        repeat first | (with_reducible refine side_d ?_ ?_; exact byD) | (with_reducible refine side_q ?_ ?_; exact byQ)
        refine cx_ret ?_
        simp only [go_sem]
        refine finw_flat rfl ?_
        have h1 : (if lixN s 47 s.length > 0 then lixN s 47 s.length else 0).toNat = (lixN s 47 s.length).toNat := by split <;> omega
        subst e13
        rw [h1]
        exact wk_refl _
      ·
        repeat first | (with_reducible refine side_d ?_ ?_; exact byD) | (with_reducible refine side_q ?_ ?_; exact byQ)
        refine cx_ret ?_
        simp only [go_sem]
        refine finw_flat rfl ?_
        have h1 : (if lixN s 47 s.length > 0 then lixN s 47 s.length else 0).toNat = (lixN s 47 s.length).toNat := by split <;> omega
        subst e13
        rw [h1]
        exact wk_refl _
    ·
      repeat first | (with_reducible refine side_d ?_ ?_; exact byD) | (with_reducible refine side_q ?_ ?_; exact byQ)
      refine cx_ret ?_
      simp only [go_sem]
      refine finw_flat rfl ?_
      have h1 : (if lixN s 47 s.length > 0 then lixN s 47 s.length else 0).toNat = (lixN s 47 s.length).toNat := by split <;> omega
      subst e13
      rw [h1]
      exact wk_refl _
def parentP (s : Str) : Str := if checkP [s] = 0 then headOf s else []
def nameP (s : Str) : Str := if checkP [s] = 0 then tailOf s else []
theorem Parent_c (s : Str) (hs : s.length < 4611686018427387904) : Meets Tryd.prog 17 [.str s] (.tup [.str (parentP s), .int .i64 (checkP [s])]) [] := by
  refine meets_x (fn := Tryd.f17) Tryd.func17 rfl fb17 (by kernel_rfl) (Nat.le_of_ble_eq_true rfl) ?_
  refine cx_sr ?_
  simp only [go_sem]
  repeat first | (with_reducible refine side_d ?_ ?_; exact byD) | (with_reducible refine side_q ?_ ?_; exact byQ)
  refine cx_sr ?_
  simp only [go_sem]
  repeat first | (with_reducible refine side_d ?_ ?_; exact byD) | (with_reducible refine side_q ?_ ?_; exact byQ)
  refine cw_v 2 (check_c [s] (by simp) (by simpa using hs)) byV byC rfl ?_
  simp only [go_sem]
  repeat first | (with_reducible refine side_d ?_ ?_; exact byD) | (with_reducible refine side_q ?_ ?_; exact byQ)
  refine cx_seq ?_
  refine cx_sr ?_
  simp only [go_sem]
  repeat first | (with_reducible refine side_d ?_ ?_; exact byD) | (with_reducible refine side_q ?_ ?_; exact byQ)
  intro t11 e11
  repeat first | (with_reducible refine side_d ?_ ?_; exact byD) | (with_reducible refine side_q ?_ ?_; exact byQ)
  subst e11
  refine cx_if _ rfl (fun h11 => ?_) (fun h11 => ?_)
  ·
    (try simp only [go_sem] at h11)
    refine cx_sr ?_
    simp only [go_sem]
    repeat first | (with_reducible refine side_d ?_ ?_; exact byD) | (with_reducible refine side_q ?_ ?_; exact byQ)
    refine cx_ret ?_
    simp only [go_sem]
    refine finw_flat rfl ?_
    rw [parentP, if_neg (by simpa using h11)]
    exact wk_refl _
  ·
    (try simp only [go_sem] at h11)
    refine cx_skip ?_
    (try simp only [go_sem])
    refine cx_sr ?_
    simp only [go_sem]
    repeat first | (with_reducible refine side_d ?_ ?_; exact byD) | (with_reducible refine side_q ?_ ?_; exact byQ)
    refine cw_m (Split_c s hs) byW byT ?_
    simp only [go_sem]
    repeat first | (with_reducible refine side_d ?_ ?_; exact byD) | (with_reducible refine side_q ?_ ?_; exact byQ)
    refine cx_sr ?_
    simp only [go_sem]
    repeat first | (with_reducible refine side_d ?_ ?_; exact byD) | (with_reducible refine side_q ?_ ?_; exact byQ)
    refine cx_ret ?_
    simp only [go_sem]
    have h : checkP [s] = 0 := by simpa using h11
    refine finw_flat rfl ?_
    rw [parentP, if_pos h, h]
    exact wk_refl _
theorem Name_c (s : Str) (hs : s.length < 4611686018427387904) : Meets Tryd.prog 18 [.str s] (.tup [.str (nameP s), .int .i64 (checkP [s])]) [] := by
  refine meets_x (fn := Tryd.f18) Tryd.func18 rfl fb18 (by kernel_rfl) (Nat.le_of_ble_eq_true rfl) ?_
  refine cx_sr ?_
  simp only [go_sem]
  repeat first | (with_reducible refine side_d ?_ ?_; exact byD) | (with_reducible refine side_q ?_ ?_; exact byQ)
  refine cx_sr ?_
  simp only [go_sem]
  repeat first | (with_reducible refine side_d ?_ ?_; exact byD) | (with_reducible refine side_q ?_ ?_; exact byQ)
  refine cw_v 2 (check_c [s] (by simp) (by simpa using hs)) byV byC rfl ?_
  simp only [go_sem]
  repeat first | (with_reducible refine side_d ?_ ?_; exact byD) | (with_reducible refine side_q ?_ ?_; exact byQ)
  refine cx_seq ?_
  refine cx_sr ?_
  simp only [go_sem]
  repeat first | (with_reducible refine side_d ?_ ?_; exact byD) | (with_reducible refine side_q ?_ ?_; exact byQ)
  intro t11 e11
  repeat first | (with_reducible refine side_d ?_ ?_; exact byD) | (with_reducible refine side_q ?_ ?_; exact byQ)
  subst e11
  refine cx_if _ rfl (fun h11 => ?_) (fun h11 => ?_)
  ·
    (try simp only [go_sem] at h11)
    refine cx_sr ?_
    simp only [go_sem]
    repeat first | (with_reducible refine side_d ?_ ?_; exact byD) | (with_reducible refine side_q ?_ ?_; exact byQ)
    refine cx_ret ?_
    simp only [go_sem]
    refine finw_flat rfl ?_
    rw [nameP, if_neg (by simpa using h11)]
    exact wk_refl _
  ·
    (try simp only [go_sem] at h11)
    refine cx_skip ?_
    (try simp only [go_sem])
    refine cx_sr ?_
    simp only [go_sem]
    repeat first | (with_reducible refine side_d ?_ ?_; exact byD) | (with_reducible refine side_q ?_ ?_; exact byQ)
    refine cw_m (Split_c s hs) byW byT ?_
    simp only [go_sem]
    repeat first | (with_reducible refine side_d ?_ ?_; exact byD) | (with_reducible refine side_q ?_ ?_; exact byQ)
    refine cx_sr ?_
    simp only [go_sem]
    repeat first | (with_reducible refine side_d ?_ ?_; exact byD) | (with_reducible refine side_q ?_ ?_; exact byQ)
    refine cx_ret ?_
    simp only [go_sem]
    have h : checkP [s] = 0 := by simpa using h11
    refine finw_flat rfl ?_
    rw [nameP, if_pos h, h]
    exact wk_refl _
def withinP (a b : Str) : Bool := decide (checkP [a, b] = 0) && isIn a b
theorem Within_c (a b : Str) (ha : a.length < 4611686018427387904) (hb : b.length < 4611686018427387904) : Meets Tryd.prog 21 [.str a, .str b] (.tup [.bool (withinP a b), .int .i64 (checkP [a, b])]) [] := by
  refine meets_x (fn := Tryd.f21) Tryd.func21 rfl fb21 (by kernel_rfl) (Nat.le_of_ble_eq_true rfl) ?_
  refine cx_sr ?_
  simp only [go_sem]
  repeat first | (with_reducible refine side_d ?_ ?_; exact byD) | (with_reducible refine side_q ?_ ?_; exact byQ)
  refine cx_seq ?_
  refine cx_sr ?_
  simp only [go_sem]
  repeat first | (with_reducible refine side_d ?_ ?_; exact byD) | (with_reducible refine side_q ?_ ?_; exact byQ)
  refine cw_v 2 (check_c [a, b] (by simp) (by simp; exact ⟨ha, hb⟩)) byV byC rfl ?_
  simp only [go_sem]
  repeat first | (with_reducible refine side_d ?_ ?_; exact byD) | (with_reducible refine side_q ?_ ?_; exact byQ)
  refine cx_sr ?_
  simp only [go_sem]
  repeat first | (with_reducible refine side_d ?_ ?_; exact byD) | (with_reducible refine side_q ?_ ?_; exact byQ)
  intro t12 e12
  repeat first | (with_reducible refine side_d ?_ ?_; exact byD) | (with_reducible refine side_q ?_ ?_; exact byQ)
  subst e12
  refine cx_if _ rfl (fun h12 => ?_) (fun h12 => ?_)
  ·
    (try simp only [go_sem] at h12)
    refine cx_sr ?_
    simp only [go_sem]
    repeat first | (with_reducible refine side_d ?_ ?_; exact byD) | (with_reducible refine side_q ?_ ?_; exact byQ)
    refine cx_ret ?_
    simp only [go_sem]
    have h : ¬ checkP [a, b] = 0 := by simpa using h12
    refine finw_flat rfl ?_
    simp only [withinP, h, decide_false, Bool.false_and]
    exact wk_refl _
  ·
    (try simp only [go_sem] at h12)
    refine cx_skip ?_
    (try simp only [go_sem])
    refine cx_sr ?_
    simp only [go_sem]
    repeat first | (with_reducible refine side_d ?_ ?_; exact byD) | (with_reducible refine side_q ?_ ?_; exact byQ)
    refine cw_m (In_c a b ha hb) byW byT ?_
    simp only [go_sem]
    repeat first | (with_reducible refine side_d ?_ ?_; exact byD) | (with_reducible refine side_q ?_ ?_; exact byQ)
    refine cx_ret ?_
    simp only [go_sem]
    have h : checkP [a, b] = 0 := by simpa using h12
    refine finw_flat rfl ?_
    simp only [withinP, h, decide_true, Bool.true_and]
    exact wk_refl _
def joinP (a b : Str) : Str × Int :=
  if a ≠ [] ∧ checkP [a] ≠ 0 then ([], checkP [a])
  else if isName b = false then ([], 1)
  else if greatB (if a = [] then b else a ++ 47 :: b) then ([], 2)
  else (if a = [] then b else a ++ 47 :: b, 0)
theorem Join_c (a b : Str) (ha : a.length + b.length < 4611686018427387904) : Meets Tryd.prog 24 [.str a, .str b] (.tup [.str (joinP a b).1, .int .i64 (joinP a b).2]) [] := by
  refine meets_x (fn := Tryd.f24) Tryd.func24 rfl fb24 (by kernel_rfl) (Nat.le_of_ble_eq_true rfl) ?_
  refine cx_sr ?_
  simp only [go_sem]
  repeat first | (with_reducible refine side_d ?_ ?_; exact byD) | (with_reducible refine side_q ?_ ?_; exact byQ)
  refine cx_seq ?_
  refine cx_sr ?_
  simp only [go_sem]
  repeat first | (with_reducible refine side_d ?_ ?_; exact byD) | (with_reducible refine side_q ?_ ?_; exact byQ)
  intro t9 e9
  repeat first | (with_reducible refine side_d ?_ ?_; exact byD) | (with_reducible refine side_q ?_ ?_; exact byQ)
  subst e9
  refine cx_if _ rfl (fun h9 => ?_) (fun h9 => ?_)
  ·
    (try simp only [go_sem] at h9)
    refine cx_sr ?_
    simp only [go_sem]
    repeat first | (with_reducible refine side_d ?_ ?_; exact byD) | (with_reducible refine side_q ?_ ?_; exact byQ)
    refine cw_v 2 (check_c [a] (by simp) (by simp; omega)) byV byC rfl ?_
    simp only [go_sem]
    repeat first | (with_reducible refine side_d ?_ ?_; exact byD) | (with_reducible refine side_q ?_ ?_; exact byQ)
    refine cx_sr ?_
    simp only [go_sem]
    repeat first | (with_reducible refine side_d ?_ ?_; exact byD) | (with_reducible refine side_q ?_ ?_; exact byQ)
    intro t14 e14
    repeat first | (with_reducible refine side_d ?_ ?_; exact byD) | (with_reducible refine side_q ?_ ?_; exact byQ)
    subst e14
    refine cx_if _ rfl (fun h14 => ?_) (fun h14 => ?_)
    ·
      (try simp only [go_sem] at h14)
      refine cx_sr ?_
      simp only [go_sem]
      repeat first | (with_reducible refine side_d ?_ ?_; exact byD) | (with_reducible refine side_q ?_ ?_; exact byQ)
      refine cx_ret ?_
      simp only [go_sem]
      refine finw_flat rfl ?_
      have : True := trivial
      unfold joinP
      simp_all [wk]
      exact wks_refl _
    ·
      (try simp only [go_sem] at h14)
      refine cx_skip ?_
      (try simp only [go_sem])
      refine cx_seq ?_
      refine cx_sr ?_
      simp only [go_sem]
      repeat first | (with_reducible refine side_d ?_ ?_; exact byD) | (with_reducible refine side_q ?_ ?_; exact byQ)
      refine cw_m (IsName_c b (by omega)) byW byT ?_
      simp only [go_sem]
      repeat first | (with_reducible refine side_d ?_ ?_; exact byD) | (with_reducible refine side_q ?_ ?_; exact byQ)
      intro t18 e18
      repeat first | (with_reducible refine side_d ?_ ?_; exact byD) | (with_reducible refine side_q ?_ ?_; exact byQ)
      subst e18
      refine cx_if _ rfl (fun h18 => ?_) (fun h18 => ?_)
      ·
        (try simp only [go_sem] at h18)
        refine cx_sr ?_
        simp only [go_sem]
        repeat first | (with_reducible refine side_d ?_ ?_; exact byD) | (with_reducible refine side_q ?_ ?_; exact byQ)
        refine cx_ret ?_
        simp only [go_sem]
        refine finw_flat rfl ?_
        have : True := trivial
        unfold joinP
        simp_all [wk]
        exact wks_refl _
      ·
        (try simp only [go_sem] at h18)
        refine cx_skip ?_
        (try simp only [go_sem])
        refine cx_sr ?_
        simp only [go_sem]
        repeat first | (with_reducible refine side_d ?_ ?_; exact byD) | (with_reducible refine side_q ?_ ?_; exact byQ)
        refine cw_m (joined_c a b ha) byW byT ?_
        simp only [go_sem]
        repeat first | (with_reducible refine side_d ?_ ?_; exact byD) | (with_reducible refine side_q ?_ ?_; exact byQ)
        refine cx_seq ?_
        refine cx_sr ?_
        simp only [go_sem]
        repeat first | (with_reducible refine side_d ?_ ?_; exact byD) | (with_reducible refine side_q ?_ ?_; exact byQ)
        refine cw_m (great _) byW byT ?_
        simp only [go_sem]
        repeat first | (with_reducible refine side_d ?_ ?_; exact byD) | (with_reducible refine side_q ?_ ?_; exact byQ)
        refine cx_if _ rfl (fun h23 => ?_) (fun h23 => ?_)
        ·
          (try simp only [go_sem] at h23)
          refine cx_sr ?_
          simp only [go_sem]
          repeat first | (with_reducible refine side_d ?_ ?_; exact byD) | (with_reducible refine side_q ?_ ?_; exact byQ)
          refine cx_ret ?_
          simp only [go_sem]
          refine finw_flat rfl ?_
          have : True := trivial
          unfold joinP
          simp_all [wk]
          exact wks_refl _
        ·
          (try simp only [go_sem] at h23)
          refine cx_skip ?_
          (try simp only [go_sem])
          refine cx_sr ?_
          simp only [go_sem]
          repeat first | (with_reducible refine side_d ?_ ?_; exact byD) | (with_reducible refine side_q ?_ ?_; exact byQ)
          refine cx_ret ?_
          simp only [go_sem]
          refine finw_flat rfl ?_
          have : True := trivial
          unfold joinP
          simp_all [wk]
          exact wks_refl _
  ·
    (try simp only [go_sem] at h9)
    refine cx_skip ?_
    (try simp only [go_sem])
    refine cx_seq ?_
    refine cx_sr ?_
    simp only [go_sem]
    repeat first | (with_reducible refine side_d ?_ ?_; exact byD) | (with_reducible refine side_q ?_ ?_; exact byQ)
    refine cw_m (IsName_c b (by omega)) byW byT ?_
    simp only [go_sem]
    repeat first | (with_reducible refine side_d ?_ ?_; exact byD) | (with_reducible refine side_q ?_ ?_; exact byQ)
    intro t18 e18
    repeat first | (with_reducible refine side_d ?_ ?_; exact byD) | (with_reducible refine side_q ?_ ?_; exact byQ)
    subst e18
    refine cx_if _ rfl (fun h18 => ?_) (fun h18 => ?_)
    ·
      (try simp only [go_sem] at h18)
      refine cx_sr ?_
      simp only [go_sem]
      repeat first | (with_reducible refine side_d ?_ ?_; exact byD) | (with_reducible refine side_q ?_ ?_; exact byQ)
      refine cx_ret ?_
      simp only [go_sem]
      refine finw_flat rfl ?_
      have : True := trivial
      unfold joinP
      simp_all [wk]
      exact wks_refl _
    ·
      (try simp only [go_sem] at h18)
      refine cx_skip ?_
      (try simp only [go_sem])
      refine cx_sr ?_
      simp only [go_sem]
      repeat first | (with_reducible refine side_d ?_ ?_; exact byD) | (with_reducible refine side_q ?_ ?_; exact byQ)
      refine cw_m (joined_c a b ha) byW byT ?_
      simp only [go_sem]
      repeat first | (with_reducible refine side_d ?_ ?_; exact byD) | (with_reducible refine side_q ?_ ?_; exact byQ)
      refine cx_seq ?_
      refine cx_sr ?_
      simp only [go_sem]
      repeat first | (with_reducible refine side_d ?_ ?_; exact byD) | (with_reducible refine side_q ?_ ?_; exact byQ)
      refine cw_m (great _) byW byT ?_
      simp only [go_sem]
      repeat first | (with_reducible refine side_d ?_ ?_; exact byD) | (with_reducible refine side_q ?_ ?_; exact byQ)
      refine cx_if _ rfl (fun h23 => ?_) (fun h23 => ?_)
      ·
        (try simp only [go_sem] at h23)
        refine cx_sr ?_
        simp only [go_sem]
        repeat first | (with_reducible refine side_d ?_ ?_; exact byD) | (with_reducible refine side_q ?_ ?_; exact byQ)
        refine cx_ret ?_
        simp only [go_sem]
        refine finw_flat rfl ?_
        have : True := trivial
        unfold joinP
        simp_all [wk]
        exact wks_refl _
      ·
        (try simp only [go_sem] at h23)
        refine cx_skip ?_
        (try simp only [go_sem])
        refine cx_sr ?_
        simp only [go_sem]
        repeat first | (with_reducible refine side_d ?_ ?_; exact byD) | (with_reducible refine side_q ?_ ?_; exact byQ)
        refine cx_ret ?_
        simp only [go_sem]
        refine finw_flat rfl ?_
        have : True := trivial
        unfold joinP
        simp_all [wk]
        exact wks_refl _
def movedP (s f t : Str) : Str × Int :=
  if checkP [s, f, t] ≠ 0 then ([], checkP [s, f, t])
  else if isIn s f = false then ([], 5)
  else if greatB (t ++ s.drop f.length) then ([], 2)
  else (t ++ s.drop f.length, 0)
theorem isIn_len {a b : Str} (h : isIn a b = true) : b.length ≤ a.length := by
  simp only [isIn, hasPre, Bool.or_eq_true, decide_eq_true_eq, Bool.and_eq_true] at h
  rcases h with rfl | ⟨h, _⟩
  · exact Nat.le_refl _
  · simp at h; omega
theorem Moved_c (s f t : Str) (hs : s.length + t.length < 4611686018427387904) (hf : f.length < 4611686018427387904) : Meets Tryd.prog 28 [.str s, .str f, .str t] (.tup [.str (movedP s f t).1, .int .i64 (movedP s f t).2]) [] := by
  refine meets_x (fn := Tryd.f28) Tryd.func28 rfl fb28 (by kernel_rfl) (Nat.le_of_ble_eq_true rfl) ?_
  refine cx_sr ?_
  simp only [go_sem]
  repeat first | (with_reducible refine side_d ?_ ?_; exact byD) | (with_reducible refine side_q ?_ ?_; exact byQ)
  refine cx_seq ?_
  refine cx_sr ?_
  simp only [go_sem]
  repeat first | (with_reducible refine side_d ?_ ?_; exact byD) | (with_reducible refine side_q ?_ ?_; exact byQ)
  refine cw_v 2 (check_c [s, f, t] (by simp) (by simp; omega)) byV byC rfl ?_
  simp only [go_sem]
  repeat first | (with_reducible refine side_d ?_ ?_; exact byD) | (with_reducible refine side_q ?_ ?_; exact byQ)
  refine cx_sr ?_
  simp only [go_sem]
  repeat first | (with_reducible refine side_d ?_ ?_; exact byD) | (with_reducible refine side_q ?_ ?_; exact byQ)
  intro t16 e16
  repeat first | (with_reducible refine side_d ?_ ?_; exact byD) | (with_reducible refine side_q ?_ ?_; exact byQ)
  subst e16
  refine cx_if _ rfl (fun h16 => ?_) (fun h16 => ?_)
  ·
    (try simp only [go_sem] at h16)
    refine cx_sr ?_
    simp only [go_sem]
    repeat first | (with_reducible refine side_d ?_ ?_; exact byD) | (with_reducible refine side_q ?_ ?_; exact byQ)
    refine cx_ret ?_
    simp only [go_sem]
    refine finw_flat rfl ?_
    unfold movedP
    simp_all [wk]
    exact wks_refl _
  ·
    (try simp only [go_sem] at h16)
    refine cx_skip ?_
    (try simp only [go_sem])
    refine cx_seq ?_
    refine cx_sr ?_
    simp only [go_sem]
    repeat first | (with_reducible refine side_d ?_ ?_; exact byD) | (with_reducible refine side_q ?_ ?_; exact byQ)
    refine cw_m (In_c s f (by omega) hf) byW byT ?_
    simp only [go_sem]
    repeat first | (with_reducible refine side_d ?_ ?_; exact byD) | (with_reducible refine side_q ?_ ?_; exact byQ)
    intro t21 e21
    repeat first | (with_reducible refine side_d ?_ ?_; exact byD) | (with_reducible refine side_q ?_ ?_; exact byQ)
    subst e21
    refine cx_if _ rfl (fun h21 => ?_) (fun h21 => ?_)
    ·
      (try simp only [go_sem] at h21)
      refine cx_sr ?_
      simp only [go_sem]
      repeat first | (with_reducible refine side_d ?_ ?_; exact byD) | (with_reducible refine side_q ?_ ?_; exact byQ)
      refine cx_ret ?_
      simp only [go_sem]
      refine finw_flat rfl ?_
      unfold movedP
      simp_all [wk]
      exact wks_refl _
    ·
      (try simp only [go_sem] at h21)
      have hin : isIn s f = true := by simpa using h21
      have hfl := isIn_len hin
      refine cx_skip ?_
      (try simp only [go_sem])
      refine cx_sr ?_
      simp only [go_sem]
      repeat ((with_reducible first | refine side_d ?_ ?_ | refine side_q ?_ ?_); focus (first | exact byD | exact byQ | ((refine Sd.mk ?_; simp; omega))))
      repeat first | (with_reducible refine side_d ?_ ?_; exact byD) | (with_reducible refine side_q ?_ ?_; exact byQ)
      refine cx_seq ?_
      refine cx_sr ?_
      simp only [go_sem]
      repeat first | (with_reducible refine side_d ?_ ?_; exact byD) | (with_reducible refine side_q ?_ ?_; exact byQ)
      refine cw_m (great _) byW byT ?_
      simp only [go_sem]
      repeat first | (with_reducible refine side_d ?_ ?_; exact byD) | (with_reducible refine side_q ?_ ?_; exact byQ)
      refine cx_if _ rfl (fun h29 => ?_) (fun h29 => ?_)
      ·
        (try simp only [go_sem] at h29)
        refine cx_sr ?_
        simp only [go_sem]
        repeat first | (with_reducible refine side_d ?_ ?_; exact byD) | (with_reducible refine side_q ?_ ?_; exact byQ)
        refine cx_ret ?_
        simp only [go_sem]
        refine finw_flat rfl ?_
        unfold movedP
        simp_all [wk]
        exact wks_refl _
      ·
        (try simp only [go_sem] at h29)
        refine cx_skip ?_
        (try simp only [go_sem])
        refine cx_sr ?_
        simp only [go_sem]
        repeat first | (with_reducible refine side_d ?_ ?_; exact byD) | (with_reducible refine side_q ?_ ?_; exact byQ)
        refine cx_ret ?_
        simp only [go_sem]
        refine finw_flat rfl ?_
        unfold movedP
        simp_all [wk]
        exact wks_refl _
end Go.VM.Tryd
end
section
set_option linter.unusedVariables false
set_option linter.unusedSimpArgs false
open Go Go.VM Go.Proofs Tether
namespace Go.VM.Tryd
set_option maxRecDepth 100000
theorem Joined_c (a b : Str) (h : a.length + b.length < 4611686018427387904) : Meets Tryd.prog 26 [.str a, .str b] (.str (if a = [] then b else a ++ 47 :: b)) [] := by
  refine meets_x (fn := Tryd.f26) Tryd.func26 rfl fb26 (by kernel_rfl) (Nat.le_of_ble_eq_true rfl) ?_
  refine cx_sr ?_
  simp only [go_sem]
  repeat first | (with_reducible refine side_d ?_ ?_; exact byD) | (with_reducible refine side_q ?_ ?_; exact byQ)
  refine cx_seq ?_
  refine cx_sr ?_
  simp only [go_sem]
  repeat first | (with_reducible refine side_d ?_ ?_; exact byD) | (with_reducible refine side_q ?_ ?_; exact byQ)
  intro t6 e6
  repeat first | (with_reducible refine side_d ?_ ?_; exact byD) | (with_reducible refine side_q ?_ ?_; exact byQ)
  subst e6
  refine cx_if _ rfl (fun h6 => ?_) (fun h6 => ?_)
  ·
    (try simp only [go_sem] at h6)
    refine cx_sr ?_
    simp only [go_sem]
    repeat first | (with_reducible refine side_d ?_ ?_; exact byD) | (with_reducible refine side_q ?_ ?_; exact byQ)
    refine cx_ret ?_
    simp only [go_sem]
    exact finw_str (by simp_all)
  ·
    (try simp only [go_sem] at h6)
    refine cx_skip ?_
    (try simp only [go_sem])
    refine cx_sr ?_
    simp only [go_sem]
    repeat ((with_reducible first | refine side_d ?_ ?_ | refine side_q ?_ ?_); focus (first | exact byD | exact byQ | ((refine Sd.mk ?_; simp; omega))))
    repeat ((with_reducible first | refine side_d ?_ ?_ | refine side_q ?_ ?_); focus (first | exact byD | exact byQ | ((refine Sd.mk ?_; simp; omega))))
    repeat first | (with_reducible refine side_d ?_ ?_; exact byD) | (with_reducible refine side_q ?_ ?_; exact byQ)
    refine cx_ret ?_
    simp only [go_sem]
    exact finw_str (by simp_all)
/-- the first of these names with slashes between -/
def pathN (l : List Str) : Nat → Str
  | 0 => []
  | i + 1 => (if i = 0 then pathN l i else pathN l i ++ [47]) ++ l.getD i []
theorem PathOf_c (l : List Str) (hl : l.length < 4611686018427387904) (hb : ∀ i, i ≤ l.length → (pathN l i).length < 4611686018427387904) : Meets Tryd.prog 29 [strsV' l] (.str (pathN l l.length)) [] := by
  refine meets_x (fn := Tryd.f29) Tryd.func29 rfl fb29 (by kernel_rfl) (Nat.le_of_ble_eq_true rfl) ?_
  refine cx_sr ?_
  simp only [go_sem]
  repeat first | (with_reducible refine side_d ?_ ?_; exact byD) | (with_reducible refine side_q ?_ ?_; exact byQ)
  refine cx_sr ?_
  simp only [go_sem]
  repeat first | (with_reducible refine side_d ?_ ?_; exact byD) | (with_reducible refine side_q ?_ ?_; exact byQ)
  refine cx_seq ?_
  refine cx_sr ?_
  simp only [go_sem]
  repeat first | (with_reducible refine side_d ?_ ?_; exact byD) | (with_reducible refine side_q ?_ ?_; exact byQ)
  refine cx_block ?_
  refine cx_loop0 (σ := Nat) (fun i => i ≤ l.length) (fun i => [⟨4, 0, [], .int .i64 (i : Nat)⟩, ⟨3, 0, [], .str (pathN l i)⟩]) [0, 2] (fun i => l.length - i) 0 (by first | trivial | omega | simp) (Nat.zero_le _) byC (fun i hI1 => ?_)
  simp only [go_sem]
  refine cx_seq ?_
  refine cx_sr ?_
  simp only [go_sem]
  repeat first | (with_reducible refine side_d ?_ ?_; exact byD) | (with_reducible refine side_q ?_ ?_; exact byQ)
  intro t8 e8
  repeat first | (with_reducible refine side_d ?_ ?_; exact byD) | (with_reducible refine side_q ?_ ?_; exact byQ)
  subst e8
  refine cx_if _ rfl (fun h8 => ?_) (fun h8 => ?_)
  ·
    (try simp only [go_sem] at h8)
    have hlt : i < l.length := by omega
    have hbb := hb (i + 1) (by omega)
    have hb0 := hb i (by omega)
    refine cx_skip ?_
    (try simp only [go_sem])
    refine cx_seq (cx_block ?_)
    refine cx_seq ?_
    refine cx_sr ?_
    simp only [go_sem]
    repeat first | (with_reducible refine side_d ?_ ?_; exact byD) | (with_reducible refine side_q ?_ ?_; exact byQ)
    intro t12 e12
    repeat first | (with_reducible refine side_d ?_ ?_; exact byD) | (with_reducible refine side_q ?_ ?_; exact byQ)
    subst e12
    refine cx_if _ rfl (fun h12 => ?_) (fun h12 => ?_)
    ·
      (try simp only [go_sem] at h12)
      have he : pathN l (i + 1) = pathN l i ++ [47] ++ l.getD i [] := by simp only [pathN]; rw [if_neg (by omega)]
      rw [he] at hbb
      simp at hbb
      refine cx_region ?_
      simp only [go_sem]
      repeat ((with_reducible first | refine side_d ?_ ?_ | refine side_q ?_ ?_); focus (first | exact byD | exact byQ | ((refine Sd.mk ?_; simp; omega))))
      repeat first | (with_reducible refine side_d ?_ ?_; exact byD) | (with_reducible refine side_q ?_ ?_; exact byQ)
      refine cx_region ?_
      simp only [go_sem]
      repeat ((with_reducible first | refine side_d ?_ ?_ | refine side_q ?_ ?_); focus (first | exact byD | exact byQ | ((refine Sd.mk ?_; simp at *; omega))))
      repeat first | (with_reducible refine side_d ?_ ?_; exact byD) | (with_reducible refine side_q ?_ ?_; exact byQ)
      refine cx_region ?_
      simp only [go_sem]
      repeat first | (with_reducible refine side_d ?_ ?_; exact byD) | (with_reducible refine side_q ?_ ?_; exact byQ)
      intro t10 e10
      (try replace e10 := w64 e10 (by omega) (by omega))
      repeat first | (with_reducible refine side_d ?_ ?_; exact byD) | (with_reducible refine side_q ?_ ?_; exact byQ)
      refine rnd_next (i + 1) (by omega) (by first | omega | (dsimp only; omega)) ?_
      rw [he]
      exact byC
    ·
      (try simp only [go_sem] at h12)
      obtain rfl : i = 0 := by omega
      have he : pathN l (0 + 1) = pathN l 0 ++ l.getD 0 [] := rfl
      rw [he] at hbb
      simp at hbb
      refine cx_skip ?_
      (try simp only [go_sem])
      refine cx_region ?_
      simp only [go_sem]
      repeat ((with_reducible first | refine side_d ?_ ?_ | refine side_q ?_ ?_); focus (first | exact byD | exact byQ | ((refine Sd.mk ?_; simp at *; omega))))
      repeat first | (with_reducible refine side_d ?_ ?_; exact byD) | (with_reducible refine side_q ?_ ?_; exact byQ)
      refine cx_region ?_
      simp only [go_sem]
      repeat first | (with_reducible refine side_d ?_ ?_; exact byD) | (with_reducible refine side_q ?_ ?_; exact byQ)
      intro t10 e10
      (try replace e10 := w64 e10 (by omega) (by omega))
      repeat first | (with_reducible refine side_d ?_ ?_; exact byD) | (with_reducible refine side_q ?_ ?_; exact byQ)
      refine rnd_next (0 + 1) (by omega) (by first | omega | (dsimp only; omega)) ?_
      rw [he]
      exact byC
  ·
    (try simp only [go_sem] at h8)
    refine cx_exit ?_
    simp only [go_sem]
    refine cx_sr ?_
    simp only [go_sem]
    repeat first | (with_reducible refine side_d ?_ ?_; exact byD) | (with_reducible refine side_q ?_ ?_; exact byQ)
    refine cx_ret ?_
    simp only [go_sem]
    refine finw_str ?_
    rw [show i = l.length by omega]
theorem LastOf_c (s : Str) (hs : (s.length + 1) * 16 ≤ 140737488355328) : Meets Tryd.prog 20 [.str s] (.str ((pcs s).getD ((pcs s).length - 1) [])) [] := by
  refine meets_x (fn := Tryd.f20) Tryd.func20 rfl fb20 (by kernel_rfl) (Nat.le_of_ble_eq_true rfl) ?_
  have hpl : (pcs s).length ≤ s.length + 1 := by rw [pcs_cnt]; have := List.count_le_length (a := (47 : UInt8)) (l := s); omega
  have hp0 : 0 < (pcs s).length := by rw [pcs_cnt]; omega
  refine cx_sr ?_
  simp only [go_sem]
  repeat first | (with_reducible refine side_d ?_ ?_; exact byD) | (with_reducible refine side_q ?_ ?_; exact byQ)
  refine cx_sr ?_
  simp only [go_sem]
  repeat first | (with_reducible refine side_d ?_ ?_; exact byD) | (with_reducible refine side_q ?_ ?_; exact byQ)
  refine cw_m (NamesOf_c s hs) byW byT ?_
  simp only [go_sem]
  repeat first | (with_reducible refine side_d ?_ ?_; exact byD) | (with_reducible refine side_q ?_ ?_; exact byQ)
  refine cx_sr ?_
  simp only [go_sem]
  repeat first | (with_reducible refine side_d ?_ ?_; exact byD) | (with_reducible refine side_q ?_ ?_; exact byQ)
  intro t9 e9
  (try replace e9 := w64 e9 (by omega) (by omega))
  repeat first | (with_reducible refine side_d ?_ ?_; exact byD) | (with_reducible refine side_q ?_ ?_; exact byQ)
  refine cx_ret ?_
  simp only [go_sem]
  refine finw_str ?_
  have : (((pcs s).length : Int) - 1).toNat = (pcs s).length - 1 := by omega
  simp_all
end Go.VM.Tryd
end
section
set_option linter.unusedVariables false
set_option linter.unusedSimpArgs false
open Go Go.VM Go.Proofs Tether
namespace Go.VM.Tryd
set_option maxRecDepth 100000
theorem PathOfN_c (l : List Str) (n : Nat) (hn : n ≤ l.length) (hl : l.length < 4611686018427387904) (hb : ∀ i, i ≤ l.length → (pathN l i).length < 4611686018427387904) : Meets Tryd.prog 29 [.lst none .loose 1 n (En strE' [] l)] (.str (pathN l n)) [] := by
  refine meets_x (fn := Tryd.f29) Tryd.func29 rfl fb29 (by kernel_rfl) (Nat.le_of_ble_eq_true rfl) ?_
  refine cx_sr ?_
  simp only [go_sem]
  repeat first | (with_reducible refine side_d ?_ ?_; exact byD) | (with_reducible refine side_q ?_ ?_; exact byQ)
  refine cx_sr ?_
  simp only [go_sem]
  repeat first | (with_reducible refine side_d ?_ ?_; exact byD) | (with_reducible refine side_q ?_ ?_; exact byQ)
  refine cx_seq ?_
  refine cx_sr ?_
  simp only [go_sem]
  repeat first | (with_reducible refine side_d ?_ ?_; exact byD) | (with_reducible refine side_q ?_ ?_; exact byQ)
  refine cx_block ?_
  refine cx_loop0 (σ := Nat) (fun i => i ≤ n) (fun i => [⟨4, 0, [], .int .i64 (i : Nat)⟩, ⟨3, 0, [], .str (pathN l i)⟩]) [0, 2] (fun i => n - i) 0 (by first | trivial | omega | simp) (Nat.zero_le _) byC (fun i hI1 => ?_)
  simp only [go_sem]
  refine cx_seq ?_
  refine cx_sr ?_
  simp only [go_sem]
  repeat first | (with_reducible refine side_d ?_ ?_; exact byD) | (with_reducible refine side_q ?_ ?_; exact byQ)
  intro t8 e8
  repeat first | (with_reducible refine side_d ?_ ?_; exact byD) | (with_reducible refine side_q ?_ ?_; exact byQ)
  subst e8
  refine cx_if _ rfl (fun h8 => ?_) (fun h8 => ?_)
  ·
    (try simp only [go_sem] at h8)
    have hlt : i < n := by omega
    have hbb := hb (i + 1) (by omega)
    have hb0 := hb i (by omega)
    refine cx_skip ?_
    (try simp only [go_sem])
    refine cx_seq (cx_block ?_)
    refine cx_seq ?_
    refine cx_sr ?_
    simp only [go_sem]
    repeat first | (with_reducible refine side_d ?_ ?_; exact byD) | (with_reducible refine side_q ?_ ?_; exact byQ)
    intro t12 e12
    repeat first | (with_reducible refine side_d ?_ ?_; exact byD) | (with_reducible refine side_q ?_ ?_; exact byQ)
    subst e12
    refine cx_if _ rfl (fun h12 => ?_) (fun h12 => ?_)
    ·
      (try simp only [go_sem] at h12)
      have he : pathN l (i + 1) = pathN l i ++ [47] ++ l.getD i [] := by simp only [pathN]; rw [if_neg (by omega)]
      rw [he] at hbb
      simp at hbb
      refine cx_region ?_
      simp only [go_sem]
      repeat ((with_reducible first | refine side_d ?_ ?_ | refine side_q ?_ ?_); focus (first | exact byD | exact byQ | ((refine Sd.mk ?_; simp; omega))))
      repeat first | (with_reducible refine side_d ?_ ?_; exact byD) | (with_reducible refine side_q ?_ ?_; exact byQ)
      refine cx_region ?_
      simp only [go_sem]
      repeat ((with_reducible first | refine side_d ?_ ?_ | refine side_q ?_ ?_); focus (first | exact byD | exact byQ | ((refine Sd.mk ?_; simp at *; omega))))
      repeat first | (with_reducible refine side_d ?_ ?_; exact byD) | (with_reducible refine side_q ?_ ?_; exact byQ)
      refine cx_region ?_
      simp only [go_sem]
      repeat first | (with_reducible refine side_d ?_ ?_; exact byD) | (with_reducible refine side_q ?_ ?_; exact byQ)
      intro t10 e10
      (try replace e10 := w64 e10 (by omega) (by omega))
      repeat first | (with_reducible refine side_d ?_ ?_; exact byD) | (with_reducible refine side_q ?_ ?_; exact byQ)
      refine rnd_next (i + 1) (by omega) (by first | omega | (dsimp only; omega)) ?_
      rw [he]
      exact byC
    ·
      (try simp only [go_sem] at h12)
      obtain rfl : i = 0 := by omega
      have he : pathN l (0 + 1) = pathN l 0 ++ l.getD 0 [] := rfl
      rw [he] at hbb
      simp at hbb
      refine cx_skip ?_
      (try simp only [go_sem])
      refine cx_region ?_
      simp only [go_sem]
      repeat ((with_reducible first | refine side_d ?_ ?_ | refine side_q ?_ ?_); focus (first | exact byD | exact byQ | ((refine Sd.mk ?_; simp at *; omega))))
      repeat first | (with_reducible refine side_d ?_ ?_; exact byD) | (with_reducible refine side_q ?_ ?_; exact byQ)
      refine cx_region ?_
      simp only [go_sem]
      repeat first | (with_reducible refine side_d ?_ ?_; exact byD) | (with_reducible refine side_q ?_ ?_; exact byQ)
      intro t10 e10
      (try replace e10 := w64 e10 (by omega) (by omega))
      repeat first | (with_reducible refine side_d ?_ ?_; exact byD) | (with_reducible refine side_q ?_ ?_; exact byQ)
      refine rnd_next (0 + 1) (by omega) (by first | omega | (dsimp only; omega)) ?_
      rw [he]
      exact byC
  ·
    (try simp only [go_sem] at h8)
    refine cx_exit ?_
    simp only [go_sem]
    refine cx_sr ?_
    simp only [go_sem]
    repeat first | (with_reducible refine side_d ?_ ?_; exact byD) | (with_reducible refine side_q ?_ ?_; exact byQ)
    refine cx_ret ?_
    simp only [go_sem]
    refine finw_str ?_
    rw [show i = n by omega]
theorem ParentOf_c (s : Str) (hs : (s.length + 1) * 16 ≤ 140737488355328) (hb : ∀ i, i ≤ (pcs s).length → (pathN (pcs s) i).length < 4611686018427387904) : Meets Tryd.prog 19 [.str s] (.str (pathN (pcs s) ((pcs s).length - 1))) [] := by
  refine meets_x (fn := Tryd.f19) Tryd.func19 rfl fb19 (by kernel_rfl) (Nat.le_of_ble_eq_true rfl) ?_
  have hpl : (pcs s).length ≤ s.length + 1 := by rw [pcs_cnt]; have := List.count_le_length (a := (47 : UInt8)) (l := s); omega
  have hp0 : 0 < (pcs s).length := by rw [pcs_cnt]; omega
  refine cx_sr ?_
  simp only [go_sem]
  repeat first | (with_reducible refine side_d ?_ ?_; exact byD) | (with_reducible refine side_q ?_ ?_; exact byQ)
  refine cx_sr ?_
  simp only [go_sem]
  repeat first | (with_reducible refine side_d ?_ ?_; exact byD) | (with_reducible refine side_q ?_ ?_; exact byQ)
  refine cw_m (NamesOf_c s hs) byW byT ?_
  simp only [go_sem]
  repeat first | (with_reducible refine side_d ?_ ?_; exact byD) | (with_reducible refine side_q ?_ ?_; exact byQ)
  refine cx_sr ?_
  simp only [go_sem]
  repeat first | (with_reducible refine side_d ?_ ?_; exact byD) | (with_reducible refine side_q ?_ ?_; exact byQ)
  intro t9 e9
  (try replace e9 := w64 e9 (by omega) (by omega))
  repeat first | (with_reducible refine side_d ?_ ?_; exact byD) | (with_reducible refine side_q ?_ ?_; exact byQ)
  refine cw_m (PathOfN_c (pcs s) ((pcs s).length - 1) (by omega) (by omega) hb) byW byT ?_
  simp only [go_sem]
  repeat first | (with_reducible refine side_d ?_ ?_; exact byD) | (with_reducible refine side_q ?_ ?_; exact byQ)
  refine cx_ret ?_
  simp only [go_sem]
  exact finw_str rfl
def inP (a b : List Str) : Bool := decide (b.length ≤ a.length) && (List.range b.length).all fun i => decide (a.getD i [] = b.getD i [])
theorem IsIn_c (a b : Str) (ha : (a.length + 1) * 16 ≤ 140737488355328) (hb : (b.length + 1) * 16 ≤ 140737488355328) : Meets Tryd.prog 23 [.str a, .str b] (.bool (inP (pcs a) (pcs b))) [] := by
  refine meets_x (fn := Tryd.f23) Tryd.func23 rfl fb23 (by kernel_rfl) (Nat.le_of_ble_eq_true rfl) ?_
  have hpl : (pcs a).length ≤ a.length + 1 := by rw [pcs_cnt]; have := List.count_le_length (a := (47 : UInt8)) (l := a); omega
  have hpl2 : (pcs b).length ≤ b.length + 1 := by rw [pcs_cnt]; have := List.count_le_length (a := (47 : UInt8)) (l := b); omega
  refine cx_sr ?_
  simp only [go_sem]
  repeat first | (with_reducible refine side_d ?_ ?_; exact byD) | (with_reducible refine side_q ?_ ?_; exact byQ)
  refine cx_sr ?_
  simp only [go_sem]
  repeat first | (with_reducible refine side_d ?_ ?_; exact byD) | (with_reducible refine side_q ?_ ?_; exact byQ)
  refine cw_m (NamesOf_c a ha) byW byT ?_
  simp only [go_sem]
  repeat first | (with_reducible refine side_d ?_ ?_; exact byD) | (with_reducible refine side_q ?_ ?_; exact byQ)
  refine cw_m (NamesOf_c b hb) byW byT ?_
  simp only [go_sem]
  repeat first | (with_reducible refine side_d ?_ ?_; exact byD) | (with_reducible refine side_q ?_ ?_; exact byQ)
  refine cx_seq ?_
  refine cx_sr ?_
  simp only [go_sem]
  repeat first | (with_reducible refine side_d ?_ ?_; exact byD) | (with_reducible refine side_q ?_ ?_; exact byQ)
  intro t16 e16
  repeat first | (with_reducible refine side_d ?_ ?_; exact byD) | (with_reducible refine side_q ?_ ?_; exact byQ)
  subst e16
  refine cx_if _ rfl (fun h16 => ?_) (fun h16 => ?_)
  ·
    (try simp only [go_sem] at h16)
    refine cx_sr ?_
    simp only [go_sem]
    repeat first | (with_reducible refine side_d ?_ ?_; exact byD) | (with_reducible refine side_q ?_ ?_; exact byQ)
    refine cx_ret ?_
    simp only [go_sem]
    refine finw_bool ?_
    have : ¬ (pcs b).length ≤ (pcs a).length := by omega
    simp [inP, this]
  ·
    (try simp only [go_sem] at h16)
    refine cx_skip ?_
    (try simp only [go_sem])
    refine cx_seq ?_
    refine cx_sr ?_
    simp only [go_sem]
    repeat first | (with_reducible refine side_d ?_ ?_; exact byD) | (with_reducible refine side_q ?_ ?_; exact byQ)
    refine cx_block ?_
    refine cx_loop0 (σ := Nat) (fun i => i ≤ (pcs b).length ∧ ∀ j, j < i → (pcs a).getD j [] = (pcs b).getD j []) (fun i => [⟨7, 0, [], .int .i64 (i : Nat)⟩]) [5, 6] (fun i => (pcs b).length - i) 0 ⟨Nat.zero_le _, fun j hj => absurd hj (Nat.not_lt_zero j)⟩ (Nat.zero_le _) byC (fun i hI1 => ?_)
    simp only [go_sem]
    refine cx_seq ?_
    refine cx_sr ?_
    simp only [go_sem]
    repeat first | (with_reducible refine side_d ?_ ?_; exact byD) | (with_reducible refine side_q ?_ ?_; exact byQ)
    intro t20 e20
    repeat first | (with_reducible refine side_d ?_ ?_; exact byD) | (with_reducible refine side_q ?_ ?_; exact byQ)
    subst e20
    refine cx_if _ rfl (fun h20 => ?_) (fun h20 => ?_)
    ·
      (try simp only [go_sem] at h20)
      refine cx_skip ?_
      (try simp only [go_sem])
      refine cx_seq (cx_block ?_)
      refine cx_seq (cx_draw mixed [] (.first 0 (.first 1 (.first 2 (.first 3 (.first 4 (.first 5 (.first 6 (.first 7 (.first 8 (.done)))))))))) (by kernel_rfl) ?_)
      simp only [go_sem]
      repeat first | (with_reducible refine side_d ?_ ?_; exact byD) | (with_reducible refine side_q ?_ ?_; exact byQ)
      intro t31 e31
      repeat first | (with_reducible refine side_d ?_ ?_; exact byD) | (with_reducible refine side_q ?_ ?_; exact byQ)
      subst e31
      refine cx_if _ rfl (fun h31 => ?_) (fun h31 => ?_)
      ·
        (try simp only [go_sem] at h31)
        refine cx_sr ?_
        simp only [go_sem]
        repeat first | (with_reducible refine side_d ?_ ?_; exact byD) | (with_reducible refine side_q ?_ ?_; exact byQ)
        refine cx_ret ?_
        simp only [go_sem]
        refine finw_bool ?_
        rw [inP, range_all_false (p := fun j => decide ((pcs a).getD j [] = (pcs b).getD j [])) (i := i) (by omega) (by simpa using h31), Bool.and_false]
      ·
        (try simp only [go_sem] at h31)
        refine cx_skip ?_
        (try simp only [go_sem])
        refine cx_region ?_
        simp only [go_sem]
        repeat first | (with_reducible refine side_d ?_ ?_; exact byD) | (with_reducible refine side_q ?_ ?_; exact byQ)
        intro t22 e22
        (try replace e22 := w64 e22 (by omega) (by omega))
        repeat first | (with_reducible refine side_d ?_ ?_; exact byD) | (with_reducible refine side_q ?_ ?_; exact byQ)
        refine rnd_next (i + 1) ⟨by omega, fun j hj => ?_⟩ (by show (pcs b).length - (i + 1) < (pcs b).length - i; omega) byC
        rcases Nat.lt_or_ge j i with h | h
        · exact hI1.2 j h
        · obtain rfl : j = i := by omega
          simpa using h31
    ·
      (try simp only [go_sem] at h20)
      refine cx_exit ?_
      simp only [go_sem]
      refine cx_sr ?_
      simp only [go_sem]
      repeat first | (with_reducible refine side_d ?_ ?_; exact byD) | (with_reducible refine side_q ?_ ?_; exact byQ)
      refine cx_ret ?_
      simp only [go_sem]
      refine finw_bool ?_
      have h : (pcs b).length ≤ (pcs a).length := by omega
      rw [inP, range_all_true (p := fun j => decide ((pcs a).getD j [] = (pcs b).getD j [])) fun j hj => by simpa using hI1.2 j (by omega)]
      simp [h]
end Go.VM.Tryd
end
section
set_option linter.unusedVariables false
set_option linter.unusedSimpArgs false
open Go Go.VM Go.Proofs Tether
namespace Go.VM.Tryd
set_option maxRecDepth 100000
/-- how many are left of the first k where what ends in c loses it -/
def trimK (s : Str) (c : Int) : Nat → Nat
  | 0 => 0
  | k + 1 => if at8 s k = c then trimK s c k else k + 1
theorem trimByte_c (s : Str) (c : Int) (hs : s.length < 4611686018427387904) : Meets Tryd.prog 44 [.str s, .int .u8 c] (.str (s.take (trimK s c s.length))) [] := by
  refine meets_x (fn := Tryd.f44) Tryd.func44 rfl fb44 (by kernel_rfl) (Nat.le_of_ble_eq_true rfl) ?_
  refine cx_sr ?_
  simp only [go_sem]
  repeat first | (with_reducible refine side_d ?_ ?_; exact byD) | (with_reducible refine side_q ?_ ?_; exact byQ)
  refine cx_seq (cx_block ?_)
  refine cx_loop0 (σ := Nat) (fun k => k ≤ s.length ∧ trimK s c k = trimK s c s.length) (fun k => [⟨0, 0, [], .str (s.take k)⟩]) [1, 4] (fun k => k) s.length ⟨Nat.le_refl _, rfl⟩ (Nat.zero_le _) byC (fun k hI1 => ?_)
  simp only [go_sem]
  have hkl : (s.take k).length = k := by simp; omega
  refine cx_seq ?_
  refine cx_sr ?_
  simp only [go_sem]
  repeat first | (with_reducible refine side_d ?_ ?_; exact byD) | (with_reducible refine side_q ?_ ?_; exact byQ)
  intro t7 e7
  repeat first | (with_reducible refine side_d ?_ ?_; exact byD) | (with_reducible refine side_q ?_ ?_; exact byQ)
  intro t12 e12
  (try replace e12 := w64 e12 (by omega) (by omega))
  repeat first | (with_reducible refine side_d ?_ ?_; exact byD) | (with_reducible refine side_q ?_ ?_; exact byQ)
  intro t13 e13
  repeat first | (with_reducible refine side_d ?_ ?_; exact byD) | (with_reducible refine side_q ?_ ?_; exact byQ)
  intro t15 e15
  repeat first | (with_reducible refine side_d ?_ ?_; exact byD) | (with_reducible refine side_q ?_ ?_; exact byQ)
  intro t16 e16
  rw [bsel_and] at e16
  repeat first | (with_reducible refine side_d ?_ ?_; exact byD) | (with_reducible refine side_q ?_ ?_; exact byQ)
  subst e7 e15 e16
  refine cx_if _ rfl (fun h16 => ?_) (fun h16 => ?_)
  ·
    (try simp only [go_sem] at h16)
    refine cx_skip ?_
    (try simp only [go_sem])
    refine cx_block ?_
    refine cx_region ?_
    simp only [go_sem]
    repeat first | (with_reducible refine side_d ?_ ?_; exact byD) | (with_reducible refine side_q ?_ ?_; exact byQ)
    intro t20 e20
    (try replace e20 := w64 e20 (by omega) (by omega))
    repeat first | (with_reducible refine side_d ?_ ?_; exact byD) | (with_reducible refine side_q ?_ ?_; exact byQ)
    rw [hkl] at e12 e20 h16
    obtain ⟨m, rfl⟩ : ∃ m, k = m + 1 := ⟨k - 1, by omega⟩
    have h12 : t12.toNat = m := by omega
    have h20 : t20.toNat = m := by omega
    have hat : at8 s m = c := by
      rw [← h16.2, e13, h12]
      simp [at8, List.getD_eq_getElem?_getD, List.getElem?_take]
    have htr : trimK s c (m + 1) = trimK s c m := by simp only [trimK]; rw [if_pos hat]
    have htk : (s.take (m + 1)).take t20.toNat = s.take m := by rw [h20, List.take_take, Nat.min_eq_left (by omega)]
    refine rnd_next m ⟨by omega, by rw [← htr]; exact hI1.2⟩ (by first | omega | (dsimp only; omega)) ?_
    rw [htk]
    exact byC
  ·
    (try simp only [go_sem] at h16)
    refine cx_exit ?_
    simp only [go_sem]
    refine cx_sr ?_
    simp only [go_sem]
    repeat first | (with_reducible refine side_d ?_ ?_; exact byD) | (with_reducible refine side_q ?_ ?_; exact byQ)
    refine cx_ret ?_
    simp only [go_sem]
    refine finw_str ?_
    rw [hkl] at e12 h16
    have htr : trimK s c k = k := by
      rcases k with _ | m
      · rfl
      · have h12 : t12.toNat = m := by omega
        have hat : ¬ at8 s m = c := by
          rcases h16 with h | h
          · omega
          · intro e
            apply h
            rw [← e, e13, h12]
            simp [at8, List.getD_eq_getElem?_getD, List.getElem?_take]
        simp only [trimK]
        rw [if_neg hat]
    rw [← hI1.2, htr]
def itoaS (n : Int) : Str := if n < 10 then [(48 + n).toNat.toUInt8] else [(48 + n / 10).toNat.toUInt8, (48 + n % 10).toNat.toUInt8]
theorem small_lt (n : Int) (h0 : 0 ≤ n) (h : n < 10) : ([48, 49, 50, 51, 52, 53, 54, 55, 56, 57, 97, 98, 99, 100, 101, 102, 103, 104, 105, 106, 107, 108, 109, 110, 111, 112, 113, 114, 115, 116, 117, 118, 119, 120, 121, 122].take (n + 1).toNat).drop n.toNat = itoaS n := by
  obtain ⟨m, rfl⟩ : ∃ m : Nat, n = m := ⟨n.toNat, by omega⟩
  have : ∀ m : Fin 10, ([48, 49, 50, 51, 52, 53, 54, 55, 56, 57, 97, 98, 99, 100, 101, 102, 103, 104, 105, 106, 107, 108, 109, 110, 111, 112, 113, 114, 115, 116, 117, 118, 119, 120, 121, 122].take ((m.val : Int) + 1).toNat).drop (m.val : Int).toNat = itoaS (m.val : Int) := by decide
  exact this ⟨m, by omega⟩
theorem small_ge (n : Int) (h0 : 10 ≤ n) (h : n < 100) : (((([48, 48, 48, 49, 48, 50, 48, 51, 48, 52, 48, 53, 48, 54, 48, 55, 48, 56, 48, 57, 49, 48, 49, 49, 49, 50, 49, 51, 49, 52, 49, 53, 49, 54, 49, 55, 49, 56, 49, 57, 50, 48, 50, 49, 50, 50, 50, 51, 50, 52] : List UInt8).append [50, 53, 50, 54, 50, 55, 50, 56, 50, 57, 51, 48, 51, 49, 51, 50, 51, 51, 51, 52, 51, 53, 51, 54, 51, 55, 51, 56, 51, 57, 52, 48, 52, 49, 52, 50, 52, 51, 52, 52, 52, 53, 52, 54, 52, 55, 52, 56, 52, 57]).append (([53, 48, 53, 49, 53, 50, 53, 51, 53, 52, 53, 53, 53, 54, 53, 55, 53, 56, 53, 57, 54, 48, 54, 49, 54, 50, 54, 51, 54, 52, 54, 53, 54, 54, 54, 55, 54, 56, 54, 57, 55, 48, 55, 49, 55, 50, 55, 51, 55, 52] : List UInt8).append [55, 53, 55, 54, 55, 55, 55, 56, 55, 57, 56, 48, 56, 49, 56, 50, 56, 51, 56, 52, 56, 53, 56, 54, 56, 55, 56, 56, 56, 57, 57, 48, 57, 49, 57, 50, 57, 51, 57, 52, 57, 53, 57, 54, 57, 55, 57, 56, 57, 57])).take (n * 2 + 2).toNat).drop (n * 2).toNat = itoaS n := by
  obtain ⟨m, rfl⟩ : ∃ m : Nat, n = m := ⟨n.toNat, by omega⟩
  have : ∀ m : Fin 100, 10 ≤ m.val → (((([48, 48, 48, 49, 48, 50, 48, 51, 48, 52, 48, 53, 48, 54, 48, 55, 48, 56, 48, 57, 49, 48, 49, 49, 49, 50, 49, 51, 49, 52, 49, 53, 49, 54, 49, 55, 49, 56, 49, 57, 50, 48, 50, 49, 50, 50, 50, 51, 50, 52] : List UInt8).append [50, 53, 50, 54, 50, 55, 50, 56, 50, 57, 51, 48, 51, 49, 51, 50, 51, 51, 51, 52, 51, 53, 51, 54, 51, 55, 51, 56, 51, 57, 52, 48, 52, 49, 52, 50, 52, 51, 52, 52, 52, 53, 52, 54, 52, 55, 52, 56, 52, 57]).append (([53, 48, 53, 49, 53, 50, 53, 51, 53, 52, 53, 53, 53, 54, 53, 55, 53, 56, 53, 57, 54, 48, 54, 49, 54, 50, 54, 51, 54, 52, 54, 53, 54, 54, 54, 55, 54, 56, 54, 57, 55, 48, 55, 49, 55, 50, 55, 51, 55, 52] : List UInt8).append [55, 53, 55, 54, 55, 55, 55, 56, 55, 57, 56, 48, 56, 49, 56, 50, 56, 51, 56, 52, 56, 53, 56, 54, 56, 55, 56, 56, 56, 57, 57, 48, 57, 49, 57, 50, 57, 51, 57, 52, 57, 53, 57, 54, 57, 55, 57, 56, 57, 57])).take ((m.val : Int) * 2 + 2).toNat).drop ((m.val : Int) * 2).toNat = itoaS (m.val : Int) := by decide
  exact this ⟨m, by omega⟩ (by simp; omega)
theorem small_c (n : Int) (h0 : 0 ≤ n) (h1 : n < 100) : Meets Tryd.prog 64 [.int .i64 n] (.str (itoaS n)) [] := by
  refine meets_x (fn := Tryd.f64) Tryd.func64 rfl fb64 (by kernel_rfl) (Nat.le_of_ble_eq_true rfl) ?_
  refine cx_sr ?_
  simp only [go_sem]
  repeat first | (with_reducible refine side_d ?_ ?_; exact byD) | (with_reducible refine side_q ?_ ?_; exact byQ)
  refine cx_seq ?_
  refine cx_sr ?_
  simp only [go_sem]
  repeat first | (with_reducible refine side_d ?_ ?_; exact byD) | (with_reducible refine side_q ?_ ?_; exact byQ)
  intro t4 e4
  repeat first | (with_reducible refine side_d ?_ ?_; exact byD) | (with_reducible refine side_q ?_ ?_; exact byQ)
  subst e4
  refine cx_if _ rfl (fun h4 => ?_) (fun h4 => ?_)
  ·
    (try simp only [go_sem] at h4)
    refine cx_sr ?_
    simp only [go_sem]
    repeat first | (with_reducible refine side_d ?_ ?_; exact byD) | (with_reducible refine side_q ?_ ?_; exact byQ)
    intro t7 e7
    (try replace e7 := w64 e7 (by omega) (by omega))
    repeat ((with_reducible first | refine side_d ?_ ?_ | refine side_q ?_ ?_); focus (first | exact byD | exact byQ | ((refine Sd.mk ?_; simp; omega))))
    repeat first | (with_reducible refine side_d ?_ ?_; exact byD) | (with_reducible refine side_q ?_ ?_; exact byQ)
    refine cx_ret ?_
    simp only [go_sem]
    refine finw_str ?_
    subst e7
    revert h4
    exact small_lt n h0
  ·
    (try simp only [go_sem] at h4)
    refine cx_skip ?_
    (try simp only [go_sem])
    refine cx_sr ?_
    simp only [go_sem]
    repeat first | (with_reducible refine side_d ?_ ?_; exact byD) | (with_reducible refine side_q ?_ ?_; exact byQ)
    intro t10 e10
    (try replace e10 := w64 e10 (by omega) (by omega))
    repeat first | (with_reducible refine side_d ?_ ?_; exact byD) | (with_reducible refine side_q ?_ ?_; exact byQ)
    intro t12 e12
    (try replace e12 := w64 e12 (by omega) (by omega))
    repeat first | (with_reducible refine side_d ?_ ?_; exact byD) | (with_reducible refine side_q ?_ ?_; exact byQ)
    intro t13 e13
    (try replace e13 := w64 e13 (by omega) (by omega))
    repeat ((with_reducible first | refine side_d ?_ ?_ | refine side_q ?_ ?_); focus (first | exact byD | exact byQ | ((refine Sd.mk ?_; simp; omega))))
    repeat first | (with_reducible refine side_d ?_ ?_; exact byD) | (with_reducible refine side_q ?_ ?_; exact byQ)
    refine cx_ret ?_
    simp only [go_sem]
    refine finw_str ?_
    subst e13 e10 e12
    exact small_ge n (by omega) h1
theorem FormatInt_c (n : Int) (h0 : 0 ≤ n) (h1 : n < 100) : Meets Tryd.prog 53 [.int .i64 n, .int .i64 10] (.str (itoaS n)) [] := by
  refine meets_x (fn := Tryd.f53) Tryd.func53 rfl fb53 (by kernel_rfl) (Nat.le_of_ble_eq_true rfl) ?_
  refine cx_sr ?_
  simp only [go_sem]
  repeat first | (with_reducible refine side_d ?_ ?_; exact byD) | (with_reducible refine side_q ?_ ?_; exact byQ)
  refine cx_seq ?_
  refine cx_sr ?_
  simp only [go_sem]
  repeat first | (with_reducible refine side_d ?_ ?_; exact byD) | (with_reducible refine side_q ?_ ?_; exact byQ)
  intro t11 e11
  repeat first | (with_reducible refine side_d ?_ ?_; exact byD) | (with_reducible refine side_q ?_ ?_; exact byQ)
  subst e11
  refine cx_if _ rfl (fun h11 => ?_) (fun h11 => ?_)
  ·
    (try simp only [go_sem] at h11)
    refine cx_seq ?_
    refine cx_sr ?_
    simp only [go_sem]
    repeat first | (with_reducible refine side_d ?_ ?_; exact byD) | (with_reducible refine side_q ?_ ?_; exact byQ)
    intro t13 e13
    repeat first | (with_reducible refine side_d ?_ ?_; exact byD) | (with_reducible refine side_q ?_ ?_; exact byQ)
    intro t16 e16
    repeat first | (with_reducible refine side_d ?_ ?_; exact byD) | (with_reducible refine side_q ?_ ?_; exact byQ)
    intro t17 e17
    rw [bsel_and] at e17
    repeat first | (with_reducible refine side_d ?_ ?_; exact byD) | (with_reducible refine side_q ?_ ?_; exact byQ)
    subst e13 e16 e17
    refine cx_if _ rfl (fun h17 => ?_) (fun h17 => ?_)
    ·
      (try simp only [go_sem] at h17)
      refine cx_sr ?_
      simp only [go_sem]
      repeat first | (with_reducible refine side_d ?_ ?_; exact byD) | (with_reducible refine side_q ?_ ?_; exact byQ)
      refine cw_m (small_c n h0 h1) byW byT ?_
      simp only [go_sem]
      repeat first | (with_reducible refine side_d ?_ ?_; exact byD) | (with_reducible refine side_q ?_ ?_; exact byQ)
      refine cx_ret ?_
      simp only [go_sem]
      exact finw_str rfl
    · simp at h17; omega
  · simp at h11
theorem Itoa0_c (n : Int) (h0 : 0 ≤ n) (h1 : n < 100) : Meets Tryd.prog 43 [.int .i64 n] (.str (itoaS n)) [] := by
  refine meets_x (fn := Tryd.f43) Tryd.func43 rfl fb43 (by kernel_rfl) (Nat.le_of_ble_eq_true rfl) ?_
  refine cx_sr ?_
  simp only [go_sem]
  repeat first | (with_reducible refine side_d ?_ ?_; exact byD) | (with_reducible refine side_q ?_ ?_; exact byQ)
  refine cx_sr ?_
  simp only [go_sem]
  repeat first | (with_reducible refine side_d ?_ ?_; exact byD) | (with_reducible refine side_q ?_ ?_; exact byQ)
  refine cw_m (FormatInt_c n h0 h1) byW byT ?_
  simp only [go_sem]
  repeat first | (with_reducible refine side_d ?_ ?_; exact byD) | (with_reducible refine side_q ?_ ?_; exact byQ)
  refine cx_ret ?_
  simp only [go_sem]
  exact finw_str rfl
theorem Itoa_c (n : Int) (h0 : 0 ≤ n) (h1 : n < 100) : Meets Tryd.prog 34 [.int .i64 n] (.str (itoaS n)) [] := by
  refine meets_x (fn := Tryd.f34) Tryd.func34 rfl fb34 (by kernel_rfl) (Nat.le_of_ble_eq_true rfl) ?_
  refine cx_sr ?_
  simp only [go_sem]
  repeat first | (with_reducible refine side_d ?_ ?_; exact byD) | (with_reducible refine side_q ?_ ?_; exact byQ)
  refine cx_sr ?_
  simp only [go_sem]
  repeat first | (with_reducible refine side_d ?_ ?_; exact byD) | (with_reducible refine side_q ?_ ?_; exact byQ)
  refine cw_m (Itoa0_c n h0 h1) byW byT ?_
  simp only [go_sem]
  repeat first | (with_reducible refine side_d ?_ ?_; exact byD) | (with_reducible refine side_q ?_ ?_; exact byQ)
  refine cx_ret ?_
  simp only [go_sem]
  exact finw_str rfl
end Go.VM.Tryd
end
section
set_option linter.unusedVariables false
set_option linter.unusedSimpArgs false
open Go Go.VM Go.Proofs Tether
namespace Go.VM.Tryd
set_option maxRecDepth 100000
def trimS (s : Str) : Str := s.take (trimK s 32 s.length)
theorem TrimRight_c (s : Str) (hs : s.length < 4611686018427387904) : Meets Tryd.prog 35 [.str s, .str [32]] (.str (trimS s)) [] := by
  refine meets_x (fn := Tryd.f35) Tryd.func35 rfl fb35 (by kernel_rfl) (Nat.le_of_ble_eq_true rfl) ?_
  refine cx_sr ?_
  simp only [go_sem]
  repeat first | (with_reducible refine side_d ?_ ?_; exact byD) | (with_reducible refine side_q ?_ ?_; exact byQ)
  refine cx_seq ?_
  refine cx_sr ?_
  simp only [go_sem]
  repeat first | (with_reducible refine side_d ?_ ?_; exact byD) | (with_reducible refine side_q ?_ ?_; exact byQ)
  intro t8 e8
  repeat first | (with_reducible refine side_d ?_ ?_; exact byD) | (with_reducible refine side_q ?_ ?_; exact byQ)
  intro t11 e11
  repeat first | (with_reducible refine side_d ?_ ?_; exact byD) | (with_reducible refine side_q ?_ ?_; exact byQ)
  intro t12 e12
  rw [bsel_or] at e12
  repeat first | (with_reducible refine side_d ?_ ?_; exact byD) | (with_reducible refine side_q ?_ ?_; exact byQ)
  subst e8 e11 e12
  refine cx_if _ rfl (fun h12 => ?_) (fun h12 => ?_)
  ·
    (try simp only [go_sem] at h12)
    refine cx_sr ?_
    simp only [go_sem]
    repeat first | (with_reducible refine side_d ?_ ?_; exact byD) | (with_reducible refine side_q ?_ ?_; exact byQ)
    refine cx_ret ?_
    simp only [go_sem]
    have h : s = [] := by simpa using h12
    subst h
    exact finw_str rfl
  ·
    (try simp only [go_sem] at h12)
    refine cx_skip ?_
    (try simp only [go_sem])
    refine cx_seq ?_
    refine cx_sr ?_
    simp only [go_sem]
    repeat first | (with_reducible refine side_d ?_ ?_; exact byD) | (with_reducible refine side_q ?_ ?_; exact byQ)
    intro t16 e16
    repeat first | (with_reducible refine side_d ?_ ?_; exact byD) | (with_reducible refine side_q ?_ ?_; exact byQ)
    intro t19 e19
    repeat first | (with_reducible refine side_d ?_ ?_; exact byD) | (with_reducible refine side_q ?_ ?_; exact byQ)
    intro t20 e20
    repeat first | (with_reducible refine side_d ?_ ?_; exact byD) | (with_reducible refine side_q ?_ ?_; exact byQ)
    intro t21 e21
    rw [bsel_and] at e21
    repeat first | (with_reducible refine side_d ?_ ?_; exact byD) | (with_reducible refine side_q ?_ ?_; exact byQ)
    subst e16 e20 e21
    refine cx_if _ rfl (fun h21 => ?_) (fun h21 => ?_)
    ·
      (try simp only [go_sem] at h21)
      refine cx_sr ?_
      simp only [go_sem]
      repeat first | (with_reducible refine side_d ?_ ?_; exact byD) | (with_reducible refine side_q ?_ ?_; exact byQ)
      intro t24 e24
      repeat first | (with_reducible refine side_d ?_ ?_; exact byD) | (with_reducible refine side_q ?_ ?_; exact byQ)
      refine cw_m (trimByte_c s 32 hs) byW byT ?_
      simp only [go_sem]
      repeat first | (with_reducible refine side_d ?_ ?_; exact byD) | (with_reducible refine side_q ?_ ?_; exact byQ)
      refine cx_ret ?_
      simp only [go_sem]
      exact finw_str rfl
    · simp at h21; subst e19; exact absurd h21 (by decide)
/-- the tail of a name where its stem ends; the stem -/
def stemP (name : Str) : Str := if 0 < lix name 46 then name.take (lix name 46).toNat else name
def extP (name : Str) : Str := if 0 < lix name 46 then name.drop (lix name 46).toNat else []
def markP (n : Int) : Str := [32, 40] ++ itoaS n ++ [41]
def cutP (stem : Str) (room : Int) : Str := if room < (stem.length : Int) then trimS (stem.take (max 0 room).toNat) else stem
def asideP (p : Str) (n : Int) : Str × Int :=
  if checkP [p] ≠ 0 then ([], checkP [p])
  else if n < 1 ∨ 99 < n then ([], 3)
  else
    let stem := cutP (stemP (tailOf p)) (20 - ((markP n).length : Int) - ((extP (tailOf p)).length : Int))
    if stem = [] then ([], 2)
    else
      let r := if headOf p = [] then stem ++ markP n ++ extP (tailOf p) else headOf p ++ 47 :: (stem ++ markP n ++ extP (tailOf p))
      if greatB r then ([], 2) else (r, 0)
theorem itoaS_len (n : Int) : (itoaS n).length ≤ 2 := by
  unfold itoaS
  split <;> simp
end Go.VM.Tryd
end
section
set_option linter.unusedVariables false
set_option linter.unusedSimpArgs false
open Go Go.VM Go.Proofs Tether
namespace Go.VM.Tryd
theorem pathN_cons (x : Str) (l : List Str) : ∀ k, pathN (x :: l) (k + 1) = if k = 0 then x else x ++ 47 :: pathN l k
  | 0 => by simp [pathN]
  | k + 1 => by
    have ih := pathN_cons x l k
    rw [pathN, ih]
    by_cases hk : k = 0
    · subst hk; simp [pathN]
    · simp [hk, pathN]
theorem pathN_push (b : UInt8) (x : Str) (l : List Str) (k : Nat) : pathN ((b :: x) :: l) (k + 1) = b :: pathN (x :: l) (k + 1) := by
  rw [pathN_cons, pathN_cons]
  split <;> simp
theorem pathN_pcs : ∀ s : Str, pathN (pcs s) (pcs s).length = s
  | [] => by simp [pcs, pathN]
  | b :: r => by
    have ih := pathN_pcs r
    have hne := pcs_ne r
    by_cases hb : b = 47
    · simp only [pcs, hb, if_true, List.length_cons]
      rw [pathN_cons, if_neg (by simpa using hne), ih]
      simp
    · simp only [pcs, hb, if_false]
      rcases hp : pcs r with _ | ⟨x, xs⟩
      · exact absurd hp hne
      · rw [hp] at ih
        simp only [List.length_cons] at ih ⊢
        rw [pathN_push, ih]
theorem pathN_le : ∀ (s : Str) (k : Nat), k ≤ (pcs s).length → (pathN (pcs s) k).length ≤ s.length
  | _, 0, _ => by simp [pathN]
  | [], k + 1, h => by
    simp [pcs] at h
    subst h
    simp [pcs, pathN]
  | b :: r, k + 1, h => by
    have hne := pcs_ne r
    by_cases hb : b = 47
    · simp only [pcs, hb, if_true, List.length_cons] at h ⊢
      rw [pathN_cons]
      by_cases hk : k = 0
      · simp [hk]
      · have := pathN_le r k (by omega)
        simp [hk]; omega
    · simp only [pcs, hb, if_false] at h ⊢
      rcases hp : pcs r with _ | ⟨x, xs⟩
      · exact absurd hp hne
      · rw [hp] at h
        have := pathN_le r (k + 1) (by rw [hp]; simpa using h)
        rw [hp] at this
        simp only [List.length_cons] at *
        rw [pathN_push]
        simp; omega
theorem at8_cons (b : UInt8) (r : Str) (n : Nat) : at8 (b :: r) (n + 1) = at8 r n := by simp [at8]
theorem lixN_cons (b : UInt8) (r : Str) (c : Int) : ∀ n, lixN (b :: r) c (n + 1) = if 0 ≤ lixN r c n then lixN r c n + 1 else if (b.toNat : Int) = c then 0 else -1
  | 0 => by simp [lixN, at8]
  | n + 1 => by
    have ih := lixN_cons b r c n
    rw [lixN, at8_cons, ih]
    by_cases h : at8 r n = c
    · simp only [lixN, h, if_true]
      have : (0 : Int) ≤ n := by omega
      simp [this]
    · simp only [lixN, h, if_false]
theorem b47 (b : UInt8) : ((b.toNat : Int) = 47) ↔ b = 47 := by
  constructor
  · intro h
    apply UInt8.toNat_inj.1
    have : (47 : UInt8).toNat = 47 := rfl
    rw [this]; omega
  · intro h; rw [h]; rfl
theorem lix_pcs : ∀ s : Str, lix s 47 = -1 ↔ (pcs s).length = 1
  | [] => ⟨fun _ => rfl, fun _ => rfl⟩
  | b :: r => by
    have ih := lix_pcs r
    have hne := pcs_ne r
    have hb2 := b47 b
    have hle := lixN_le r 47 r.length
    show lixN (b :: r) 47 (r.length + 1) = -1 ↔ _
    rw [lixN_cons]
    by_cases hb : b = 47
    · simp only [pcs, hb, if_true, List.length_cons]
      have h0 : 0 < (pcs r).length := List.length_pos_iff.2 hne
      constructor
      · intro h
        have e : ((47 : UInt8).toNat : Int) = 47 := rfl
        rw [if_pos e] at h
        split at h <;> omega
      · intro h; omega
    · have hn : ¬ ((b.toNat : Int) = 47) := fun h => hb (hb2.1 h)
      have hlen : (pcs (b :: r)).length = (pcs r).length := by
        simp only [pcs, hb, if_false]
        rcases hp : pcs r with _ | ⟨x, xs⟩
        · exact absurd hp hne
        · rfl
      rw [if_neg hn, hlen, ← ih]
      show _ ↔ lixN r 47 r.length = -1
      split <;> omega
theorem head_pcs : ∀ s : Str, pathN (pcs s) ((pcs s).length - 1) = headOf s
  | [] => by simp [pcs, pathN, headOf]
  | b :: r => by
    have ih := head_pcs r
    have hne := pcs_ne r
    have h0 : 0 < (pcs r).length := List.length_pos_iff.2 hne
    have hlp := lix_pcs r
    have hle := lixN_le r 47 r.length
    have hlc : lix (b :: r) 47 = if 0 ≤ lix r 47 then lix r 47 + 1 else if (b.toNat : Int) = 47 then 0 else -1 := lixN_cons b r 47 r.length
    unfold headOf at ih ⊢
    rw [hlc]
    by_cases h1 : 0 ≤ lix r 47
    · have hn1 : (pcs r).length ≠ 1 := fun h => by have := hlp.2 h; omega
      obtain ⟨m, hm⟩ : ∃ m, (pcs r).length = m + 2 := ⟨(pcs r).length - 2, by omega⟩
      have ht : (lix r 47 + 1).toNat = (lix r 47).toNat + 1 := by omega
      rw [if_pos h1, ht, List.take_succ_cons, ← ih]
      by_cases hb : b = 47
      · simp only [pcs, hb, if_true, List.length_cons, hm]
        show pathN ([] :: pcs r) (m + 2) = _
        rw [pathN_cons]
        simp
      · simp only [pcs, hb, if_false]
        rcases hp : pcs r with _ | ⟨x, xs⟩
        · exact absurd hp hne
        · rw [hp] at hm
          simp only [List.length_cons] at hm ⊢
          rw [show xs.length + 1 - 1 = m + 1 by omega, pathN_push]
    · have e1 : lix r 47 = -1 := by have : -1 ≤ lix r 47 := hle.1; omega
      have hn1 := hlp.1 e1
      rw [if_neg h1]
      by_cases hb : b = 47
      · simp only [pcs, hb, if_true, List.length_cons, hn1]
        simp [pathN]
      · have hlen : (pcs (b :: r)).length = (pcs r).length := by
          simp only [pcs, hb, if_false]
          rcases hp : pcs r with _ | ⟨x, xs⟩
          · exact absurd hp hne
          · rfl
        rw [hlen, hn1, if_neg (fun h => hb ((b47 b).1 h))]
        simp [pathN]
end Go.VM.Tryd
end
section
set_option linter.unusedVariables false
set_option linter.unusedSimpArgs false
open Go Go.VM Go.Proofs Tether
namespace Go.VM.Tryd
theorem tail_pcs : ∀ s : Str, (pcs s).getD ((pcs s).length - 1) [] = tailOf s
  | [] => by simp [pcs, tailOf]
  | b :: r => by
    have ih := tail_pcs r
    have hne := pcs_ne r
    have h0 : 0 < (pcs r).length := List.length_pos_iff.2 hne
    have hlp := lix_pcs r
    have hle := lixN_le r 47 r.length
    have hlc : lix (b :: r) 47 = if 0 ≤ lix r 47 then lix r 47 + 1 else if (b.toNat : Int) = 47 then 0 else -1 := lixN_cons b r 47 r.length
    unfold tailOf at ih ⊢
    rw [hlc]
    by_cases h1 : 0 ≤ lix r 47
    · have hn1 : (pcs r).length ≠ 1 := fun h => by have := hlp.2 h; omega
      obtain ⟨m, hm⟩ : ∃ m, (pcs r).length = m + 2 := ⟨(pcs r).length - 2, by omega⟩
      have ht : (lix r 47 + 1 + 1).toNat = (lix r 47 + 1).toNat + 1 := by omega
      rw [if_pos h1, ht, List.drop_succ_cons, ← ih]
      by_cases hb : b = 47
      · simp only [pcs, hb, if_true, List.length_cons, hm]
        simp [List.getD_eq_getElem?_getD]
      · simp only [pcs, hb, if_false]
        rcases hp : pcs r with _ | ⟨x, xs⟩
        · exact absurd hp hne
        · rw [hp] at hm
          simp only [List.length_cons] at hm ⊢
          rw [show xs.length + 1 - 1 = m + 1 by omega]
          simp [List.getD_eq_getElem?_getD]
    · have e1 : lix r 47 = -1 := by have : -1 ≤ lix r 47 := hle.1; omega
      have hn1 := hlp.1 e1
      have hr : pcs r = [r] := by
        rw [hn1, e1] at ih
        obtain ⟨x, hx⟩ := List.length_eq_one_iff.1 hn1
        rw [hx] at ih ⊢
        simp at ih
        rw [ih]
      rw [if_neg h1]
      by_cases hb : b = 47
      · subst hb
        simp only [pcs, if_true, hr]
        have e : ((47 : UInt8).toNat : Int) = 47 := rfl
        rw [if_pos e]
        rfl
      · simp only [pcs, hb, if_false, hr]
        rw [if_neg (fun h => hb ((b47 b).1 h))]
        rfl
end Go.VM.Tryd
end
section
set_option linter.unusedVariables false
set_option linter.unusedSimpArgs false
open Go Go.VM Go.Proofs Tether
namespace Go.VM.Tryd
/-- one list begins the other -/
def begins : List Str → List Str → Bool
  | _, [] => true
  | [], _ :: _ => false
  | x :: a, y :: b => decide (x = y) && begins a b
theorem inP_begins : ∀ (a b : List Str), inP a b = begins a b
  | a, [] => by simp [inP, begins]
  | [], y :: b => by simp [inP, begins]
  | x :: a, y :: b => by
    have ih := inP_begins a b
    rw [begins, ← ih]
    simp only [inP, List.length_cons, List.range_succ_eq_map, List.all_cons, List.all_map]
    have e : ((fun i => decide ((x :: a).getD i [] = (y :: b).getD i [])) ∘ Nat.succ) = fun i => decide (a.getD i [] = b.getD i []) := by
      funext i; simp
    rw [e]
    have h : decide (b.length + 1 ≤ a.length + 1) = decide (b.length ≤ a.length) := by simp
    rw [h]
    simp only [List.getD_cons_zero]
    cases decide (b.length ≤ a.length) <;> cases decide (x = y) <;> simp
end Go.VM.Tryd
end
section
set_option linter.unusedVariables false
set_option linter.unusedSimpArgs false
open Go Go.VM Go.Proofs Tether
namespace Go.VM.Tryd
theorem pcs_slash (r : Str) : pcs (47 :: r) = [] :: pcs r := by simp [pcs]
theorem pcs_other {b : UInt8} (hb : b ≠ 47) {r x : Str} {xs : List Str} (h : pcs r = x :: xs) : pcs (b :: r) = (b :: x) :: xs := by simp [pcs, hb, h]
theorem pcs_some (r : Str) : ∃ x xs, pcs r = x :: xs := by
  rcases h : pcs r with _ | ⟨x, xs⟩
  · exact absurd h (pcs_ne r)
  · exact ⟨x, xs, rfl⟩
theorem begins_iff : ∀ (b a : Str), begins (pcs a) (pcs b) = true ↔ a = b ∨ ∃ t, a = b ++ 47 :: t
  | [], [] => by simp [pcs, begins]
  | [], c :: a => by
    by_cases hc : c = 47
    · subst hc
      rw [pcs_slash]
      simp [pcs, begins]
    · obtain ⟨x, xs, hx⟩ := pcs_some a
      rw [pcs_other hc hx]
      simp [pcs, begins, hc]
  | d :: b, [] => by
    obtain ⟨y, ys, hy⟩ := pcs_some b
    by_cases hd : d = 47
    · subst hd
      rw [pcs_slash, hy]
      simp [pcs, begins]
    · rw [pcs_other hd hy]
      simp [pcs, begins]
  | d :: b, c :: a => by
    have ih := begins_iff b a
    obtain ⟨y, ys, hy⟩ := pcs_some b
    obtain ⟨x, xs, hx⟩ := pcs_some a
    by_cases hd : d = 47
    · subst hd
      by_cases hc : c = 47
      · subst hc
        rw [pcs_slash, pcs_slash, begins]
        simp [ih]
      · rw [pcs_slash, pcs_other hc hx, begins]
        simp [hc]
    · by_cases hc : c = 47
      · subst hc
        rw [pcs_slash, pcs_other hd hy, begins]
        have : ¬ (47 : UInt8) = d := fun e => hd e.symm
        simp [this]
      · rw [pcs_other hd hy, pcs_other hc hx, begins]
        rw [hx, hy, begins] at ih
        by_cases hcd : c = d
        · subst hcd
          simpa using ih
        · simp [hcd]
theorem isIn_pcs (a b : Str) : isIn a b = inP (pcs a) (pcs b) := by
  rw [inP_begins, Bool.eq_iff_iff, begins_iff]
  simp only [isIn, hasPre, Bool.or_eq_true, decide_eq_true_eq, Bool.and_eq_true]
  constructor
  · rintro (h | ⟨h1, h2⟩)
    · exact .inl h
    · refine .inr ⟨a.drop (b ++ [47]).length, ?_⟩
      conv => lhs; rw [← List.take_append_drop (b ++ [47]).length a, h2]
      simp
  · rintro (h | ⟨t, rfl⟩)
    · exact .inl h
    · refine .inr ⟨by simp, ?_⟩
      rw [show b ++ 47 :: t = (b ++ [47]) ++ t by simp, List.take_left]
end Go.VM.Tryd
end
section
set_option linter.unusedVariables false
set_option linter.unusedSimpArgs false
open Go Go.VM Go.Proofs Tether
namespace Go.VM.Tryd
set_option maxRecDepth 100000
def textIsP (g : Str) (a b : Int) (w : Str) : Bool := decide (a = b) && decide (g = if b = 0 then w else [])
theorem textIs_c (g : Str) (a b : Int) (w : Str) : Meets Tryd.prog 15 [.str g, .int .i64 a, .int .i64 b, .str w] (.bool (textIsP g a b w)) [] := by
  refine meets_x (fn := Tryd.f15) Tryd.func15 rfl fb15 (by kernel_rfl) (Nat.le_of_ble_eq_true rfl) ?_
  refine cx_sr ?_
  simp only [go_sem]
  repeat first | (with_reducible refine side_d ?_ ?_; exact byD) | (with_reducible refine side_q ?_ ?_; exact byQ)
  refine cx_seq ?_
  refine cx_sr ?_
  simp only [go_sem]
  repeat first | (with_reducible refine side_d ?_ ?_; exact byD) | (with_reducible refine side_q ?_ ?_; exact byQ)
  intro t10 e10
  repeat first | (with_reducible refine side_d ?_ ?_; exact byD) | (with_reducible refine side_q ?_ ?_; exact byQ)
  subst e10
  refine cx_if _ rfl (fun h10 => ?_) (fun h10 => ?_)
  ·
    (try simp only [go_sem] at h10)
    refine cx_region ?_
    simp only [go_sem]
    repeat first | (with_reducible refine side_d ?_ ?_; exact byD) | (with_reducible refine side_q ?_ ?_; exact byQ)
    refine cx_sr ?_
    simp only [go_sem]
    repeat first | (with_reducible refine side_d ?_ ?_; exact byD) | (with_reducible refine side_q ?_ ?_; exact byQ)
    intro t13 e13
    repeat first | (with_reducible refine side_d ?_ ?_; exact byD) | (with_reducible refine side_q ?_ ?_; exact byQ)
    intro t17 e17
    repeat first | (with_reducible refine side_d ?_ ?_; exact byD) | (with_reducible refine side_q ?_ ?_; exact byQ)
    intro t18 e18
    rw [bsel_and] at e18
    repeat first | (with_reducible refine side_d ?_ ?_; exact byD) | (with_reducible refine side_q ?_ ?_; exact byQ)
    subst e13 e17 e18
    refine cx_ret ?_
    simp only [go_sem]
    refine finw_bool ?_
    simp_all [textIsP]
  ·
    (try simp only [go_sem] at h10)
    refine cx_skip ?_
    (try simp only [go_sem])
    refine cx_sr ?_
    simp only [go_sem]
    repeat first | (with_reducible refine side_d ?_ ?_; exact byD) | (with_reducible refine side_q ?_ ?_; exact byQ)
    intro t13 e13
    repeat first | (with_reducible refine side_d ?_ ?_; exact byD) | (with_reducible refine side_q ?_ ?_; exact byQ)
    intro t17 e17
    repeat first | (with_reducible refine side_d ?_ ?_; exact byD) | (with_reducible refine side_q ?_ ?_; exact byQ)
    intro t18 e18
    rw [bsel_and] at e18
    repeat first | (with_reducible refine side_d ?_ ?_; exact byD) | (with_reducible refine side_q ?_ ?_; exact byQ)
    subst e13 e17 e18
    refine cx_ret ?_
    simp only [go_sem]
    refine finw_bool ?_
    simp_all [textIsP]
end Go.VM.Tryd
end
