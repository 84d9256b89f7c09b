import Derived.Test.YtkcbjhjpepdkcaaSl0
set_option linter.unusedVariables false
set_option linter.unusedSimpArgs false
open Go Go.VM
namespace Tether
def Uploads.ok (u : Uploads) : Prop := u.ss.length * 56 ≤ 140737488355328 ∧ ∀ s ∈ u.ss, s.who.length < 4611686018427387904 ∧ s.text.length < 4611686018427387904
theorem Uploads.ok.len {u : Uploads} (h : u.ok) : u.ss.length < 4611686018427387904 := by have := h.1; omega
/-- uploads whose sessions lie in the first block -/
abbrev Uploads.own (u : Uploads) : V := .agg [.own none 0 5 0 u.ss.length .loose, .int .i64 u.next, .int .i64 u.lasts, .int .i64 u.room]
abbrev Uploads.blk (u : Uploads) : Heap := [.arr 5 u.ss.length (En Session.enc default u.ss)]
/-- no uploads -/
abbrev noU : V := .agg [.nil, .int .i64 0, .int .i64 0, .int .i64 0]
def swept (u : Uploads) (now : Int) : Uploads := { u with ss := u.ss.filter fun s => !decide (s.till < now) }
theorem swept_next {u : Uploads} {now : Int} : (swept u now).next = u.next := rfl
theorem swept_lasts {u : Uploads} {now : Int} : (swept u now).lasts = u.lasts := rfl
theorem swept_room {u : Uploads} {now : Int} : (swept u now).room = u.room := rfl
attribute [go_sem] swept_next swept_lasts swept_room
def beginErr (u : Uploads) (now : Int) : Int := if ¬ checkU u = 0 then checkU u else if within now 0 1099511627776 = false then 3 else 0
def isMine (who : Str) (number : Int) (s : Session) : Bool := decide (s.num = number) && decide (s.who = who)
/-- the place of somebody's session -/
def mineIx (u : Uploads) (who : Str) (number now : Int) : Int := idxF (isMine who number) (swept u now).ss
def mineErr (u : Uploads) (who : Str) (number now : Int) : Int :=
  if ¬ beginErr u now = 0 then beginErr u now else if isName who = false then 1 else if mineIx u who number now < 0 then 5 else 0
def zeroU : Uploads := ⟨[], 0, 0, 0⟩
def openErr (u : Uploads) (who : Str) (size now : Int) : Int :=
  if ¬ beginErr u now = 0 then beginErr u now else if isName who = false then 1
  else if within size 0 300 = false ∨ u.next = 1099511627776 then 3
  else if ((swept u now).ss.length : Int) = 20 then 2
  else if u.room < wrap (openW (swept u now).ss who + size) then 10 else 0
def openU (u : Uploads) (who : Str) (size now : Int) : Uploads × Int × Int :=
  if openErr u who size now = 0 then ({ swept u now with ss := (swept u now).ss ++ [⟨u.next, who, [], size, now + u.lasts⟩], next := u.next + 1 }, u.next, 0)
  else (zeroU, 0, openErr u who size now)
theorem within_iff {n a b : Int} : within n a b = true ↔ a ≤ n ∧ n ≤ b := by simp [within]
theorem checkU_ok {u : Uploads} (h : checkU u = 0) : (1 ≤ u.lasts ∧ u.lasts ≤ 1000000) ∧ (0 ≤ u.room ∧ u.room ≤ 100000) ∧ (1 ≤ u.next ∧ u.next ≤ 1099511627776) ∧ u.ss.length ≤ 20 ∧ ∀ s ∈ u.ss, sessErr u s = 0 := by
  unfold checkU at h
  split at h
  · simp at h
  rename_i h1
  split at h
  · simp at h
  rename_i h2
  split at h
  · rename_i h3; exact absurd h h3
  rename_i h3
  simp only [Bool.or_eq_true, Bool.not_eq_true', not_or, Bool.not_eq_false, within_iff] at h1
  refine ⟨h1.1.1, h1.1.2, h1.2, by omega, fun s hs => ?_⟩
  have h3 : firstErr (sessErr u) u.ss = 0 := by simpa using h3
  clear h h1 h2
  generalize u.ss = l at h3 hs
  induction l with
  | nil => cases hs
  | cons x l ih =>
    unfold firstErr at h3
    split at h3
    · rename_i h4; exact absurd h3 h4
    · rename_i h4
      rcases List.mem_cons.1 hs with rfl | hs
      · simpa using h4
      · exact ih h3 hs
theorem begin_facts {u : Uploads} {now : Int} (h : beginErr u now = 0) : checkU u = 0 ∧ 0 ≤ now ∧ now ≤ 1099511627776 := by
  unfold beginErr at h
  split at h
  · rename_i h1; exact absurd h h1
  · rename_i h1
    split at h
    · simp at h
    · rename_i h2
      have h2 : within now 0 1099511627776 = true := by simpa using h2
      rw [within_iff] at h2
      exact ⟨by simpa using h1, h2⟩
def queryU (u : Uploads) (who : Str) (number now : Int) : Int × Int :=
  if mineErr u who number now = 0 then ((((swept u now).ss.getD (mineIx u who number now).toNat default).text.length : Int), 0) else (0, mineErr u who number now)
theorem openU_len {u : Uploads} (hu : u.ok) (who : Str) (size now : Int) : (openU u who size now).1.ss.length < 4611686018427387904 := by
  unfold openU
  split
  · have := hu.1
    have h2 : (swept u now).ss.length ≤ u.ss.length := List.length_filter_le _ _
    simp; omega
  · simp [zeroU]
/-- behind an append of a text to a session -/
def appendU (u : Uploads) (who : Str) (number offset : Int) (text : Str) (now : Int) : Uploads × Int × Int :=
  if mineErr u who number now = 0 then
    let i := (mineIx u who number now).toNat
    let s := (swept u now).ss.getD i default
    if (0 ≤ offset ∧ offset ≤ (s.text.length : Int)) ∧ s.text.drop offset.toNat = text then (swept u now, (s.text.length : Int), 0)
    else if ¬ offset = (s.text.length : Int) then (zeroU, 0, 4)
    else if s.size < (s.text.length : Int) + (text.length : Int) then (zeroU, 0, 2)
    else ({ swept u now with ss := (swept u now).ss.set i { s with text := s.text ++ text, till := now + u.lasts } }, ((s.text ++ text).length : Int), 0)
  else (zeroU, 0, mineErr u who number now)
/-- behind a session's end -/
def finishU (u : Uploads) (who : Str) (number now : Int) : Uploads × Str × Int :=
  if mineErr u who number now = 0 then
    let i := (mineIx u who number now).toNat
    let s := (swept u now).ss.getD i default
    if (s.text.length : Int) < s.size then (zeroU, [], 4)
    else ({ swept u now with ss := (swept u now).ss.take i ++ (swept u now).ss.drop (i + 1) }, s.text, 0)
  else (zeroU, [], mineErr u who number now)
theorem mineErr_b {u : Uploads} {who : Str} {number now : Int} (h : ¬ beginErr u now = 0) : mineErr u who number now = beginErr u now := by rw [mineErr, if_pos h]
theorem mineErr_n {u : Uploads} {who : Str} {number now : Int} (h : beginErr u now = 0) (h1 : isName who = false) : mineErr u who number now = 1 := by rw [mineErr, if_neg (by simp [h]), if_pos h1]
theorem mineErr_i {u : Uploads} {who : Str} {number now : Int} (h : beginErr u now = 0) (h1 : ¬ isName who = false) (h2 : mineIx u who number now < 0) : mineErr u who number now = 5 := by rw [mineErr, if_neg (by simp [h]), if_neg h1, if_pos h2]
theorem mineErr_0 {u : Uploads} {who : Str} {number now : Int} (h : beginErr u now = 0) (h1 : ¬ isName who = false) (h2 : ¬ mineIx u who number now < 0) : mineErr u who number now = 0 := by rw [mineErr, if_neg (by simp [h]), if_neg h1, if_neg h2]
theorem mineErr_facts {u : Uploads} {who : Str} {number now : Int} (h : mineErr u who number now = 0) : beginErr u now = 0 ∧ isName who = true ∧ 0 ≤ mineIx u who number now := by
  unfold mineErr at h
  split at h
  · rename_i h1; exact absurd h h1
  rename_i h1
  split at h
  · simp at h
  rename_i h2
  split at h
  · simp at h
  rename_i h3
  exact ⟨by simpa using h1, by simpa using h2, by omega⟩
theorem mineIx_of {u : Uploads} {who : Str} {number now : Int} (h : mineErr u who number now = 0) : 0 ≤ mineIx u who number now ∧ mineIx u who number now < ((swept u now).ss.length : Int) := by
  have h1 := (mineErr_facts h).2.2
  refine ⟨h1, ?_⟩
  unfold mineIx at h1 ⊢
  obtain ⟨i, h2, h3, _⟩ := idxF_spec (p := isMine who number) (l := (swept u now).ss) default (by omega)
  omega
theorem mine_mem {u : Uploads} {who : Str} {number now : Int} (h : mineErr u who number now = 0) : (swept u now).ss.getD (mineIx u who number now).toNat default ∈ u.ss := by
  obtain ⟨h1, h2⟩ := mineIx_of h
  exact (List.mem_filter.1 (getD_mem (l := (swept u now).ss) (d := default) (by omega))).1
def swI (u : Uploads) (now : Int) (i : Nat) : List Session := (u.ss.take i).filter fun s => !decide (s.till < now)
theorem swI_len (u : Uploads) (now : Int) (i : Nat) : (swI u now i).length ≤ i :=
  Nat.le_trans (List.length_filter_le _ _) (by simp; omega)
theorem swI_T {u : Uploads} {now : Int} {i : Nat} (hi : i < u.ss.length) (h : now ≤ (u.ss.getD i default).till) : swI u now (i + 1) = swI u now i ++ [u.ss.getD i default] := by
  have e : u.ss[i] = u.ss.getD i default := by simp [List.getD, hi]
  unfold swI
  rw [List.take_succ_eq_append_getElem hi, List.filter_append, e]
  generalize u.ss.getD i default = x at h ⊢
  have : ¬ x.till < now := by omega
  simp [this]
theorem swI_F {u : Uploads} {now : Int} {i : Nat} (hi : i < u.ss.length) (h : ¬ now ≤ (u.ss.getD i default).till) : swI u now (i + 1) = swI u now i := by
  have e : u.ss[i] = u.ss.getD i default := by simp [List.getD, hi]
  unfold swI
  rw [List.take_succ_eq_append_getElem hi, List.filter_append, e]
  generalize u.ss.getD i default = x at h ⊢
  have : x.till < now := by omega
  simp [this]
theorem swI_all {u : Uploads} {now : Int} {i : Nat} (hi : u.ss.length ≤ i) : swI u now i = (swept u now).ss := by
  unfold swI swept
  rw [List.take_of_length_le hi]
theorem swept_len {u : Uploads} (hu : u.ok) (now : Int) : (swept u now).ss.length < 4611686018427387904 := by
  have := hu.len
  have : (swept u now).ss.length ≤ u.ss.length := List.length_filter_le _ _
  omega
end Tether
