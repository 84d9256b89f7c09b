import Derived.Test.YtkcbjhjpepdkcaaVMen
import Derived.Lib.Bytealg
set_option linter.unusedVariables false
set_option linter.unusedSimpArgs false
open Go Go.VM
namespace Tether
abbrev Str := List UInt8
abbrev wrap (n : Int) : Int := IntKind.i64.wrap n
/-! ### Names -/
/-- a sign of a name -/
def signB (c : Int) : Bool := decide (97 ≤ c) && decide (c ≤ 122) || decide (65 ≤ c) && decide (c ≤ 90) || decide (48 ≤ c) && decide (c ≤ 57) || decide (0 ≤ Go.Lib.indexByte [45, 95, 46, 40, 41, 32] c.toNat.toUInt8)
def at8 (s : Str) (i : Nat) : Int := ((s.getD i 0).toNat : Int)
/-- a name -/
def isName (s : Str) : Bool :=
  !(decide (s = []) || decide (20 < (s.length : Int)) || decide (s = [46]) || decide (s = [46, 46])) && !(decide (at8 s 0 = 32) || decide (at8 s (s.length - 1) = 32)) && (List.range s.length).all fun i => signB (at8 s i)
/-! ### Uploads -/
structure Session where
  num : Int
  who : Str
  text : Str
  size : Int
  till : Int
  deriving Inhabited, DecidableEq
structure Uploads where
  ss : List Session
  next : Int
  lasts : Int
  room : Int
  deriving Inhabited, DecidableEq
def Session.enc (s : Session) : List V := [.int .i64 s.num, .str s.who, .str s.text, .int .i64 s.size, .int .i64 s.till]
abbrev ssV (l : List Session) : V := lstV 5 Session.enc default l
def Uploads.enc (u : Uploads) : V := .agg [ssV u.ss, .int .i64 u.next, .int .i64 u.lasts, .int .i64 u.room]
attribute [go_sem] Session.enc Uploads.enc
def within (n a b : Int) : Bool := decide (a ≤ n) && decide (n ≤ b)
/-- open sizes of somebody -/
def openW (l : List Session) (who : Str) : Int := l.foldl (fun n s => if s.who = who then wrap (n + s.size) else n) 0
/-- what is wrong with a session -/
def sessErr (u : Uploads) (s : Session) : Int :=
  if (!within s.num 1 (wrap (u.next - 1)) || !within s.size 0 300 || !within s.till 0 2199023255552) = true then 3
  else if isName s.who = false then 1
  else if s.size < (s.text.length : Int) then 2 else 0
/-- the first thing that is wrong, in some order -/
def firstErr {α : Type} (f : α → Int) : List α → Int
  | [] => 0
  | x :: l => if f x ≠ 0 then f x else firstErr f l
/-- do numbers rise? -/
def risesAt (l : List Session) (i : Nat) : Bool := decide ((l.getD (i - 1) default).num < (l.getD i default).num)
def checkU (u : Uploads) : Int :=
  if (!within u.lasts 1 1000000 || !within u.room 0 100000 || !within u.next 1 1099511627776) = true then 3
  else if 20 < (u.ss.length : Int) then 2
  else if firstErr (sessErr u) u.ss ≠ 0 then firstErr (sessErr u) u.ss
  else if ((List.range u.ss.length).all fun i => i = 0 || risesAt u.ss i) = false then 4
  else if (u.ss.all fun s => decide (openW u.ss s.who ≤ u.room)) = false then 10
  else 0
theorem foldl_take {α β : Type} (f : β → α → β) (a : β) (l : List α) (d : α) {i : Nat} (h : i < l.length) : (l.take (i + 1)).foldl f a = f ((l.take i).foldl f a) (l.getD i d) := by
  rw [List.take_succ_eq_append_getElem h, List.foldl_append]
  simp [List.getD, h]
theorem firstErr_at {α : Type} {f : α → Int} {l : List α} {d : α} {i : Nat} (hi : i < l.length) (hb : ∀ j, j < i → f (l.getD j d) = 0) (h : f (l.getD i d) ≠ 0) : firstErr f l = f (l.getD i d) := by
  induction l generalizing i with
  | nil => simp at hi
  | cons x l ih =>
    cases i with
    | zero => simpa [firstErr] using fun h' => absurd h' (by simpa using h)
    | succ i =>
      have h0 := hb 0 (by omega)
      simp at h0
      simp only [firstErr, h0]
      simpa using ih (by simpa using hi) (fun j hj => by simpa using hb (j + 1) (by omega)) (by simpa using h)
theorem firstErr_none {α : Type} {f : α → Int} {l : List α} {d : α} (hb : ∀ j, j < l.length → f (l.getD j d) = 0) : firstErr f l = 0 := by
  induction l with
  | nil => rfl
  | cons x l ih =>
    have h0 := hb 0 (by simp)
    simp at h0
    simp only [firstErr, h0]
    simpa using ih fun j hj => by simpa using hb (j + 1) (by simpa using hj)
theorem all_next {p : Nat → Prop} {i : Nat} (h : ∀ j, j < i → p j) (hi : p i) : ∀ j, j < i + 1 → p j := fun j hj => by
  rcases Nat.lt_or_ge j i with h' | h'
  · exact h j h'
  · obtain rfl : j = i := by omega
    exact hi
theorem getD_take {α : Type} {l : List α} {d : α} {i q : Nat} (h : q < i) : (l.take i).getD q d = l.getD q d := by
  simp [List.getD, List.getElem?_take, h]
theorem getD_mem {α : Type} {l : List α} {d : α} {i : Nat} (h : i < l.length) : l.getD i d ∈ l := by
  simp [List.getD, h]
theorem range_all_false {n i : Nat} {p : Nat → Bool} (hi : i < n) (h : p i = false) : (List.range n).all p = false := by
  rw [List.all_eq_false]; exact ⟨i, by simpa using hi, by simpa using h⟩
theorem range_all_true {n : Nat} {p : Nat → Bool} (h : ∀ i, i < n → p i = true) : (List.range n).all p = true := by
  rw [List.all_eq_true]; exact fun i hi => h i (by simpa using hi)
theorem all_at {α : Type} {l : List α} {p : α → Bool} {d : α} {i : Nat} (hi : i < l.length) (h : p (l.getD i d) = false) : l.all p = false := by
  rw [List.all_eq_false]; exact ⟨l[i], List.getElem_mem hi, by simpa [List.getD, hi] using h⟩
theorem all_of {α : Type} {l : List α} {p : α → Bool} {d : α} (h : ∀ i, i < l.length → p (l.getD i d) = true) : l.all p = true := by
  rw [List.all_eq_true]
  intro x hx
  obtain ⟨i, hi, rfl⟩ := List.getElem_of_mem hx
  simpa [List.getD, hi] using h i hi
end Tether
