import Derived.Test.YtbeimhhhgjaaaaaDoorWV5
import Derived.Test.YtbeimhhhgjaaaaaDoorChecked
import Derived.Lib.Strings
import Derived.Lib.Slices
import Derived.Lib.Walk
import Derived.Lib.Bytealg
import Derived.RangeFuncBound
import Derived.RangeFuncCalls
import Derived.RangeFuncLeaves
import Derived.Shelf.Abstract
import Derived.Shelf.RegionOpen
import Derived.WalkKit
import Derived.OwnWalkIn
import Derived.TacticsInMore
import Derived.LoopNIn
import Derived.LoopIn
section
set_option maxHeartbeats 4000000
set_option linter.unusedVariables false
open Go Go.VM Go.Proofs
namespace Go.VM.Tryd
theorem tn3 : tint Tryd.prog 3 = true := by kernel_rfl
theorem ty3 : tbyte Tryd.prog 3 = false := by kernel_rfl
theorem tk3 : tkind Tryd.prog 3 = (.int .i64) := by kernel_rfl
theorem ti3 : ti Tryd.prog 3 = ⟨1, 8, (some false), none, (.int .i64), (some [.int .i64 (0)])⟩ := by kernel_rfl
theorem tk4 : tkind Tryd.prog 4 = .bool := by kernel_rfl
theorem ti4 : ti Tryd.prog 4 = ⟨1, 1, (some false), none, .bool, (some [.bool false])⟩ := by kernel_rfl
theorem tk5 : tkind Tryd.prog 5 = (.int .u8) := by kernel_rfl
theorem tk9 : tkind Tryd.prog 9 = .str := by kernel_rfl
theorem te9 : telem Tryd.prog 9 = none := by kernel_rfl
theorem ts9 : tsize Tryd.prog 9 = 1 := by kernel_rfl
theorem tb9 : tbytes Tryd.prog 9 = 16 := by kernel_rfl
theorem tz9 : tzero Tryd.prog 9 = (some [.str []]) := by kernel_rfl
theorem ti9 : ti Tryd.prog 9 = ⟨1, 16, (some false), none, .str, (some [.str []])⟩ := by kernel_rfl
theorem tn22 : tint Tryd.prog 22 = false := by kernel_rfl
theorem tk22 : tkind Tryd.prog 22 = .slice := by kernel_rfl
theorem te22 : telem Tryd.prog 22 = (some 36) := by kernel_rfl
theorem ts22 : tsize Tryd.prog 22 = 1 := by kernel_rfl
theorem tz22 : tzero Tryd.prog 22 = (some [.nil]) := by kernel_rfl
theorem ti22 : ti Tryd.prog 22 = ⟨1, 24, (some false), (some 36), .slice, (some [.nil])⟩ := by kernel_rfl
theorem tn23 : tint Tryd.prog 23 = false := by kernel_rfl
theorem tk23 : tkind Tryd.prog 23 = .slice := by kernel_rfl
theorem te23 : telem Tryd.prog 23 = (some 45) := by kernel_rfl
theorem ti23 : ti Tryd.prog 23 = ⟨1, 24, (some false), (some 45), .slice, (some [.nil])⟩ := by kernel_rfl
theorem pl25 : tplaces Tryd.prog 25 = (some [(0, 1), (1, 1), (2, 1), (3, 1), (4, 1), (5, 1), (6, 1), (7, 1)]) := by kernel_rfl
theorem tf25_0 : tfield Tryd.prog 25 0 = (some (0, 9)) := by kernel_rfl
theorem tf25_1 : tfield Tryd.prog 25 1 = (some (1, 9)) := by kernel_rfl
theorem tf25_2 : tfield Tryd.prog 25 2 = (some (2, 22)) := by kernel_rfl
theorem tf25_3 : tfield Tryd.prog 25 3 = (some (3, 3)) := by kernel_rfl
theorem tf25_4 : tfield Tryd.prog 25 4 = (some (4, 22)) := by kernel_rfl
theorem tf25_5 : tfield Tryd.prog 25 5 = (some (5, 9)) := by kernel_rfl
theorem tf25_6 : tfield Tryd.prog 25 6 = (some (6, 23)) := by kernel_rfl
theorem tf25_7 : tfield Tryd.prog 25 7 = (some (7, 3)) := by kernel_rfl
theorem tz25 : tzero Tryd.prog 25 = (some [.str [], .str [], .nil, .int .i64 (0), .nil, .str [], .nil, .int .i64 (0)]) := by kernel_rfl
theorem ti25 : ti Tryd.prog 25 = ⟨8, 136, (some true), none, .other, (some [.str [], .str [], .nil, .int .i64 (0), .nil, .str [], .nil, .int .i64 (0)])⟩ := by kernel_rfl
theorem pl28 : tplaces Tryd.prog 28 = (some [(0, 1), (1, 1), (2, 1), (3, 1), (4, 1), (5, 1), (6, 1), (7, 1), (8, 1), (9, 1)]) := by kernel_rfl
theorem tf28_4 : tfield Tryd.prog 28 4 = (some (4, 9)) := by kernel_rfl
theorem tf28_9 : tfield Tryd.prog 28 9 = (some (9, 23)) := by kernel_rfl
theorem tz28 : tzero Tryd.prog 28 = (some [.int .i64 (0), .str [], .str [], .str [], .str [], .str [], .int .i64 (0), .int .i64 (0), .int .i64 (0), .nil]) := by kernel_rfl
theorem ti28 : ti Tryd.prog 28 = ⟨10, 136, (some true), none, .other, (some [.int .i64 (0), .str [], .str [], .str [], .str [], .str [], .int .i64 (0), .int .i64 (0), .int .i64 (0), .nil])⟩ := by kernel_rfl
theorem tk29 : tkind Tryd.prog 29 = (.int .i64) := by kernel_rfl
theorem tz29 : tzero Tryd.prog 29 = (some [.int .i64 (0)]) := by kernel_rfl
theorem ti29 : ti Tryd.prog 29 = ⟨1, 8, (some false), none, (.int .i64), (some [.int .i64 (0)])⟩ := by kernel_rfl
theorem pl36 : tplaces Tryd.prog 36 = (some [(0, 1), (1, 1), (2, 1), (3, 1)]) := by kernel_rfl
theorem tf36_0 : tfield Tryd.prog 36 0 = (some (0, 9)) := by kernel_rfl
theorem tf36_1 : tfield Tryd.prog 36 1 = (some (1, 4)) := by kernel_rfl
theorem tf36_2 : tfield Tryd.prog 36 2 = (some (2, 9)) := by kernel_rfl
theorem tf36_3 : tfield Tryd.prog 36 3 = (some (3, 3)) := by kernel_rfl
theorem tk36 : tkind Tryd.prog 36 = (.flat [2, 0, 2, 1]) := by kernel_rfl
theorem ts36 : tsize Tryd.prog 36 = 4 := by kernel_rfl
theorem tb36 : tbytes Tryd.prog 36 = 48 := by kernel_rfl
theorem tz36 : tzero Tryd.prog 36 = (some [.str [], .bool false, .str [], .int .i64 (0)]) := by kernel_rfl
theorem ti36 : ti Tryd.prog 36 = ⟨4, 48, (some true), none, (.flat [2, 0, 2, 1]), (some [.str [], .bool false, .str [], .int .i64 (0)])⟩ := by kernel_rfl
theorem pl45 : tplaces Tryd.prog 45 = (some [(0, 1), (1, 1), (2, 1), (3, 1), (4, 1)]) := by kernel_rfl
theorem tf45_0 : tfield Tryd.prog 45 0 = (some (0, 3)) := by kernel_rfl
theorem tf45_1 : tfield Tryd.prog 45 1 = (some (1, 9)) := by kernel_rfl
theorem tf45_2 : tfield Tryd.prog 45 2 = (some (2, 9)) := by kernel_rfl
theorem tf45_3 : tfield Tryd.prog 45 3 = (some (3, 9)) := by kernel_rfl
theorem tf45_4 : tfield Tryd.prog 45 4 = (some (4, 3)) := by kernel_rfl
theorem tk45 : tkind Tryd.prog 45 = (.flat [1, 2, 2, 2, 1]) := by kernel_rfl
theorem ts45 : tsize Tryd.prog 45 = 5 := by kernel_rfl
theorem tb45 : tbytes Tryd.prog 45 = 64 := by kernel_rfl
theorem tz45 : tzero Tryd.prog 45 = (some [.int .i64 (0), .str [], .str [], .str [], .int .i64 (0)]) := by kernel_rfl
theorem ti45 : ti Tryd.prog 45 = ⟨5, 64, (some true), none, (.flat [1, 2, 2, 2, 1]), (some [.int .i64 (0), .str [], .str [], .str [], .int .i64 (0)])⟩ := by kernel_rfl
theorem tk64 : tkind Tryd.prog 64 = .slice := by kernel_rfl
theorem te64 : telem Tryd.prog 64 = (some 22) := by kernel_rfl
theorem tn67 : tint Tryd.prog 67 = false := by kernel_rfl
theorem tk67 : tkind Tryd.prog 67 = .slice := by kernel_rfl
theorem te67 : telem Tryd.prog 67 = (some 9) := by kernel_rfl
theorem tz76 : tzero Tryd.prog 76 = (some [.bad]) := by kernel_rfl
theorem ti76 : ti Tryd.prog 76 = ⟨1, 8, (some false), none, .other, (some [.bad])⟩ := by kernel_rfl
theorem ty94 : tbyte Tryd.prog 94 = false := by kernel_rfl
theorem tk94 : tkind Tryd.prog 94 = (.int .u64) := by kernel_rfl
theorem fb3 : fbody Tryd.prog 3 = true := by kernel_rfl
theorem fb4 : fbody Tryd.prog 4 = true := by kernel_rfl
theorem fb5 : fbody Tryd.prog 5 = true := by kernel_rfl
theorem fb6 : fbody Tryd.prog 6 = true := by kernel_rfl
theorem fb7 : fbody Tryd.prog 7 = true := by kernel_rfl
theorem fb8 : fbody Tryd.prog 8 = true := by kernel_rfl
theorem fb9 : fbody Tryd.prog 9 = true := by kernel_rfl
theorem fb10 : fbody Tryd.prog 10 = true := by kernel_rfl
theorem fb11 : fbody Tryd.prog 11 = true := by kernel_rfl
theorem fb12 : fbody Tryd.prog 12 = true := by kernel_rfl
theorem fb13 : fbody Tryd.prog 13 = true := by kernel_rfl
theorem fb14 : fbody Tryd.prog 14 = true := by kernel_rfl
theorem fb15 : fbody Tryd.prog 15 = true := by kernel_rfl
theorem fb16 : fbody Tryd.prog 16 = true := by kernel_rfl
theorem fb17 : fbody Tryd.prog 17 = true := by kernel_rfl
theorem fb19 : fbody Tryd.prog 19 = true := by kernel_rfl
theorem fb20 : fbody Tryd.prog 20 = true := by kernel_rfl
theorem fb21 : fbody Tryd.prog 21 = true := by kernel_rfl
theorem fb22 : fbody Tryd.prog 22 = true := by kernel_rfl
theorem fb23 : fbody Tryd.prog 23 = true := by kernel_rfl
theorem fb24 : fbody Tryd.prog 24 = true := by kernel_rfl
theorem fb25 : fbody Tryd.prog 25 = true := by kernel_rfl
theorem fb26 : fbody Tryd.prog 26 = true := by kernel_rfl
theorem fb27 : fbody Tryd.prog 27 = true := by kernel_rfl
theorem fb28 : fbody Tryd.prog 28 = true := by kernel_rfl
theorem fb29 : fbody Tryd.prog 29 = true := by kernel_rfl
theorem fb30 : fbody Tryd.prog 30 = true := by kernel_rfl
theorem fb31 : fbody Tryd.prog 31 = true := by kernel_rfl
theorem fb32 : fbody Tryd.prog 32 = true := by kernel_rfl
theorem fb33 : fbody Tryd.prog 33 = true := by kernel_rfl
theorem fb34 : fbody Tryd.prog 34 = true := by kernel_rfl
theorem fb35 : fbody Tryd.prog 35 = true := by kernel_rfl
theorem fb36 : fbody Tryd.prog 36 = true := by kernel_rfl
theorem fb37 : fbody Tryd.prog 37 = true := by kernel_rfl
theorem fb38 : fbody Tryd.prog 38 = true := by kernel_rfl
theorem fb40 : fbody Tryd.prog 40 = true := by kernel_rfl
theorem fb41 : fbody Tryd.prog 41 = true := by kernel_rfl
theorem fb42 : fbody Tryd.prog 42 = true := by kernel_rfl
theorem fb43 : fbody Tryd.prog 43 = true := by kernel_rfl
theorem fb44 : fbody Tryd.prog 44 = true := by kernel_rfl
theorem fb45 : fbody Tryd.prog 45 = true := by kernel_rfl
theorem fb47 : fbody Tryd.prog 47 = true := by kernel_rfl
theorem fb49 : fbody Tryd.prog 49 = true := by kernel_rfl
theorem fb50 : fbody Tryd.prog 50 = true := by kernel_rfl
theorem fb51 : fbody Tryd.prog 51 = true := by kernel_rfl
theorem fb52 : fbody Tryd.prog 52 = true := by kernel_rfl
theorem fb53 : fbody Tryd.prog 53 = true := by kernel_rfl
theorem fb55 : fbody Tryd.prog 55 = true := by kernel_rfl
theorem fb56 : fbody Tryd.prog 56 = true := by kernel_rfl
theorem fb57 : fbody Tryd.prog 57 = true := by kernel_rfl
theorem fb58 : fbody Tryd.prog 58 = true := by kernel_rfl
theorem fb59 : fbody Tryd.prog 59 = true := by kernel_rfl
theorem fb60 : fbody Tryd.prog 60 = true := by kernel_rfl
theorem fb61 : fbody Tryd.prog 61 = true := by kernel_rfl
theorem fb62 : fbody Tryd.prog 62 = true := by kernel_rfl
theorem fb63 : fbody Tryd.prog 63 = true := by kernel_rfl
theorem fb65 : fbody Tryd.prog 65 = true := by kernel_rfl
theorem fb66 : fbody Tryd.prog 66 = true := by kernel_rfl
theorem fb71 : fbody Tryd.prog 71 = true := by kernel_rfl
theorem fb72 : fbody Tryd.prog 72 = true := by kernel_rfl
theorem fb73 : fbody Tryd.prog 73 = true := by kernel_rfl
theorem fb74 : fbody Tryd.prog 74 = true := by kernel_rfl
theorem fb75 : fbody Tryd.prog 75 = true := by kernel_rfl
theorem fb76 : fbody Tryd.prog 76 = true := by kernel_rfl
theorem fb77 : fbody Tryd.prog 77 = true := by kernel_rfl
theorem fb84 : fbody Tryd.prog 84 = true := by kernel_rfl
theorem fb85 : fbody Tryd.prog 85 = true := by kernel_rfl
theorem fb88 : fbody Tryd.prog 88 = true := by kernel_rfl
theorem fb91 : fbody Tryd.prog 91 = true := by kernel_rfl
theorem fb92 : fbody Tryd.prog 92 = true := by kernel_rfl
theorem fb96 : fbody Tryd.prog 96 = true := by kernel_rfl
theorem fb100 : fbody Tryd.prog 100 = true := by kernel_rfl
theorem mixed : Tryd.prog.follows .mixedOrders = true := by kernel_rfl
attribute [go_sem] tn3 ty3 tk3 ti3 tk4 ti4 tk5 tk9 te9 ts9 tb9 tz9 ti9 tn22 tk22 te22 ts22 tz22 ti22 tn23 tk23 te23 ti23 pl25 tf25_0 tf25_1 tf25_2 tf25_3 tf25_4 tf25_5 tf25_6 tf25_7 tz25 ti25 pl28 tf28_4 tf28_9 tz28 ti28 tk29 tz29 ti29 pl36 tf36_0 tf36_1 tf36_2 tf36_3 tk36 ts36 tb36 tz36 ti36 pl45 tf45_0 tf45_1 tf45_2 tf45_3 tf45_4 tk45 ts45 tb45 tz45 ti45 tk64 te64 tn67 tk67 te67 tz76 ti76 ty94 tk94
end Go.VM.Tryd
end
section
set_option maxHeartbeats 4000000
set_option linter.unusedVariables false
set_option linter.unusedSimpArgs false
open Go Go.VM Go.Proofs
namespace Go.VM.Tryd
set_option maxHeartbeats 1000000 in
set_option maxRecDepth 100000 in
theorem stringslite_IndexByte (s : ByteArray) (c : Int) (w : World) :
    Calls Tryd.prog 63 #[.string s, .int .u8 c] w fun e w' => e = .returned (.int .i64 (Lib.indexByte s.data.toList c.toNat.toUInt8)) ∧ w' = w := by
  go_enter Tryd.func63, Tryd.ntmps63
  go_wp2
  rw [run_callFunc_extern Tryd.func78 (by kernel_rfl) (by kernel_rfl) (by kernel_rfl) (e := Extern.BytealgIndexByte.indexByte) (by kernel_rfl), Lib.run_indexByteString]
  simp only [Result.andThen]
  rw [Oper.upon_value]
  go_wp2
  go_ret
  exact ⟨rfl, rfl⟩
theorem idx0 (s : List UInt8) (c : Int) : Meets Tryd.prog 63 [.str s, .int .u8 c] (.int .i64 (Lib.indexByte s c.toNat.toUInt8)) [] :=
  meets_pure (us0 := #[.string ⟨s.toArray⟩, .int .u8 c]) fb63 (fun c' us hsz hus => args2 hsz hus (fun u h => by simpa only [VR] using h) (fun u h => by simpa only [VR] using h)) (u0 := .int .i64 (Lib.indexByte s c.toNat.toUInt8)) (fun c => by simp only [VR])
    fun w => by simpa using stringslite_IndexByte ⟨s.toArray⟩ c w
set_option maxRecDepth 100000
theorem IndexByte (s : List UInt8) (c : Int) : Meets Tryd.prog 45 [.str s, .int .u8 c] (.int .i64 (Lib.indexByte s c.toNat.toUInt8)) [] := by
  refine meets_x (fn := Tryd.f45) Tryd.func45 rfl fb45 (by kernel_rfl) (Nat.le_of_ble_eq_true rfl) ?_
  refine cx_sr ?_
  simp only [go_sem]
  repeat first | (with_reducible refine side_d ?_ ?_; exact byD) | (with_reducible refine side_q ?_ ?_; exact byQ)
  refine cx_sr ?_
  simp only [go_sem]
  refine cw_m (idx0 s c) byW byT ?_
  simp only [go_sem]
  refine cx_ret ?_
  simp only [go_sem]
  exact finw_int rfl
theorem Index1 (s : List UInt8) : Meets Tryd.prog 100 [.str s, .str [47]] (.int .i64 (Lib.indexByte s 47)) [] := by
  refine meets_x (fn := Tryd.f100) Tryd.func100 rfl fb100 (by kernel_rfl) (Nat.le_of_ble_eq_true rfl) ?_
  refine cx_sr ?_
  simp only [go_sem]
  repeat first | (with_reducible refine side_d ?_ ?_; exact byD) | (with_reducible refine side_q ?_ ?_; exact byQ)
  refine cx_sr ?_
  simp only [go_sem]
  refine cx_seq (cx_block ?_)
  refine cx_sr ?_
  simp only [go_sem]
  intro t18 e18
  intro t22 e22
  intro t23 e23
  rw [bsel_or] at e23
  subst e18 e22 e23
  refine cx_if _ rfl (fun h16 => ?_) (fun h16 => ?_)
  ·
   (try simp only [go_sem] at h16)
   refine cx_sr ?_
   simp only [go_sem]
   refine cx_ret ?_
   simp only [go_sem]
   have h : [47] = s := by simpa using h16
   subst h
   exact finw_int (by decide)
  ·
   (try simp only [go_sem] at h16)
   refine cx_sr ?_
   simp only [go_sem]
   intro t26 e26
   subst e26
   refine cx_if _ rfl (fun h24 => ?_) (fun h24 => ?_)
   ·
    (try simp only [go_sem] at h24)
    refine cx_sr ?_
    simp only [go_sem]
    repeat first | (with_reducible refine side_d ?_ ?_; exact byD) | (with_reducible refine side_q ?_ ?_; exact byQ)
    intro t29 e29
    refine cw_m (idx0 s 47) byW byT ?_
    simp only [go_sem]
    refine cx_ret ?_
    simp only [go_sem]
    exact finw_int rfl
   · simp_all
theorem Index (s : List UInt8) : Meets Tryd.prog 96 [.str s, .str [47]] (.int .i64 (Lib.indexByte s 47)) [] := by
  refine meets_x (fn := Tryd.f96) Tryd.func96 rfl fb96 (by kernel_rfl) (Nat.le_of_ble_eq_true rfl) ?_
  refine cx_sr ?_
  simp only [go_sem]
  repeat first | (with_reducible refine side_d ?_ ?_; exact byD) | (with_reducible refine side_q ?_ ?_; exact byQ)
  refine cx_sr ?_
  simp only [go_sem]
  refine cw_m (Index1 s) byW byT ?_
  simp only [go_sem]
  refine cx_ret ?_
  simp only [go_sem]
  exact finw_int rfl
end Go.VM.Tryd
end
section
set_option maxHeartbeats 4000000
set_option linter.unusedVariables false
open Go Go.VM Go.Proofs
namespace Go.VM.Tryd
/-- the pieces between the slashes -/
def pcs : List UInt8 → List (List UInt8)
  | [] => [[]]
  | b :: r => if b = 47 then [] :: pcs r else match pcs r with
    | [] => [[b]]
    | x :: xs => (b :: x) :: xs
theorem pcs_ix : ∀ s : List UInt8, (Lib.indexByte s 47 = -1 ∧ pcs s = [s]) ∨ ∃ i : Nat, i < s.length ∧ Lib.indexByte s 47 = i ∧ pcs s = s.take i :: pcs (s.drop (i + 1))
  | [] => .inl ⟨rfl, rfl⟩
  | b :: r => by
    by_cases h1 : b = 47
    · exact .inr ⟨0, by simp, by simp [Lib.indexByte, h1], by simp [pcs, h1]⟩
    · rcases pcs_ix r with ⟨h2, h3⟩ | ⟨i, h2, h3, h4⟩
      · exact .inl ⟨by simp [Lib.indexByte, h1, h2], by simp [pcs, h1, h3]⟩
      · refine .inr ⟨i + 1, by simp; omega, ?_, by simp [pcs, h1, h4]⟩
        have : ¬ ((i : Int) = -1) := by omega
        simp [Lib.indexByte, h1, h3, this]
theorem pcs_ne (s : List UInt8) : pcs s ≠ [] := by
  rcases pcs_ix s with ⟨_, h⟩ | ⟨i, _, _, h⟩ <;> simp [h]
end Go.VM.Tryd
end
section
set_option maxHeartbeats 4000000
set_option linter.unusedVariables false
open Go Go.VM Go.Proofs Go.RowKit Go.Shelf
namespace Go.VM.Tryd
attribute [local go_sem] Oper.semAt_some
theorem idx_calls (s : List UInt8) (w : World) (gt : GT Tryd.prog w) : Calls Tryd.prog 96 #[.string ⟨s.toArray⟩, .string ⟨#[47]⟩] w fun e w' => e = .returned (.int .i64 (Lib.indexByte s 47)) ∧ KB (fun _ => False) w w' := by
  have h := (Index s).2 w (fun _ => False) gt (fun _ h => h.elim) #[.string ⟨s.toArray⟩, .string ⟨#[47]⟩] rfl (by simp [VRs, VR])
  refine h.mono ?_
  rintro e w' ⟨c', u, rfl, rfl, h1, h2⟩
  simp only [VR] at h2
  exact ⟨by rw [h2], h1.fr.os, h1.fr.tape, h1.fr.output, h1.fr.size, fun k hk _ => h1.fr.block k hk (fun h => h)⟩
theorem set_box {W : World} {B : Nat} {v u : Value} {el : TypeId} (h : W.heap[B]? = some (.cells #[u] el)) :
    (W.setCell ⟨B, 0, none⟩ v).heap[B]? = some (.cells #[v] el) ∧ KB (· = B) W (W.setCell ⟨B, 0, none⟩ v) := by
  refine ⟨by simp [World.setCell, Array.getElem?_modify, h], rfl, rfl, rfl, by simp [World.setCell], fun k hk hS => ?_⟩
  have hne : B ≠ k := fun e => hS e.symm
  simp [World.setCell, Array.getElem?_modify, hne]
def left (Bs : Nat) (W : World) : Nat := match W.cell? ⟨Bs, 0, none⟩ with | some (.string b) => b.size | _ => 0
theorem left_eq {W : World} {B : Nat} {u : ByteArray} {el : TypeId} (h : W.heap[B]? = some (.cells #[.string u] el)) : left B W = u.size := by
  simp [left, World.cell?, h]
set_option maxRecDepth 100000 in
set_option maxHeartbeats 2000000 in
theorem split_in (l Bs Bp Bv : Nat) (es ep ev : TypeId) (hsp : Bp ≠ Bs) (hsv : Bv ≠ Bs) (s : List UInt8) (hb : s.length < 4611686018427387904) (J Jx : List (List UInt8) → World → Prop)
    (hJ : ∀ pre A B, J pre A → KB (fun k => k = Bs ∨ k = Bp ∨ k = Bv) A B → J pre B)
    (hJx : ∀ pre A B, Jx pre A → KB (fun k => k = Bs ∨ k = Bp ∨ k = Bv) A B → Jx pre B)
    (hG : ∀ pre A, J pre A → GT Tryd.prog A)
    (hY : ∀ pre x A, (pre ++ [x]) <+: pcs s → J pre A → YieldAt Fence.wide 0 Tryd.prog l #[.string ⟨x.toArray⟩] A fun e B =>
      (e = .returned (.bool true) ∧ J (pre ++ [x]) B ∧ B.heap[Bs]? = A.heap[Bs]? ∧ B.heap[Bp]? = A.heap[Bp]? ∧ B.heap[Bv]? = A.heap[Bv]?) ∨ (e = .returned (.bool false) ∧ Jx (pre ++ [x]) B))
    (W : World) (h1 : W.heap[Bs]? = some (.cells #[.string ⟨s.toArray⟩] es)) (h2 : W.heap[Bp]? = some (.cells #[.string ⟨#[47]⟩] ep)) (h3 : W.heap[Bv]? = some (.cells #[.int .i64 0] ev)) (h0 : J [] W) :
    CallsIn Fence.wide 1 Tryd.prog 97 #[.func (.yield l) #[] #[], .pointer (some ⟨Bp, 0, none⟩), .pointer (some ⟨Bs, 0, none⟩), .pointer (some ⟨Bv, 0, none⟩)] W fun e B => (∃ v, e = .returned v) ∧ (J (pcs s) B ∨ ∃ pre, pre <+: pcs s ∧ Jx pre B) := by
  refine callsIn_of_wp Tryd.func97 rfl trivial ?_ rfl
  simp only [Tryd.ntmps97, List.size_toArray, List.length_cons, List.length_nil, Nat.reduceAdd, Nat.reduceSub, Array.replicate_succ, Array.replicate_zero, List.push_toArray, List.append_toArray, List.nil_append, List.cons_append]
  have c2 : W.cell? ⟨Bp, 0, none⟩ = some (.string ⟨#[47]⟩) := by simp [World.cell?, h2]
  have n1 : (1 : Nat) ≤ 1 := Nat.le_refl _
  gi_wp2
  gi_loopw [] (fun wr => ∃ (pre : List (List UInt8)) (r : List UInt8), pre ++ pcs r = pcs s ∧ r.length ≤ s.length ∧ J pre wr ∧ wr.heap[Bs]? = some (.cells #[.string ⟨r.toArray⟩] es) ∧ wr.heap[Bp]? = some (.cells #[.string ⟨#[47]⟩] ep) ∧ wr.heap[Bv]? = some (.cells #[.int .i64 0] ev))
    (fun wr => left Bs wr)
  case atStart => exact ⟨[], s, rfl, Nat.le_refl _, h0, h1, h2, h3⟩
  case round =>
    obtain ⟨pre, r, hpre, hlen, hj, k1, k2, k3⟩ := hrel
    have d1 : wr.cell? ⟨Bs, 0, none⟩ = some (.string ⟨r.toArray⟩) := by simp [World.cell?, k1]
    have d2 : wr.cell? ⟨Bp, 0, none⟩ = some (.string ⟨#[47]⟩) := by simp [World.cell?, k2]
    have d3 : wr.cell? ⟨Bv, 0, none⟩ = some (.int .i64 0) := by simp [World.cell?, k3]
    gi_wp2
    refine ⟨trivial, ?_⟩
    refine ((callsIn_wide (n := 0)).2 (idx_calls r wr (hG _ _ hj))).mono ?_
    rintro e w2 ⟨rfl, hkb⟩
    have hlt : ∀ {k : Nat} {o : Obj}, wr.heap[k]? = some o → w2.heap[k]? = some o := fun {k o} h => (hkb.2.2.2.2 k (Array.getElem?_eq_some_iff.1 h).1 (fun h => h)).trans h
    have hj2 := hJ _ _ _ hj (hkb.mono fun k h => h.elim)
    have q1 := hlt k1
    have q2 := hlt k2
    have q3 := hlt k3
    have e1 : w2.cell? ⟨Bs, 0, none⟩ = some (.string ⟨r.toArray⟩) := by simp [World.cell?, q1]
    have e2 : w2.cell? ⟨Bp, 0, none⟩ = some (.string ⟨#[47]⟩) := by simp [World.cell?, q2]
    have e3 : w2.cell? ⟨Bv, 0, none⟩ = some (.int .i64 0) := by simp [World.cell?, q3]
    have f1 : w2.frozen? ⟨Bs, 0, none⟩ = false := by simp [World.frozen?, q1]
    rcases pcs_ix r with ⟨g1, g2⟩ | ⟨i, g1, g2, g3⟩
    · rw [g1]
      rw [g2] at hpre
      obtain ⟨fn, tmps, assign, body, hy, hR⟩ := hY pre r w2 (by rw [hpre]; exact List.prefix_refl _) hj2
      gi_wp2
      refine hR.mono ?_
      rintro e W3 (⟨rfl, hJ3, m1, m2, m3⟩ | ⟨rfl, hJx3⟩)
      · gi_wp2
        go_end0
        exact ⟨⟨_, rfl⟩, .inl (by rw [← hpre]; exact hJ3)⟩
      · gi_wp2
        go_end0
        exact ⟨⟨_, rfl⟩, .inr ⟨_, by rw [hpre]; exact List.prefix_refl _, hJx3⟩⟩
    · rw [g2]
      rw [g3] at hpre
      obtain ⟨fn, tmps, assign, body, hy, hR⟩ := hY pre (r.take i) w2 ⟨pcs (r.drop (i + 1)), by rw [← hpre]; simp⟩ hj2
      have hx : (⟨r.toArray⟩ : ByteArray).extract 0 i = ⟨(r.take i).toArray⟩ := by
        apply ByteArray.ext
        simp
      gi_wp2
      refine hR.mono ?_
      rintro e W3 (⟨rfl, hJ3, m1, m2, m3⟩ | ⟨rfl, hJx3⟩)
      · rw [q1] at m1
        rw [q2] at m2
        rw [q3] at m3
        have e1 : W3.cell? ⟨Bs, 0, none⟩ = some (.string ⟨r.toArray⟩) := by simp [World.cell?, m1]
        have e2 : W3.cell? ⟨Bp, 0, none⟩ = some (.string ⟨#[47]⟩) := by simp [World.cell?, m2]
        have f1 : W3.frozen? ⟨Bs, 0, none⟩ = false := by simp [World.frozen?, m1]
        gi_wp2
        have hx2 : (⟨r.toArray⟩ : ByteArray).extract (i + 1) r.length = ⟨(r.drop (i + 1)).toArray⟩ := by
          apply ByteArray.ext
          simp
          exact List.take_of_length_le (by simp)
        rw [hx2]
        obtain ⟨s1, s2⟩ := set_box (v := .string ⟨(r.drop (i + 1)).toArray⟩) m1
        refine ⟨⟨pre ++ [r.take i], r.drop (i + 1), by rw [← hpre]; simp, by simp; omega, hJ _ _ _ hJ3 (s2.mono fun k h => .inl h), s1, ?_, ?_⟩, ?_⟩
        · exact (s2.2.2.2.2 Bp (Array.getElem?_eq_some_iff.1 m2).1 hsp).trans m2
        · exact (s2.2.2.2.2 Bv (Array.getElem?_eq_some_iff.1 m3).1 hsv).trans m3
        · have z1 := left_eq s1
          have z2 := left_eq k1
          have y1 : ((r.drop (i + 1)).toArray : Array UInt8).size = r.length - (i + 1) := by simp
          have y2 : (r.toArray : Array UInt8).size = r.length := by simp
          show left Bs _ < left Bs wr
          rw [z1, z2]
          show ((r.drop (i + 1)).toArray : Array UInt8).size < (r.toArray : Array UInt8).size
          omega
      · gi_wp2
        refine bodyPost_ret (results_none rfl _ _ _) rfl ?_
        exact ⟨⟨_, rfl⟩, .inr ⟨_, ⟨pcs (r.drop (i + 1)), by rw [← hpre]; simp⟩, hJx3⟩⟩
end Go.VM.Tryd
end
section
set_option maxHeartbeats 4000000
set_option linter.unusedVariables false
open Go Go.VM Go.Proofs Go.RowKit
namespace Go.VM.Tryd
theorem ptr_is {c : Ctx} {r off : Nat} {u : Value} (h : VR c (.ptr r off) u) : ∃ b m, c.locs[r]? = some (some (b, m)) ∧ u = .pointer (some ⟨b, off, none⟩) := by
  simp only [VR] at h
  split at h
  · rename_i b m hl
    exact ⟨b, m, hl, h⟩
  · exact h.elim
theorem box_is {F : Fr} {c : Ctx} {H : Heap} {r b m : Nat} {v : V} (hs : SR F c H) (hr : H[r]? = some (.box [v])) (hl : c.locs[r]? = some (some (b, m))) : ∃ u el, c.w.heap[b]? = some (.cells #[u] el) ∧ VR c v u := by
  obtain ⟨O, h1, ⟨C, el, rfl, h2, h3, h4⟩, _, _⟩ := hs.blk r _ _ hr hl trivial
  obtain ⟨⟨u, h5, h6⟩, _⟩ := h4
  refine ⟨u, el, ?_, h6⟩
  have hC : C = #[u] := by
    apply Array.ext
    · simpa using h2
    · intro i hi1 hi2
      have : i = 0 := by simp at hi2; omega
      subst this
      have := Array.getElem?_eq_some_iff.1 h5
      obtain ⟨_, e⟩ := this
      simpa using e
  rw [← hC]
  exact h1
theorem itOk_split (s : List UInt8) (hb : s.length < 4611686018427387904) (H : Heap) (rs rp rv : Nat) (h1 : H[rs]? = some (.box [.str s])) (h2 : H[rp]? = some (.box [.str [47]])) (h3 : H[rv]? = some (.box [.int .i64 0])) (n1 : rp ≠ rs) (n2 : rv ≠ rs) :
    ItOk Tryd.prog (fun x : List UInt8 => Value.string ⟨x.toArray⟩) (pcs s) [rs, rp, rv] H (.fn 97 [] [.ptr rp 0, .ptr rs 0, .ptr rv 0]) := by
  intro F c u hs hu
  simp only [VR] at hu
  obtain ⟨us, ws, rfl, hus, hws, _, hv⟩ := hu
  have hus0 : us = #[] := by simpa using hus
  subst hus0
  obtain ⟨⟨u0, e0, v0⟩, ⟨u1, e1, v1⟩, ⟨u2, e2, v2⟩, _⟩ := hv
  obtain ⟨Bp, mp, lp, rfl⟩ := ptr_is v0
  obtain ⟨Bs, ms, ls, rfl⟩ := ptr_is v1
  obtain ⟨Bv, mv, lv, rfl⟩ := ptr_is v2
  have hws' : ws = #[.pointer (some ⟨Bp, 0, none⟩), .pointer (some ⟨Bs, 0, none⟩), .pointer (some ⟨Bv, 0, none⟩)] := by
    apply Array.ext
    · simpa using hws
    · intro i hi1 hi2
      have hi : i < 3 := by simpa using hi2
      rcases i with _ | _ | _ | i
      · obtain ⟨_, e⟩ := Array.getElem?_eq_some_iff.1 e0; simpa using e
      · obtain ⟨_, e⟩ := Array.getElem?_eq_some_iff.1 e1; simpa using e
      · obtain ⟨_, e⟩ := Array.getElem?_eq_some_iff.1 e2; simpa using e
      · omega
  subst hws'
  obtain ⟨x1, es, g1, y1⟩ := box_is hs h1 ls
  obtain ⟨x2, ep, g2, y2⟩ := box_is hs h2 lp
  obtain ⟨x3, ev, g3, y3⟩ := box_is hs h3 lv
  simp only [VR] at y1 y2 y3
  subst y1 y2 y3
  have d1 : Bp ≠ Bs := fun e => by subst e; exact n1 (hs.inj rp rs _ _ Bp mp ms h2 h1 trivial trivial lp ls)
  have d2 : Bv ≠ Bs := fun e => by subst e; exact n2 (hs.inj rv rs _ _ Bv mv ms h3 h1 trivial trivial lv ls)
  have hBl : ∀ k, (k = Bs ∨ k = Bp ∨ k = Bv) ↔ Bl c [rs, rp, rv] k := by
    intro k
    constructor
    · rintro (rfl | rfl | rfl)
      · exact ⟨rs, ms, by simp, ls⟩
      · exact ⟨rp, mp, by simp, lp⟩
      · exact ⟨rv, mv, by simp, lv⟩
    · rintro ⟨r, m, hr, hl⟩
      simp at hr
      rcases hr with rfl | rfl | rfl
      · rw [ls] at hl; simp at hl; exact .inl hl.1.symm
      · rw [lp] at hl; simp at hl; exact .inr (.inl hl.1.symm)
      · rw [lv] at hl; simp at hl; exact .inr (.inr hl.1.symm)
  refine ⟨97, _, rfl, enters_of Tryd.func97 (by kernel_rfl) rfl, ?_⟩
  intro l J Jx W1 hJ hJx hG hY hsame h0
  refine (callsIn_wide (n := 0)).2 ((callsIn_wide (n := 1)).1 (split_in l Bs Bp Bv es ep ev d1 d2 s hb J Jx (fun pre A B h k => hJ pre A B h (k.mono fun i hi => (hBl i).1 hi)) (fun pre A B h k => hJx pre A B h (k.mono fun i hi => (hBl i).1 hi)) hG (fun pre x A hpre hj => ?_) W1
    ((hsame Bs ((hBl Bs).1 (.inl rfl))).trans g1) ((hsame Bp ((hBl Bp).1 (.inr (.inl rfl)))).trans g2) ((hsame Bv ((hBl Bv).1 (.inr (.inr rfl)))).trans g3) h0))
  obtain ⟨fn, tmps, assign, body, hy, hR⟩ := hY pre x A hpre hj
  refine ⟨fn, tmps, assign, body, hy, hR.mono ?_⟩
  rintro e B (⟨rfl, k1, k2⟩ | k)
  · exact .inl ⟨rfl, k1, k2 Bs ((hBl Bs).1 (.inl rfl)), k2 Bp ((hBl Bp).1 (.inr (.inl rfl))), k2 Bv ((hBl Bv).1 (.inr (.inr rfl)))⟩
  · exact .inr k
end Go.VM.Tryd
end
section
set_option maxHeartbeats 4000000
set_option linter.unusedVariables false
set_option linter.unusedSimpArgs false
open Go Go.VM Go.Proofs
namespace Go.VM.Tryd
set_option maxRecDepth 100000
theorem splitSeq0 (s : List UInt8) : Meets Tryd.prog 92 [.str s, .str [47], .int .i64 0] (.fn 97 [] [.ptr 1 0, .ptr 0 0, .ptr 2 0]) [.box [.str s], .box [.str [47]], .box [.int .i64 0]] := by
  refine meets_x (fn := Tryd.f92) Tryd.func92 rfl fb92 (by kernel_rfl) (Nat.le_of_ble_eq_true rfl) ?_
  refine cx_sr ?_
  simp only [go_sem]
  repeat first | (with_reducible refine side_d ?_ ?_; exact byD) | (with_reducible refine side_q ?_ ?_; exact byQ)
  refine cx_sr ?_
  simp only [go_sem]
  refine cx_ret ?_
  simp only [go_sem]
  exact finx_of 1 [0, 1, 2] rfl byC byC byC byC
theorem SplitSeq (s : List UInt8) : Meets Tryd.prog 85 [.str s, .str [47]] (.fn 97 [] [.ptr 1 0, .ptr 0 0, .ptr 2 0]) [.box [.str s], .box [.str [47]], .box [.int .i64 0]] := by
  refine meets_x (fn := Tryd.f85) Tryd.func85 rfl fb85 (by kernel_rfl) (Nat.le_of_ble_eq_true rfl) ?_
  refine cx_sr ?_
  simp only [go_sem]
  repeat first | (with_reducible refine side_d ?_ ?_; exact byD) | (with_reducible refine side_q ?_ ?_; exact byQ)
  refine cx_sr ?_
  simp only [go_sem]
  refine cw_m (splitSeq0 s) byW byT ?_
  simp only [go_sem]
  refine cx_ret ?_
  simp only [go_sem]
  exact finx_of 1 [0, 1, 2] rfl byC byC byC byC
end Go.VM.Tryd
end
section
set_option maxHeartbeats 4000000
set_option linter.unusedVariables false
set_option linter.unusedSimpArgs false
open Go Go.VM
namespace Tether
abbrev Str := List UInt8
abbrev wrap (n : Int) : Int := IntKind.i64.wrap n
/-- a sign of a name -/
def signB (c : Int) : Bool := decide (97 ≤ c) && decide (c ≤ 122) || decide (65 ≤ c) && decide (c ≤ 90) || decide (48 ≤ c) && decide (c ≤ 57) || decide (0 ≤ Go.Lib.indexByte [45, 95, 46, 40, 41, 32] c.toNat.toUInt8)
def at8 (s : Str) (i : Nat) : Int := ((s.getD i 0).toNat : Int)
/-- a name -/
def isName (s : Str) : Bool :=
  !(decide (s = []) || decide (20 < (s.length : Int)) || decide (s = [46]) || decide (s = [46, 46])) && !(decide (at8 s 0 = 32) || decide (at8 s (s.length - 1) = 32)) && (List.range s.length).all fun i => signB (at8 s i)
structure Session where
  num : Int
  who : Str
  text : Str
  size : Int
  till : Int
  deriving Inhabited, DecidableEq
structure Uploads where
  ss : List Session
  next : Int
  lasts : Int
  room : Int
  deriving Inhabited, DecidableEq
def Session.enc (s : Session) : List V := [.int .i64 s.num, .str s.who, .str s.text, .int .i64 s.size, .int .i64 s.till]
abbrev ssV (l : List Session) : V := lstV 5 Session.enc default l
def Uploads.enc (u : Uploads) : V := .agg [ssV u.ss, .int .i64 u.next, .int .i64 u.lasts, .int .i64 u.room]
attribute [go_sem] Session.enc Uploads.enc
def within (n a b : Int) : Bool := decide (a ≤ n) && decide (n ≤ b)
/-- the first thing that is wrong, in some order -/
def firstErr {α : Type} (f : α → Int) : List α → Int
  | [] => 0
  | x :: l => if f x ≠ 0 then f x else firstErr f l
theorem foldl_take {α β : Type} (f : β → α → β) (a : β) (l : List α) (d : α) {i : Nat} (h : i < l.length) : (l.take (i + 1)).foldl f a = f ((l.take i).foldl f a) (l.getD i d) := by
  rw [List.take_succ_eq_append_getElem h, List.foldl_append]
  simp [List.getD, h]
theorem firstErr_at {α : Type} {f : α → Int} {l : List α} {d : α} {i : Nat} (hi : i < l.length) (hb : ∀ j, j < i → f (l.getD j d) = 0) (h : f (l.getD i d) ≠ 0) : firstErr f l = f (l.getD i d) := by
  induction l generalizing i with
  | nil => simp at hi
  | cons x l ih =>
    cases i with
    | zero => simpa [firstErr] using fun h' => absurd h' (by simpa using h)
    | succ i =>
      have h0 := hb 0 (by omega)
      simp at h0
      simp only [firstErr, h0]
      simpa using ih (by simpa using hi) (fun j hj => by simpa using hb (j + 1) (by omega)) (by simpa using h)
theorem firstErr_none {α : Type} {f : α → Int} {l : List α} {d : α} (hb : ∀ j, j < l.length → f (l.getD j d) = 0) : firstErr f l = 0 := by
  induction l with
  | nil => rfl
  | cons x l ih =>
    have h0 := hb 0 (by simp)
    simp at h0
    simp only [firstErr, h0]
    simpa using ih fun j hj => by simpa using hb (j + 1) (by simpa using hj)
theorem all_next {p : Nat → Prop} {i : Nat} (h : ∀ j, j < i → p j) (hi : p i) : ∀ j, j < i + 1 → p j := fun j hj => by
  rcases Nat.lt_or_ge j i with h' | h'
  · exact h j h'
  · obtain rfl : j = i := by omega
    exact hi
theorem getD_take {α : Type} {l : List α} {d : α} {i q : Nat} (h : q < i) : (l.take i).getD q d = l.getD q d := by
  simp [List.getD, List.getElem?_take, h]
theorem getD_mem {α : Type} {l : List α} {d : α} {i : Nat} (h : i < l.length) : l.getD i d ∈ l := by
  simp [List.getD, h]
theorem range_all_false {n i : Nat} {p : Nat → Bool} (hi : i < n) (h : p i = false) : (List.range n).all p = false := by
  rw [List.all_eq_false]; exact ⟨i, by simpa using hi, by simpa using h⟩
theorem range_all_true {n : Nat} {p : Nat → Bool} (h : ∀ i, i < n → p i = true) : (List.range n).all p = true := by
  rw [List.all_eq_true]; exact fun i hi => h i (by simpa using hi)
theorem all_at {α : Type} {l : List α} {p : α → Bool} {d : α} {i : Nat} (hi : i < l.length) (h : p (l.getD i d) = false) : l.all p = false := by
  rw [List.all_eq_false]; exact ⟨l[i], List.getElem_mem hi, by simpa [List.getD, hi] using h⟩
theorem all_of {α : Type} {l : List α} {p : α → Bool} {d : α} (h : ∀ i, i < l.length → p (l.getD i d) = true) : l.all p = true := by
  rw [List.all_eq_true]
  intro x hx
  obtain ⟨i, hi, rfl⟩ := List.getElem_of_mem hx
  simpa [List.getD, hi] using h i hi
end Tether
end
section
set_option maxHeartbeats 4000000
set_option linter.unusedVariables false
set_option linter.unusedSimpArgs false
open Go Go.VM Go.Proofs Tether
namespace Go.VM
theorem cw_cnt {P : Program} {f : Nat} {fn : Func} (hf : P.funcs[f]? = some fn) (hname : (fn.name == "runtime.NumGoroutine") = false) (hb : fn.body.isNone = true) (hn : Extern.findNext fn = none) (he : Extern.find fn = some Extern.BytealgCount.count)
    {s : List UInt8} {c : Int} {H : Heap} {K : V → Heap → Prop} (hk : K (.int .i64 (s.count c.toNat.toUInt8 : Nat)) H) : cw P f [.str s, .int .u8 c] H K := by
  intro F cc gt hs us hsz hus
  simp only [VRs, VR] at hus
  obtain ⟨⟨u1, g1, rfl⟩, ⟨u2, g2, rfl⟩, -⟩ := hus
  have hus : us = #[.string ⟨s.toArray⟩, .int .u8 c] := by
    apply Array.ext'
    apply List.ext_getElem?
    intro j
    rcases j with _ | _ | j
    · simpa using g1
    · simpa using g2
    · have : us.toList.length = 2 := by simpa using hsz
      rw [List.getElem?_eq_none (by omega)]
      simp
  subst hus
  refine .inr ⟨.int .i64 (s.count c.toNat.toUInt8 : Nat), cc.w, ?_, cc, .int .i64 (s.count c.toNat.toUInt8 : Nat), .int .i64 (s.count c.toNat.toUInt8 : Nat), H, rfl, rfl, Le.refl _, hs, by simp only [VR], hk⟩
  rw [run_callFunc_extern hf hname hb hn he]
  have := Lib.run_countString (P := P) ⟨s.toArray⟩ c cc.w
  simp only [Lib.countByte] at this
  simp [Sem.run_bind, this, Result.andThen]
end Go.VM
namespace Go.VM.Tryd
set_option maxRecDepth 100000
theorem sign_c (c : Int) : Meets Tryd.prog 44 [.int .u8 c] (.bool (signB c)) [] := by
  refine meets_x (fn := Tryd.f44) Tryd.func44 rfl fb44 (by kernel_rfl) (Nat.le_of_ble_eq_true rfl) ?_
  refine cx_sr ?_
  simp only [go_sem]
  repeat first | (with_reducible refine side_d ?_ ?_; exact byD) | (with_reducible refine side_q ?_ ?_; exact byQ)
  refine cx_sr ?_
  simp only [go_sem]
  intro t4 e4
  intro t7 e7
  intro t8 e8
  rw [bsel_and] at e8
  intro t11 e11
  intro t14 e14
  intro t15 e15
  rw [bsel_and] at e15
  intro t16 e16
  rw [bsel_or] at e16
  intro t19 e19
  intro t22 e22
  intro t23 e23
  rw [bsel_and] at e23
  intro t24 e24
  rw [bsel_or] at e24
  refine ⟨_, fun hp => cw_m (IndexByte _ c) byW byT ⟨rfl, rfl⟩, ?_⟩
  simp only [go_sem]
  intro t28 e28
  intro t29 e29
  rw [bsel_or] at e29
  subst e4 e7 e8 e11 e14 e15 e16 e19 e22 e23 e24 e28 e29
  refine cx_ret ?_
  simp only [go_sem]
  refine finw_bool ?_
  simp [signB]
theorem IsName_c (s : Str) (hs : s.length < 4611686018427387904) : Meets Tryd.prog 31 [.str s] (.bool (isName s)) [] := by
  refine meets_x (fn := Tryd.f31) Tryd.func31 rfl fb31 (by kernel_rfl) (Nat.le_of_ble_eq_true rfl) ?_
  refine cx_sr ?_
  simp only [go_sem]
  repeat first | (with_reducible refine side_d ?_ ?_; exact byD) | (with_reducible refine side_q ?_ ?_; exact byQ)
  refine cx_sr ?_
  simp only [go_sem]
  refine cx_seq (cx_block ?_)
  refine cx_sr ?_
  simp only [go_sem]
  intro t7 e7
  intro t11 e11
  intro t12 e12
  rw [bsel_or] at e12
  intro t15 e15
  intro t16 e16
  rw [bsel_or] at e16
  intro t19 e19
  intro t20 e20
  rw [bsel_or] at e20
  subst e7 e11 e12 e15 e16 e19 e20
  refine cx_if _ rfl (fun h5 => ?_) (fun h5 => ?_)
  ·
   (try simp only [go_sem] at h5)
   refine cx_sr ?_
   simp only [go_sem]
   refine cx_ret ?_
   simp only [go_sem]
   refine finw_bool ?_
   rcases h5 with ((h5 | h5) | h5) | h5 <;> simp [isName, h5]
  ·
   (try simp only [go_sem] at h5)
   have hpos : 0 < s.length := by
     rcases s with _ | ⟨x, s⟩
     · simp at h5
     · simp
   refine cx_sr ?_
   simp only [go_sem]
   repeat first | (with_reducible refine side_d ?_ ?_; exact byD) | (with_reducible refine side_q ?_ ?_; exact byQ)
   intro t23 e23
   intro t24 e24
   intro t29 e29
   (try replace e29 := w64 e29 (by omega) (by omega))
   repeat first | (with_reducible refine side_d ?_ ?_; exact byD) | (with_reducible refine side_q ?_ ?_; exact byQ)
   intro t30 e30
   intro t31 e31
   intro t32 e32
   rw [bsel_or] at e32
   subst e24 e31 e32
   refine cx_if _ rfl (fun h21 => ?_) (fun h21 => ?_)
   ·
    (try simp only [go_sem] at h21)
    refine cx_sr ?_
    simp only [go_sem]
    refine cx_ret ?_
    simp only [go_sem]
    refine finw_bool ?_
    have hl : ((s.length : Int) - 1).toNat = s.length - 1 := by omega
    subst e23 e29 e30
    simp only [hl] at h21
    rcases h21 with h21 | h21 <;> simp [isName, at8] <;> intros <;> simp_all
   ·
    (try simp only [go_sem] at h21)
    refine cx_skip ?_
    (try simp only [go_sem])
    refine cx_seq ?_
    refine cx_sr ?_
    simp only [go_sem]
    refine cx_block ?_
    refine cx_loop0 (σ := Nat) (fun i => i ≤ s.length ∧ ∀ j, j < i → signB (at8 s j) = true) (fun i => [⟨35, 0, [], .int .i64 (i : Nat)⟩]) [0, 3, 34] (fun i => s.length - i) 0 ⟨Nat.zero_le _, fun j hj => absurd hj (Nat.not_lt_zero j)⟩ (Nat.zero_le _) byC (fun i hI1 => ?_)
    simp only [go_sem]
    refine cx_sr ?_
    simp only [go_sem]
    repeat first | (with_reducible refine side_d ?_ ?_; exact byD) | (with_reducible refine side_q ?_ ?_; exact byQ)
    intro t36 e36
    subst e36
    refine cx_seq ?_
    refine cx_if _ rfl (fun h36 => ?_) (fun h36 => ?_)
    ·
     (try simp only [go_sem] at h36)
     refine cx_skip ?_
     (try simp only [go_sem])
     refine cx_seq (cx_block ?_)
     refine cx_sr ?_
     simp only [go_sem]
     refine cx_sr ?_
     simp only [go_sem]
     repeat first | (with_reducible refine side_d ?_ ?_; exact byD) | (with_reducible refine side_q ?_ ?_; exact byQ)
     intro t41 e41
     refine cw_m (sign_c _) byW byT ?_
     simp only [go_sem]
     intro t43 e43
     subst e43
     refine cx_if _ rfl (fun h43 => ?_) (fun h43 => ?_)
     ·
      (try simp only [go_sem] at h43)
      refine cx_sr ?_
      simp only [go_sem]
      refine cx_ret ?_
      simp only [go_sem]
      refine finw_bool ?_
      have := range_all_false (p := fun i => signB (at8 s i)) (i := i) (n := s.length) (by omega) (by simpa [at8, e41] using h43)
      simp [isName, this]
     ·
      (try simp only [go_sem] at h43)
      refine cx_skip ?_
      (try simp only [go_sem])
      refine cx_region ?_
      simp only [go_sem]
      intro t44 e44
      (try replace e44 := w64 e44 (by omega) (by omega))
      refine rnd_next (i + 1) ⟨by omega, fun j hj => ?_⟩ (by show s.length - (i + 1) < s.length - i; omega) byC
      rcases Nat.lt_or_ge j i with h | h
      · exact hI1.2 j h
      · obtain rfl : j = i := by omega
        simpa [at8, e41] using h43
    ·
     (try simp only [go_sem] at h36)
     refine cx_exit ?_
     simp only [go_sem]
     refine cx_sr ?_
     simp only [go_sem]
     refine cx_ret ?_
     simp only [go_sem]
     refine finw_bool ?_
     have := range_all_true (p := fun i => signB (at8 s i)) (n := s.length) fun j hj => hI1.2 j (by omega)
     have hl : ((s.length : Int) - 1).toNat = s.length - 1 := by omega
     subst e23 e29 e30
     simp only [hl] at h21
     simp [isName, at8, this, h5] at *
     simp_all

theorem Count (s : List UInt8) : Meets Tryd.prog 88 [.str s, .str [47]] (.int .i64 (s.count 47 : Nat)) [] := by
  refine meets_x (fn := Tryd.f88) Tryd.func88 rfl fb88 (by kernel_rfl) (Nat.le_of_ble_eq_true rfl) ?_
  refine cx_sr ?_
  simp only [go_sem]
  repeat first | (with_reducible refine side_d ?_ ?_; exact byD) | (with_reducible refine side_q ?_ ?_; exact byQ)
  refine cx_seq ?_
  refine cx_sr ?_
  simp only [go_sem]
  intro t9 e9
  subst e9
  refine cx_if _ rfl (fun h9 => ?_) (fun h9 => ?_)
  · simp at h9
  ·
   (try simp only [go_sem] at h9)
   refine cx_skip ?_
   (try simp only [go_sem])
   refine cx_seq ?_
   refine cx_sr ?_
   simp only [go_sem]
   intro t15 e15
   subst e15
   refine cx_if _ rfl (fun h15 => ?_) (fun h15 => ?_)
   ·
    (try simp only [go_sem] at h15)
    refine cx_sr ?_
    simp only [go_sem]
    repeat first | (with_reducible refine side_d ?_ ?_; exact byD) | (with_reducible refine side_q ?_ ?_; exact byQ)
    intro t18 e18
    refine cw_cnt Tryd.func95 (by kernel_rfl) (by kernel_rfl) (by kernel_rfl) (by kernel_rfl) ?_
    simp only [go_sem]
    refine cx_ret ?_
    simp only [go_sem]
    refine finw_int ?_
    subst e18
    rfl
   · simp at h15
def greatB (s : List UInt8) : Bool := decide (6 ≤ s.count 47) || decide (80 < s.length)
theorem great (s : List UInt8) : Meets Tryd.prog 77 [.str s] (.bool (greatB s)) [] := by
  refine meets_x (fn := Tryd.f77) Tryd.func77 rfl fb77 (by kernel_rfl) (Nat.le_of_ble_eq_true rfl) ?_
  refine cx_sr ?_
  simp only [go_sem]
  repeat first | (with_reducible refine side_d ?_ ?_; exact byD) | (with_reducible refine side_q ?_ ?_; exact byQ)
  refine cx_sr ?_
  simp only [go_sem]
  refine cw_m (Count s) byW byT ?_
  simp only [go_sem]
  intro t5 e5
  intro t9 e9
  intro t10 e10
  rw [bsel_or] at e10
  subst e5 e9 e10
  refine cx_ret ?_
  simp only [go_sem]
  refine finw_bool ?_
  simp [greatB]
  have h1 : ((6 : Int) ≤ (s.count 47 : Nat)) ↔ 6 ≤ s.count 47 := by omega
  have h2 : ((80 : Int) < (s.length : Nat)) ↔ 80 < s.length := by omega
  simp only [h1, h2]
end Go.VM.Tryd
end
section
set_option maxHeartbeats 4000000
set_option linter.unusedVariables false
set_option linter.unusedSimpArgs false
open Go Go.VM Go.Proofs Tether
namespace Tether
def strE' (s : Str) : List V := [.str s]
abbrev strsV' (l : List Str) : V := lstV 1 strE' [] l
attribute [go_sem] strE'
end Tether
namespace Go.VM.Tryd
set_option maxRecDepth 100000
theorem pcs_len : ∀ (s x : List UInt8), x ∈ pcs s → x.length ≤ s.length := by
  intro s
  induction s with
  | nil => intro x h; simp [pcs] at h; simp [h]
  | cons b r ih =>
    intro x h
    by_cases hb : b = 47
    · simp [pcs, hb] at h
      rcases h with rfl | h
      · simp
      · have := ih x h; simp; omega
    · simp only [pcs, hb, if_false] at h
      rcases hp : pcs r with _ | ⟨y, ys⟩
      · exact absurd hp (pcs_ne r)
      · rw [hp] at h ih
        simp at h
        rcases h with rfl | h
        · have := ih y (by simp); simp; omega
        · have := ih x (by simp [h]); simp; omega
/-- what is found wrong with paths: the first one's fault -/
def checkP : List Str → Int
  | [] => 0
  | p :: r => if (pcs p).all isName then (if greatB p then 2 else checkP r) else 1
theorem check_c (l : List Str) (hl : l.length < 4611686018427387904) (hs : ∀ s ∈ l, s.length < 4611686018427387904) : Meets Tryd.prog 72 [strsV' l] (.int .i64 (checkP l)) [] := by
  refine meets_x (fn := Tryd.f72) Tryd.func72 rfl fb72 (by kernel_rfl) (Nat.le_of_ble_eq_true rfl) ?_
  refine cx_sr ?_
  simp only [go_sem]
  repeat first | (with_reducible refine side_d ?_ ?_; exact byD) | (with_reducible refine side_q ?_ ?_; exact byQ)
  refine cx_seq ?_
  refine cx_sr ?_
  simp only [go_sem]
  refine cx_block ?_
  refine cx_loopk (σ := Nat) (fun i => i ≤ l.length ∧ checkP l = checkP (l.drop i)) (fun i => [⟨8, 0, [], .int .i64 (i : Nat)⟩]) [2, 6, 7] (fun i => [.box [.int .i64 0]]) (fun i => l.length - i) 0 ⟨Nat.zero_le _, by simp⟩ (fun _ => (Nat.zero_le _)) byC (fun i hI1 => ?_)
  simp only [go_sem]
  refine cx_sr ?_
  simp only [go_sem]
  repeat first | (with_reducible refine side_d ?_ ?_; exact byD) | (with_reducible refine side_q ?_ ?_; exact byQ)
  intro t9 e9
  subst e9
  refine cx_seq ?_
  refine cx_if _ rfl (fun h9 => ?_) (fun h9 => ?_)
  ·
   (try simp only [go_sem] at h9)
   have hlt : i < l.length := by omega
   have hgd : l.getD i [] = l[i] := by simp [List.getD_eq_getElem?_getD, hlt]
   have hp : (l.getD i []).length < 4611686018427387904 := hs _ (by rw [hgd]; exact List.getElem_mem hlt)
   have hck : checkP (l.drop i) = if (pcs (l.getD i [])).all isName then (if greatB (l.getD i []) then 2 else checkP (l.drop (i + 1))) else 1 := by
     rw [List.drop_eq_getElem_cons hlt, hgd]
     rfl
   refine cx_skip ?_
   (try simp only [go_sem])
   refine cx_seq (cx_block ?_)
   refine cx_sr ?_
   simp only [go_sem]
   repeat first | (with_reducible refine side_d ?_ ?_; exact byD) | (with_reducible refine side_q ?_ ?_; exact byQ)
   refine cx_seq ?_
   refine cx_sr ?_
   simp only [go_sem]
   refine cw_m (SplitSeq _) byW byT ?_
   simp only [go_sem]
   refine cx_block ?_
   refine cx_range (fun x : List UInt8 => Value.string ⟨x.toArray⟩) (fun x : List UInt8 => V.str x) (fun c x => by simp only [VR]) (pcs (l.getD i [])) [1, 2, 3] (fun pre => ∀ y ∈ pre, isName y = true) (fun y h => by cases h) (fun pre => [.box [.int .i64 0], .dead, .dead, .dead]) ?_ ?_ ?_ ?_ (fun _ => rfl) ?_ ?_
   · exact itOk_split _ hp _ 1 2 3 rfl rfl rfl (by decide) (by decide)
   · intro r hr; simp at hr; rcases hr with rfl | rfl | rfl <;> exact ⟨_, rfl, trivial⟩
   · exact ⟨.inr rfl, .inl rfl, .inl rfl, .inl rfl, rfl⟩
   · intro r x hr h; simp at hr; rcases hr with rfl | rfl | rfl <;> (cases h; exact id)
   ·
    rintro pre x hpre hIr
    have hm : x ∈ pcs (l.getD i []) := hpre.subset (by simp)
    have hx : x.length < 4611686018427387904 := Nat.lt_of_le_of_lt (pcs_len _ _ hm) hp
    refine cx_region ?_
    simp only [go_sem]
    refine cx_block ?_
    refine cx_sr ?_
    simp only [go_sem]
    refine cw_m (IsName_c _ hx) byW byT ?_
    simp only [go_sem]
    intro t17 e17
    subst e17
    refine cx_if _ rfl (fun h17 => ?_) (fun h17 => ?_)
    ·
     (try simp only [go_sem] at h17)
     refine cx_sr ?_
     simp only [go_sem]
     refine cx_ret ?_
     simp only [go_sem]
     have hall : (pcs (l.getD i [])).all isName = false := by
       rw [List.all_eq_false]
       exact ⟨x, hm, by simpa using h17⟩
     rw [hI1.2, hck, hall]
     exact finx_of 1 [] rfl byC byC byC byC
    ·
     (try simp only [go_sem] at h17)
     refine cx_skip ?_
     (try simp only [go_sem])
     exact ⟨fun y hy => by rcases List.mem_append.1 hy with h | h; exact hIr y h; simp at h; subst h; simpa using h17, .inl byC⟩
   ·
    intro hIr
    (try simp only [go_sem])
    refine cx_sr ?_
    simp only [go_sem]
    refine cw_m (great _) byW byT ?_
    simp only [go_sem]
    refine cx_if _ rfl (fun h19 => ?_) (fun h19 => ?_)
    ·
     (try simp only [go_sem] at h19)
     refine cx_sr ?_
     simp only [go_sem]
     refine cx_ret ?_
     simp only [go_sem]
     have hall : (pcs (l.getD i [])).all isName = true := List.all_eq_true.2 hIr
     rw [hI1.2, hck, hall, show greatB (l.getD i []) = true from by simpa using h19]
     exact finx_of 1 [] rfl byC byC byC byC
    ·
     (try simp only [go_sem] at h19)
     refine cx_skip ?_
     (try simp only [go_sem])
     refine cx_region ?_
     simp only [go_sem]
     intro t20 e20
     (try replace e20 := w64 e20 (by omega) (by omega))
     have hall : (pcs (l.getD i [])).all isName = true := List.all_eq_true.2 hIr
     refine rnd_next (i + 1) ⟨by omega, ?_⟩ (by show l.length - (i + 1) < l.length - i; omega) byC
     rw [hI1.2, hck, hall, show greatB (l.getD i []) = false from by simpa using h19]
     rfl
  ·
   (try simp only [go_sem] at h9)
   refine cx_exit ?_
   simp only [go_sem]
   refine cx_sr ?_
   simp only [go_sem]
   refine cx_ret ?_
   simp only [go_sem]
   obtain rfl : i = l.length := by omega
   rw [hI1.2]
   simp only [List.drop_length]
   exact finx_of 1 [] rfl byC byC byC byC
end Go.VM.Tryd
end
section
set_option maxHeartbeats 4000000
set_option linter.unusedVariables false
open Go Go.VM Tether
namespace Go.VM.Tryd
theorem pcs_no : ∀ s : List UInt8, 47 ∉ s → pcs s = [s]
  | [], _ => rfl
  | b :: r, h => by
    have h1 : b ≠ 47 := fun e => h (by simp [e])
    have h2 : 47 ∉ r := fun e => h (.tail _ e)
    simp [pcs, h1, pcs_no r h2]
end Go.VM.Tryd
end
section
set_option maxHeartbeats 4000000
set_option linter.unusedVariables false
set_option linter.unusedSimpArgs false
open Go Go.VM
namespace Tether
/-- where the first one is; -1: nowhere -/
def idxF {α : Type} (p : α → Bool) (l : List α) : Int := match l.findIdx? p with | some i => (i : Int) | none => -1
theorem idxF_at {α : Type} {p : α → Bool} {l : List α} {d : α} {i : Nat} (hi : i < l.length) (hb : ∀ j, j < i → p (l.getD j d) = false) (h : p (l.getD i d) = true) : idxF p l = i := by
  have : l.findIdx? p = some i := by
    rw [List.findIdx?_eq_some_iff_getElem]
    refine ⟨hi, by simpa [List.getD, hi] using h, fun j hj => ?_⟩
    have hj' : j < l.length := by omega
    simpa [List.getD, hj'] using hb j hj
  rw [idxF, this]
theorem idxF_none {α : Type} {p : α → Bool} {l : List α} {d : α} (hb : ∀ j, j < l.length → p (l.getD j d) = false) : idxF p l = -1 := by
  have : l.findIdx? p = none := by
    rw [List.findIdx?_eq_none_iff]
    intro x hx
    obtain ⟨i, hi, rfl⟩ := List.getElem_of_mem hx
    simpa [List.getD, hi] using hb i hi
  rw [idxF, this]
theorem idxF_spec {α : Type} {p : α → Bool} {l : List α} (d : α) (h : ¬ idxF p l = -1) : ∃ i : Nat, idxF p l = (i : Int) ∧ i < l.length ∧ p (l.getD i d) = true ∧ (l.take (i + 1)).filter (fun x => !p x) = l.take i := by
  unfold idxF at h ⊢
  cases hf : l.findIdx? p with
  | none => rw [hf] at h; exact absurd rfl h
  | some i =>
    rw [List.findIdx?_eq_some_iff_getElem] at hf
    obtain ⟨hi, h1, h2⟩ := hf
    refine ⟨i, rfl, hi, by simpa [List.getD, hi] using h1, ?_⟩
    rw [List.take_succ_eq_append_getElem hi, List.filter_append]
    simp only [List.filter_cons, h1, Bool.not_true, List.filter_nil]
    simp only [Bool.false_eq_true, if_false, List.append_nil]
    rw [List.filter_eq_self]
    intro x hx
    obtain ⟨j, hj, rfl⟩ := List.getElem_of_mem hx
    have := h2 j (by simp at hj; omega)
    simpa using this
theorem idxF_all {α : Type} {p : α → Bool} {l : List α} (h : idxF p l = -1) : l.filter (fun x => !p x) = l := by
  rw [List.filter_eq_self]
  unfold idxF at h
  cases hf : l.findIdx? p with
  | some i => rw [hf] at h; simp at h
  | none =>
    rw [List.findIdx?_eq_none_iff] at hf
    intro x hx
    simp [hf x hx]
/-- a round of DeleteFunc: what stays is put ahead -/
theorem del_keep {α : Type} {p : α → Bool} {l L : List α} {d : α} {i j : Nat} (h1 : i < j) (h2 : j < l.length) (h3 : L.length = l.length) (h4 : L.take i = (l.take j).filter (fun x => !p x)) (h5 : L.drop j = l.drop j) (hp : p (L.getD j d) = false) :
    (L.set i (L.getD j d)).take (i + 1) = (l.take (j + 1)).filter (fun x => !p x) ∧ (L.set i (L.getD j d)).drop (j + 1) = l.drop (j + 1) := by
  have e : L.getD j d = l.getD j d := by
    have := congrArg (fun l => l.getD 0 d) h5
    simpa [List.getD] using this
  constructor
  · rw [List.take_succ_eq_append_getElem (by simp; omega), List.take_set, List.set_eq_of_length_le (by simp; omega), h4]
    rw [List.take_succ_eq_append_getElem h2, List.filter_append]
    have : l[j] = l.getD j d := by simp [List.getD, h2]
    rw [this, ← e]
    rw [List.getElem_set_self]
    generalize L.getD j d = y at hp ⊢
    simp [hp]
  · rw [List.drop_set_of_lt (by omega)]
    have := congrArg (List.drop 1) h5
    simpa [List.drop_drop, Nat.add_comm] using this
theorem del_drop {α : Type} {p : α → Bool} {l L : List α} {d : α} {i j : Nat} (h2 : j < l.length) (h4 : L.take i = (l.take j).filter (fun x => !p x)) (h5 : L.drop j = l.drop j) (hp : p (L.getD j d) = true) :
    L.take i = (l.take (j + 1)).filter (fun x => !p x) ∧ L.drop (j + 1) = l.drop (j + 1) := by
  have e : L.getD j d = l.getD j d := by
    have := congrArg (fun l => l.getD 0 d) h5
    simpa [List.getD] using this
  constructor
  · rw [List.take_succ_eq_append_getElem h2, List.filter_append, h4]
    have : l[j] = l.getD j d := by simp [List.getD, h2]
    rw [this, ← e]
    generalize L.getD j d = y at hp ⊢
    simp [hp]
  · have := congrArg (List.drop 1) h5
    simpa [List.drop_drop, Nat.add_comm] using this
theorem idxF_any {α : Type} {p : α → Bool} {l : List α} : decide (0 ≤ idxF p l) = l.any p := by
  unfold idxF
  cases hf : l.findIdx? p with
  | some i =>
    rw [List.findIdx?_eq_some_iff_getElem] at hf
    obtain ⟨hi, h1, _⟩ := hf
    have : l.any p = true := List.any_eq_true.2 ⟨l[i], List.getElem_mem hi, h1⟩
    rw [this]; simp
  | none =>
    rw [List.findIdx?_eq_none_iff] at hf
    have : l.any p = false := List.any_eq_false.2 fun x hx => by simp [hf x hx]
    rw [this]; simp
end Tether
end
section
set_option maxHeartbeats 4000000
set_option linter.unusedVariables false
set_option linter.unusedSimpArgs false
open Go Go.VM
namespace Tether
def Uploads.ok (u : Uploads) : Prop := u.ss.length * 56 ≤ 140737488355328 ∧ ∀ s ∈ u.ss, s.who.length < 4611686018427387904 ∧ s.text.length < 4611686018427387904
theorem Uploads.ok.len {u : Uploads} (h : u.ok) : u.ss.length < 4611686018427387904 := by have := h.1; omega
/-- uploads whose sessions lie in the first block -/
abbrev Uploads.own (u : Uploads) : V := .agg [.own none 0 5 0 u.ss.length .loose, .int .i64 u.next, .int .i64 u.lasts, .int .i64 u.room]
abbrev Uploads.blk (u : Uploads) : Heap := [.arr 5 u.ss.length (En Session.enc default u.ss)]
def swept (u : Uploads) (now : Int) : Uploads := { u with ss := u.ss.filter fun s => !decide (s.till < now) }
theorem swept_next {u : Uploads} {now : Int} : (swept u now).next = u.next := rfl
theorem swept_lasts {u : Uploads} {now : Int} : (swept u now).lasts = u.lasts := rfl
theorem swept_room {u : Uploads} {now : Int} : (swept u now).room = u.room := rfl
attribute [go_sem] swept_next swept_lasts swept_room
end Tether
end
section
set_option maxHeartbeats 4000000
set_option linter.unusedVariables false
set_option linter.unusedSimpArgs false
open Go Go.VM
namespace Tether
end Tether
end
section
set_option maxHeartbeats 4000000
set_option linter.unusedVariables false
set_option linter.unusedSimpArgs false
open Go Go.VM Go.Proofs Tether
namespace Go.VM.Tryd
set_option maxRecDepth 100000
end Go.VM.Tryd
end
section
set_option maxHeartbeats 4000000
set_option linter.unusedVariables false
set_option linter.unusedSimpArgs false
open Go Go.VM Go.Proofs Tether
namespace Go.VM.Tryd
set_option maxRecDepth 100000
theorem checkP_cons (p : Str) (r : List Str) : checkP (p :: r) = if checkP [p] = 0 then checkP r else checkP [p] := by
  simp only [checkP]
  by_cases h1 : (pcs p).all isName = true <;> by_cases h2 : greatB p = true <;> simp only [h1, h2, if_true, if_false] <;> simp
end Go.VM.Tryd
end
section
set_option maxHeartbeats 4000000
set_option linter.unusedVariables false
set_option linter.unusedSimpArgs false
open Go Go.VM Go.Proofs Tether
namespace Go.VM.Tryd
set_option maxRecDepth 100000
/-- the last place ahead of n that holds c; -1: none -/
def lixN (s : Str) (c : Int) : Nat → Int
  | 0 => -1
  | n + 1 => if at8 s n = c then n else lixN s c n
theorem LastIx0_c (s : Str) (c : Int) (hs : s.length < 4611686018427387904) : Meets Tryd.prog 91 [.str s, .int .u8 c] (.int .i64 (lixN s c s.length)) [] := by
  refine meets_x (fn := Tryd.f91) Tryd.func91 rfl fb91 (by kernel_rfl) (Nat.le_of_ble_eq_true rfl) ?_
  refine cx_sr ?_
  simp only [go_sem]
  repeat first | (with_reducible refine side_d ?_ ?_; exact byD) | (with_reducible refine side_q ?_ ?_; exact byQ)
  refine cx_seq ?_
  refine cx_sr ?_
  simp only [go_sem]
  intro t8 e8
  (try replace e8 := w64 e8 (by omega) (by omega))
  refine cx_block ?_
  refine cx_loop0 (σ := Nat) (fun n => n ≤ s.length ∧ lixN s c n = lixN s c s.length) (fun n => [⟨5, 0, [], .int .i64 ((n : Int) - 1)⟩]) [0, 1] (fun n => n) s.length ⟨Nat.le_refl _, rfl⟩ (Nat.zero_le _) byC (fun n hI1 => ?_)
  simp only [go_sem]
  refine cx_seq ?_
  refine cx_sr ?_
  simp only [go_sem]
  repeat first | (with_reducible refine side_d ?_ ?_; exact byD) | (with_reducible refine side_q ?_ ?_; exact byQ)
  intro t10 e10
  subst e10
  refine cx_if _ rfl (fun h10 => ?_) (fun h10 => ?_)
  ·
   (try simp only [go_sem] at h10)
   obtain ⟨m, rfl⟩ : ∃ m, n = m + 1 := ⟨n - 1, by omega⟩
   have hm : (((m + 1 : Nat) : Int) - 1).toNat = m := by omega
   have hl : lixN s c (m + 1) = if at8 s m = c then (m : Int) else lixN s c m := rfl
   refine cx_skip ?_
   (try simp only [go_sem])
   refine cx_seq (cx_block ?_)
   refine cx_sr ?_
   simp only [go_sem]
   repeat first | (with_reducible refine side_d ?_ ?_; exact byD) | (with_reducible refine side_q ?_ ?_; exact byQ)
   intro t15 e15
   intro t17 e17
   subst e17
   refine cx_if _ rfl (fun h17 => ?_) (fun h17 => ?_)
   ·
    (try simp only [go_sem] at h17)
    refine cx_sr ?_
    simp only [go_sem]
    refine cx_ret ?_
    simp only [go_sem]
    refine finw_int ?_
    have hne : at8 s m = c := by subst e15; simpa [at8, hm] using h17
    rw [if_pos hne] at hl
    rw [← hI1.2, hl]
    omega
   ·
    (try simp only [go_sem] at h17)
    refine cx_skip ?_
    (try simp only [go_sem])
    refine cx_region ?_
    simp only [go_sem]
    intro t12 e12
    (try replace e12 := w64 e12 (by omega) (by omega))
    have hne : ¬ at8 s m = c := by subst e15; simpa [at8, hm] using h17
    rw [if_neg hne] at hl
    refine rnd_next m ⟨by omega, by rw [← hl]; exact hI1.2⟩ (by first | omega | (dsimp only; omega)) byC
  ·
   (try simp only [go_sem] at h10)
   obtain rfl : n = 0 := by omega
   refine cx_exit ?_
   simp only [go_sem]
   refine cx_sr ?_
   simp only [go_sem]
   refine cx_ret ?_
   simp only [go_sem]
   refine finw_int ?_
   rw [← hI1.2]
   rfl
theorem LastIx_c (s : Str) (c : Int) (hs : s.length < 4611686018427387904) : Meets Tryd.prog 84 [.str s, .int .u8 c] (.int .i64 (lixN s c s.length)) [] := by
  refine meets_x (fn := Tryd.f84) Tryd.func84 rfl fb84 (by kernel_rfl) (Nat.le_of_ble_eq_true rfl) ?_
  refine cx_sr ?_
  simp only [go_sem]
  repeat first | (with_reducible refine side_d ?_ ?_; exact byD) | (with_reducible refine side_q ?_ ?_; exact byQ)
  refine cx_sr ?_
  simp only [go_sem]
  refine cw_m (LastIx0_c s c hs) byW byT ?_
  simp only [go_sem]
  refine cx_ret ?_
  simp only [go_sem]
  exact finw_int rfl
def hasPre (s p : Str) : Bool := decide (p.length ≤ s.length) && decide (s.take p.length = p)
theorem HasPre0_c (s p : Str) (hs : s.length < 4611686018427387904) : Meets Tryd.prog 65 [.str s, .str p] (.bool (hasPre s p)) [] := by
  refine meets_x (fn := Tryd.f65) Tryd.func65 rfl fb65 (by kernel_rfl) (Nat.le_of_ble_eq_true rfl) ?_
  refine cx_sr ?_
  simp only [go_sem]
  repeat first | (with_reducible refine side_d ?_ ?_; exact byD) | (with_reducible refine side_q ?_ ?_; exact byQ)
  refine cx_sr ?_
  simp only [go_sem]
  intro t9 e9
  repeat first | (with_reducible refine side_d ?_ ?_; exact byD) | (with_reducible refine side_q ?_ ?_; exact byQ)
  intro t16 e16
  intro t17 e17
  rw [bsel_and] at e17
  subst e9 e16 e17
  refine cx_ret ?_
  simp only [go_sem]
  refine finw_bool ?_
  simp [hasPre]
theorem HasPre_c (s p : Str) (hs : s.length < 4611686018427387904) : Meets Tryd.prog 50 [.str s, .str p] (.bool (hasPre s p)) [] := by
  refine meets_x (fn := Tryd.f50) Tryd.func50 rfl fb50 (by kernel_rfl) (Nat.le_of_ble_eq_true rfl) ?_
  refine cx_sr ?_
  simp only [go_sem]
  repeat first | (with_reducible refine side_d ?_ ?_; exact byD) | (with_reducible refine side_q ?_ ?_; exact byQ)
  refine cx_sr ?_
  simp only [go_sem]
  refine cw_m (HasPre0_c s p hs) byW byT ?_
  simp only [go_sem]
  refine cx_ret ?_
  simp only [go_sem]
  exact finw_bool rfl
def isIn (a b : Str) : Bool := decide (a = b) || hasPre a (b ++ [47])
theorem In_c (a b : Str) (hs : a.length < 4611686018427387904) (hb : b.length < 4611686018427387904) : Meets Tryd.prog 37 [.str a, .str b] (.bool (isIn a b)) [] := by
  refine meets_x (fn := Tryd.f37) Tryd.func37 rfl fb37 (by kernel_rfl) (Nat.le_of_ble_eq_true rfl) ?_
  refine cx_sr ?_
  simp only [go_sem]
  repeat first | (with_reducible refine side_d ?_ ?_; exact byD) | (with_reducible refine side_q ?_ ?_; exact byQ)
  refine cx_sr ?_
  simp only [go_sem]
  intro t7 e7
  repeat ((with_reducible first | refine side_d ?_ ?_ | refine side_q ?_ ?_); focus (first | exact byD | exact byQ | ((refine Sd.mk ?_; simp; omega))))
  repeat first | (with_reducible refine side_d ?_ ?_; exact byD) | (with_reducible refine side_q ?_ ?_; exact byQ)
  refine ⟨_, fun hp => cw_m (HasPre_c _ _ hs) byW byT ⟨rfl, rfl⟩, ?_⟩
  simp only [go_sem]
  intro t13 e13
  rw [bsel_or] at e13
  subst e7 e13
  refine cx_ret ?_
  simp only [go_sem]
  refine finw_bool ?_
  simp [isIn]
theorem Check_c (s : Str) (hs : s.length < 4611686018427387904) : Meets Tryd.prog 57 [.str s] (.int .i64 (checkP [s])) [] := by
  refine meets_x (fn := Tryd.f57) Tryd.func57 rfl fb57 (by kernel_rfl) (Nat.le_of_ble_eq_true rfl) ?_
  refine cx_sr ?_
  simp only [go_sem]
  repeat first | (with_reducible refine side_d ?_ ?_; exact byD) | (with_reducible refine side_q ?_ ?_; exact byQ)
  refine cx_sr ?_
  simp only [go_sem]
  refine cw_v 2 (check_c [s] (by simp) (by simpa using hs)) byV byC rfl ?_
  simp only [go_sem]
  refine cx_ret ?_
  simp only [go_sem]
  exact finw_int rfl
end Go.VM.Tryd
end
section
set_option maxHeartbeats 4000000
set_option linter.unusedVariables false
set_option linter.unusedSimpArgs false
open Go Go.VM Go.Proofs Tether
namespace Go.VM.Tryd
set_option maxRecDepth 100000
abbrev lix (s : Str) (c : Int) : Int := lixN s c s.length
theorem lixN_le (s : Str) (c : Int) : ∀ n, -1 ≤ lixN s c n ∧ lixN s c n < n
  | 0 => by simp [lixN]
  | n + 1 => by
    have := lixN_le s c n
    simp only [lixN]
    split <;> omega
def headOf (s : Str) : Str := s.take (lix s 47).toNat
def tailOf (s : Str) : Str := s.drop (lix s 47 + 1).toNat
theorem Split_c (s : Str) (hs : s.length < 4611686018427387904) : Meets Tryd.prog 71 [.str s] (.tup [.str (headOf s), .str (tailOf s)]) [] := by
  refine meets_x (fn := Tryd.f71) Tryd.func71 rfl fb71 (by kernel_rfl) (Nat.le_of_ble_eq_true rfl) ?_
  have hlx := lixN_le s 47 s.length
  refine cx_sr ?_
  simp only [go_sem]
  repeat first | (with_reducible refine side_d ?_ ?_; exact byD) | (with_reducible refine side_q ?_ ?_; exact byQ)
  refine cx_sr ?_
  simp only [go_sem]
  refine cw_m (LastIx_c s 47 hs) byW byT ?_
  simp only [go_sem]
  refine cx_seq (cx_draw mixed [2, 3, 6, 7] (.first 0 (.first 1 (.first 4 (.first 5 (.alt 2 (.alt 3 (.first 8 (.one 6 (.one 7 (.first 9 (.done))))) (.one 6 (.alt 3 (.first 8 (.one 7 (.first 9 (.done)))) (.one 7 (.one 3 (.first 8 (.first 9 (.done)))))))) (.one 6 (.alt 2 (.alt 3 (.first 8 (.one 7 (.first 9 (.done)))) (.one 7 (.one 3 (.first 8 (.first 9 (.done)))))) (.one 7 (.one 2 (.one 3 (.first 8 (.first 9 (.done))))))))))))) (by kernel_rfl) ?_)
  simp only [go_sem]
  refine ⟨?_, ?_⟩
  ·
   refine ⟨?_, ?_⟩
   ·
    repeat first | (with_reducible refine side_d ?_ ?_; exact byD) | (with_reducible refine side_q ?_ ?_; exact byQ)
    intro t13 e13
    (try replace e13 := w64 e13 (by omega) (by omega))
    repeat first | (with_reducible refine side_d ?_ ?_; exact byD) | (with_reducible refine side_q ?_ ?_; exact byQ)
    refine cx_ret ?_
    simp only [go_sem]
    refine finw_flat rfl ?_
    have h1 : (if lixN s 47 s.length > 0 then lixN s 47 s.length else 0).toNat = (lixN s 47 s.length).toNat := by split <;> omega
    subst e13
    rw [h1]
    exact wk_refl _
   ·
    intro t13 e13
    (try replace e13 := w64 e13 (by omega) (by omega))
    refine ⟨?_, ?_⟩
    ·
     repeat first | (with_reducible refine side_d ?_ ?_; exact byD) | (with_reducible refine side_q ?_ ?_; exact byQ)
     refine cx_ret ?_
     simp only [go_sem]
     refine finw_flat rfl ?_
     have h1 : (if lixN s 47 s.length > 0 then lixN s 47 s.length else 0).toNat = (lixN s 47 s.length).toNat := by split <;> omega
     subst e13
     rw [h1]
     exact wk_refl _
    ·
     repeat first | (with_reducible refine side_d ?_ ?_; exact byD) | (with_reducible refine side_q ?_ ?_; exact byQ)
     refine cx_ret ?_
     simp only [go_sem]
     refine finw_flat rfl ?_
     have h1 : (if lixN s 47 s.length > 0 then lixN s 47 s.length else 0).toNat = (lixN s 47 s.length).toNat := by split <;> omega
     subst e13
     rw [h1]
     exact wk_refl _
  ·
   intro t13 e13
   (try replace e13 := w64 e13 (by omega) (by omega))
   refine ⟨?_, ?_⟩
   ·
    refine ⟨?_, ?_⟩
    ·
     repeat first | (with_reducible refine side_d ?_ ?_; exact byD) | (with_reducible refine side_q ?_ ?_; exact byQ)
     refine cx_ret ?_
     simp only [go_sem]
     refine finw_flat rfl ?_
     have h1 : (if lixN s 47 s.length > 0 then lixN s 47 s.length else 0).toNat = (lixN s 47 s.length).toNat := by split <;> omega
     subst e13
     rw [h1]
     exact wk_refl _
    ·
     repeat first | (with_reducible refine side_d ?_ ?_; exact byD) | (with_reducible refine side_q ?_ ?_; exact byQ)
     refine cx_ret ?_
     simp only [go_sem]
     refine finw_flat rfl ?_
     have h1 : (if lixN s 47 s.length > 0 then lixN s 47 s.length else 0).toNat = (lixN s 47 s.length).toNat := by split <;> omega
     subst e13
     rw [h1]
     exact wk_refl _
   ·
    repeat first | (with_reducible refine side_d ?_ ?_; exact byD) | (with_reducible refine side_q ?_ ?_; exact byQ)
    refine cx_ret ?_
    simp only [go_sem]
    refine finw_flat rfl ?_
    have h1 : (if lixN s 47 s.length > 0 then lixN s 47 s.length else 0).toNat = (lixN s 47 s.length).toNat := by split <;> omega
    subst e13
    rw [h1]
    exact wk_refl _
def movedP (s f t : Str) : Str × Int :=
  if checkP [s, f, t] ≠ 0 then ([], checkP [s, f, t])
  else if isIn s f = false then ([], 5)
  else if greatB (t ++ s.drop f.length) then ([], 2)
  else (t ++ s.drop f.length, 0)
theorem isIn_len {a b : Str} (h : isIn a b = true) : b.length ≤ a.length := by
  simp only [isIn, hasPre, Bool.or_eq_true, decide_eq_true_eq, Bool.and_eq_true] at h
  rcases h with rfl | ⟨h, _⟩
  · exact Nat.le_refl _
  · simp at h; omega
theorem Moved_c (s f t : Str) (hs : s.length + t.length < 4611686018427387904) (hf : f.length < 4611686018427387904) : Meets Tryd.prog 62 [.str s, .str f, .str t] (.tup [.str (movedP s f t).1, .int .i64 (movedP s f t).2]) [] := by
  refine meets_x (fn := Tryd.f62) Tryd.func62 rfl fb62 (by kernel_rfl) (Nat.le_of_ble_eq_true rfl) ?_
  refine cx_sr ?_
  simp only [go_sem]
  repeat first | (with_reducible refine side_d ?_ ?_; exact byD) | (with_reducible refine side_q ?_ ?_; exact byQ)
  refine cx_seq ?_
  refine cx_sr ?_
  simp only [go_sem]
  refine cw_v 2 (check_c [s, f, t] (by simp) (by simp; omega)) byV byC rfl ?_
  simp only [go_sem]
  refine cx_sr ?_
  simp only [go_sem]
  intro t16 e16
  subst e16
  refine cx_if _ rfl (fun h16 => ?_) (fun h16 => ?_)
  ·
   (try simp only [go_sem] at h16)
   refine cx_sr ?_
   simp only [go_sem]
   refine cx_ret ?_
   simp only [go_sem]
   refine finw_flat rfl ?_
   unfold movedP
   simp_all [wk]
   exact wks_refl _
  ·
   (try simp only [go_sem] at h16)
   refine cx_skip ?_
   (try simp only [go_sem])
   refine cx_seq ?_
   refine cx_sr ?_
   simp only [go_sem]
   refine cw_m (In_c s f (by omega) hf) byW byT ?_
   simp only [go_sem]
   intro t21 e21
   subst e21
   refine cx_if _ rfl (fun h21 => ?_) (fun h21 => ?_)
   ·
    (try simp only [go_sem] at h21)
    refine cx_sr ?_
    simp only [go_sem]
    refine cx_ret ?_
    simp only [go_sem]
    refine finw_flat rfl ?_
    unfold movedP
    simp_all [wk]
    exact wks_refl _
   ·
    (try simp only [go_sem] at h21)
    have hin : isIn s f = true := by simpa using h21
    have hfl := isIn_len hin
    refine cx_skip ?_
    (try simp only [go_sem])
    refine cx_sr ?_
    simp only [go_sem]
    repeat ((with_reducible first | refine side_d ?_ ?_ | refine side_q ?_ ?_); focus (first | exact byD | exact byQ | ((refine Sd.mk ?_; simp; omega))))
    repeat first | (with_reducible refine side_d ?_ ?_; exact byD) | (with_reducible refine side_q ?_ ?_; exact byQ)
    refine cx_seq ?_
    refine cx_sr ?_
    simp only [go_sem]
    refine cw_m (great _) byW byT ?_
    simp only [go_sem]
    refine cx_if _ rfl (fun h29 => ?_) (fun h29 => ?_)
    ·
     (try simp only [go_sem] at h29)
     refine cx_sr ?_
     simp only [go_sem]
     refine cx_ret ?_
     simp only [go_sem]
     refine finw_flat rfl ?_
     unfold movedP
     simp_all [wk]
     exact wks_refl _
    ·
     (try simp only [go_sem] at h29)
     refine cx_skip ?_
     (try simp only [go_sem])
     refine cx_sr ?_
     simp only [go_sem]
     refine cx_ret ?_
     simp only [go_sem]
     refine finw_flat rfl ?_
     unfold movedP
     simp_all [wk]
     exact wks_refl _
end Go.VM.Tryd
end
section
set_option maxHeartbeats 4000000
set_option linter.unusedVariables false
set_option linter.unusedSimpArgs false
open Go Go.VM Go.Proofs Tether
namespace Go.VM.Tryd
set_option maxRecDepth 100000
/-- the first of these names with slashes between -/
def pathN (l : List Str) : Nat → Str
  | 0 => []
  | i + 1 => (if i = 0 then pathN l i else pathN l i ++ [47]) ++ l.getD i []
end Go.VM.Tryd
end
section
set_option maxHeartbeats 4000000
set_option linter.unusedVariables false
set_option linter.unusedSimpArgs false
open Go Go.VM Go.Proofs Tether
namespace Go.VM.Tryd
set_option maxRecDepth 100000
def inP (a b : List Str) : Bool := decide (b.length ≤ a.length) && (List.range b.length).all fun i => decide (a.getD i [] = b.getD i [])
end Go.VM.Tryd
end
section
set_option maxHeartbeats 4000000
set_option linter.unusedVariables false
set_option linter.unusedSimpArgs false
open Go Go.VM
namespace Tether
theorem mid_eq {t20 t21 t22 t23 : Int} {a b : Nat} (h : a + b < 9223372036854775808) (e20 : t20 = (a : Int) + (b : Int)) (e21 : t21 = IntKind.u64.wrap t20) (e22 : t22 = t21.fdiv (2 ^ 1)) (e23 : t23 = IntKind.i64.wrap t22) : t23 = (((a + b) / 2 : Nat) : Int) := by
  have h1 : IntKind.u64.wrap t20 = t20 := by
    simp only [IntKind.wrap, IntKind.signed, IntKind.bits]; simp; omega
  have h2 : t22 = (((a + b) / 2 : Nat) : Int) := by
    rw [e22, e21, h1, e20, Int.fdiv_eq_ediv_of_nonneg _ (by decide)]
    simp
  rw [e23, h2]
  exact wrap64 (by omega) (by omega)
section
variable {α : Type} {enc : α → List V} {d : α} {l : List α}
theorem En_ins {i q : Nat} {x : α} (hi : i ≤ l.length) (hq : q < l.length + 1) : En enc d (l.take i ++ x :: l.drop i) q = if q < i then En enc d l q else if q = i then enc x else En enc d l (q - 1) := by
  have hl : (l.take i).length = i := by simp; omega
  simp only [En, List.getD_eq_getElem?_getD]
  by_cases h1 : q < i
  · rw [if_pos h1, List.getElem?_append_left (by omega), List.getElem?_take, if_pos h1]
  · rw [if_neg h1, List.getElem?_append_right (by omega), hl]
    by_cases h2 : q = i
    · rw [if_pos h2, h2]; simp
    · rw [if_neg h2]
      obtain ⟨k, hk⟩ : ∃ k, q - i = k + 1 := ⟨q - i - 1, by omega⟩
      rw [hk, List.getElem?_cons_succ, List.getElem?_drop]
      have : i + k = q - 1 := by omega
      rw [this]
theorem wks_mp_of (h : ∀ x, ltrs 0 (enc x) = true) {g : Nat → Option Nat} {f : Nat → List V} {l' : List α} {q : Nat} (he : f q = En enc d l' q) : wks (mpF (rnVs g) f q) (En enc d l' q) := by
  simp only [mpF, he, En, rnVs_no _ (h _)]; exact wks_refl _
theorem ins_grow {i q k m : Nat} {x : α} {z : List V} {v : Nat → List V} (hv : ∀ j, v j = enc x) (hi : i < l.length) (hq : q < l.length + 1) (hk : k = l.length - i) (hm : m = 1) :
    over (i + 1) k (En enc d (l.drop i)) (over i m v (join i (En enc d l) fun _ => z)) q = En enc d (l.take i ++ x :: l.drop i) q := by
  subst hm
  rw [En_ins (Nat.le_of_lt hi) hq, ← shF_En]
  unfold over
  by_cases h1 : q < i
  · rw [if_neg (by omega), if_neg (by omega), if_pos h1]
    unfold join
    rw [show Nat.blt q i = true by simpa using h1]
    rfl
  · rw [if_neg h1]
    by_cases h2 : q = i
    · rw [if_neg (by omega), if_pos (by omega), if_pos h2, hv]
    · rw [if_pos (by omega), if_neg h2]
      unfold shF
      congr 1
      omega
theorem ins_in {i q k m : Nat} {x : α} {v : Nat → List V} (hv : ∀ j, v j = enc x) (hi : i < l.length) (hq : q < l.length + 1) (hk : k = l.length - i) (hm : m = 1) :
    over i m v (over (i + 1) k (En enc d (l.drop i)) (En enc d l)) q = En enc d (l.take i ++ x :: l.drop i) q := by
  subst hm
  rw [En_ins (Nat.le_of_lt hi) hq, ← shF_En]
  unfold over
  by_cases h1 : q < i
  · rw [if_neg (by omega), if_neg (by omega), if_pos h1]
  · rw [if_neg h1]
    by_cases h2 : q = i
    · rw [if_pos (by omega), if_pos h2, hv]
    · rw [if_neg (by omega), if_pos (by omega), if_neg h2]
      unfold shF
      congr 1
      omega
theorem ins_end {i q : Nat} {x : α} {v : Nat → List V} (hv : ∀ j, v j = enc x) (hi : i = l.length) (hq : q < l.length + 1) :
    over i 1 v (En enc d l) q = En enc d (l.take i ++ x :: l.drop i) q := by
  rw [En_ins (Nat.le_of_eq hi) hq]
  unfold over
  by_cases h1 : q < i
  · rw [if_neg (by omega), if_pos h1]
  · rw [if_neg h1, if_pos (by omega), if_pos (by omega), hv]
theorem ins_end' {i q : Nat} {x : α} {v : Nat → List V} (hv : ∀ j, v j = enc x) (hi : i = l.length) (hq : q < l.length + 1) :
    join i (En enc d l) v q = En enc d (l.take i ++ x :: l.drop i) q := by
  rw [En_ins (Nat.le_of_eq hi) hq]
  unfold join
  by_cases h1 : q < i
  · rw [if_pos h1, show Nat.blt q i = true by simpa using h1]
    rfl
  · rw [if_neg h1, if_pos (by omega)]
    have : Nat.blt q i = false := by
      cases hb : Nat.blt q i with
      | false => rfl
      | true => exact absurd (by simpa using hb) h1
    rw [this]
    exact hv _
end
end Tether
end
section
set_option maxHeartbeats 4000000
set_option linter.unusedVariables false
set_option linter.unusedSimpArgs false
open Go Go.VM
namespace Tether
theorem bytesLess_iff : ∀ (x y : Str), Op.bytesLess x y = true ↔ x < y
  | _, [] => by simp [Op.bytesLess]
  | [], _ :: _ => by simp [Op.bytesLess]
  | a :: x, b :: y => by
    rw [List.cons_lt_cons_iff]
    simp only [Op.bytesLess, Bool.or_eq_true, Bool.and_eq_true, decide_eq_true_eq, beq_iff_eq, bytesLess_iff x y]
theorem blt_iff {a b : Str} : blt a b = true ↔ a < b := bytesLess_iff a b
theorem blt_eq {a b : Str} : blt a b = decide (a < b) := by
  cases h : blt a b with
  | true => simp [blt_iff.1 h]
  | false =>
    have : ¬ a < b := fun h' => by rw [blt_iff.2 h'] at h; cases h
    simp [this]
theorem str_tri (a b : Str) : a < b ∨ a = b ∨ b < a := by
  by_cases h1 : a < b
  · exact .inl h1
  · by_cases h2 : b < a
    · exact .inr (.inr h2)
    · exact .inr (.inl (List.le_antisymm h2 h1))
def strE (s : Str) : List V := [.str s]
attribute [go_sem] strE
def numE (n : Int) : List V := [.int .i64 n]
attribute [go_sem] numE
/-- texts compared -/
def cmpS (a b : Str) : Int := if blt a b = true then -1 else if blt b a = true then 1 else 0
theorem cmpS_lt {a b : Str} : cmpS a b < 0 ↔ a < b := by
  unfold cmpS
  by_cases h : a < b
  · simp [blt_iff.2 h, h]
  · rw [if_neg (by rw [blt_iff]; exact h)]
    split <;> simp [h]
theorem cmpS_eq {a b : Str} : cmpS a b = 0 ↔ a = b := by
  unfold cmpS
  by_cases h : a < b
  · have : a ≠ b := fun e => by subst e; exact List.lt_irrefl a h
    simp [blt_iff.2 h, this]
  · rw [if_neg (by rw [blt_iff]; exact h)]
    by_cases h2 : b < a
    · have : a ≠ b := fun e => by subst e; exact List.lt_irrefl a h2
      simp [blt_iff.2 h2, this]
    · rw [if_neg (by rw [blt_iff]; exact h2)]
      rcases str_tri a b with h3 | h3 | h3
      · exact absurd h3 h
      · simp [h3]
      · exact absurd h3 h2
theorem nodup_le {α : Type} [DecidableEq α] : ∀ {A B : List α}, A.Nodup → (∀ a ∈ A, a ∈ B) → A.length ≤ B.length
  | [], _, _, _ => Nat.zero_le _
  | a :: A, B, hA, h => by
    have ha := h a (by simp)
    have hA' := List.nodup_cons.1 hA
    have := nodup_le (A := A) (B := B.erase a) hA'.2 fun x hx => by
      have hne : x ≠ a := fun e => hA'.1 (e ▸ hx)
      exact (List.mem_erase_of_ne hne).2 (h x (by simp [hx]))
    rw [List.length_erase_of_mem ha] at this
    have hpos : 0 < B.length := List.length_pos_of_mem ha
    simp; omega
end Tether
end
section
set_option maxHeartbeats 4000000
set_option linter.unusedVariables false
set_option linter.unusedSimpArgs false
open Go Go.VM
namespace Tether
structure Entry where
  path : Str
  folder : Bool
  text : Str
  version : Int
  deriving Inhabited, DecidableEq
def Entry.enc (x : Entry) : List V := [.str x.path, .bool x.folder, .str x.text, .int .i64 x.version]
structure Change where
  kind : Int
  path : Str
  to : Str
  text : Str
  base : Int
  deriving Inhabited, DecidableEq
def Change.enc (c : Change) : List V := [.int .i64 c.kind, .str c.path, .str c.to, .str c.text, .int .i64 c.base]
attribute [go_sem] Entry.enc Change.enc
def SortedE (l : List Entry) : Prop := l.Pairwise fun a b => a.path < b.path
theorem lt_trans' {a b c : Str} (h : a < b) (k : b < c) : a < c := List.lt_trans h k
theorem lt_irrefl' (a : Str) : ¬ a < a := List.lt_irrefl a
theorem lt_asymm' {a b : Str} (h : a < b) : ¬ b < a := fun k => lt_irrefl' a (lt_trans' h k)
/-- where a path is, or belongs -/
def eIx (l : List Entry) (p : Str) : Nat := l.findIdx fun x => !(blt x.path p)
def hasE (l : List Entry) (p : Str) : Bool := decide (eIx l p < l.length) && decide ((l.getD (eIx l p) default).path = p)
def findE (l : List Entry) (p : Str) : Option Entry := l.find? fun x => decide (x.path = p)
theorem eIx_le (l : List Entry) (p : Str) : eIx l p ≤ l.length := List.findIdx_le_length
theorem eIx_lt {l : List Entry} {p : Str} {j : Nat} (h : j < eIx l p) : (l.getD j default).path < p := by
  have hl : j < l.length := Nat.lt_of_lt_of_le h (eIx_le l p)
  have := List.not_of_lt_findIdx (p := fun x : Entry => !(blt x.path p)) h
  rw [List.getD_eq_getElem?_getD, List.getElem?_eq_getElem hl]
  exact blt_iff.1 (by simpa using this)
theorem eIx_ge {l : List Entry} (hs : SortedE l) {p : Str} {j : Nat} (h : eIx l p ≤ j) (hj : j < l.length) : ¬ (l.getD j default).path < p := by
  have hi : eIx l p < l.length := by omega
  have h1 : ¬ (l[eIx l p]).path < p := by
    have : (!(blt (l[eIx l p]).path p)) = true := List.findIdx_getElem (p := fun x : Entry => !(blt x.path p)) (w := hi)
    intro h2
    rw [blt_iff.2 h2] at this
    cases this
  rw [List.getD_eq_getElem?_getD, List.getElem?_eq_getElem hj]
  simp only [Option.getD_some]
  rcases Nat.eq_or_lt_of_le h with h2 | h2
  · subst h2; exact h1
  · intro h3
    have := List.pairwise_iff_getElem.1 hs (eIx l p) j hi hj h2
    exact h1 (lt_trans' this h3)
theorem sorted_inj {l : List Entry} (hs : SortedE l) {i j : Nat} (hi : i < l.length) (hj : j < l.length) (h : l[i].path = l[j].path) : i = j := by
  rcases Nat.lt_trichotomy i j with h1 | h1 | h1
  · have := List.pairwise_iff_getElem.1 hs i j hi hj h1
    rw [h] at this
    exact absurd this (lt_irrefl' _)
  · exact h1
  · have := List.pairwise_iff_getElem.1 hs j i hj hi h1
    rw [h] at this
    exact absurd this (lt_irrefl' _)
theorem sorted_mem_inj {l : List Entry} (hs : SortedE l) {x y : Entry} (hx : x ∈ l) (hy : y ∈ l) (h : x.path = y.path) : x = y := by
  obtain ⟨i, hi, rfl⟩ := List.getElem_of_mem hx
  obtain ⟨j, hj, rfl⟩ := List.getElem_of_mem hy
  obtain rfl := sorted_inj hs hi hj h
  rfl
theorem findE_some {l : List Entry} {p : Str} {x : Entry} (h : findE l p = some x) : x ∈ l ∧ x.path = p :=
  ⟨List.mem_of_find?_eq_some h, by simpa using List.find?_some h⟩
theorem findE_none {l : List Entry} {p : Str} : findE l p = none ↔ ∀ x ∈ l, x.path ≠ p := by
  simp [findE, List.find?_eq_none]
theorem findE_mem {l : List Entry} (hs : SortedE l) {x : Entry} (h : x ∈ l) : findE l x.path = some x := by
  cases hf : findE l x.path with
  | none => exact absurd rfl (findE_none.1 hf x h)
  | some y =>
    obtain ⟨h1, h2⟩ := findE_some hf
    rw [sorted_mem_inj hs h1 h h2]
theorem findE_eq {l : List Entry} (hs : SortedE l) (p : Str) : findE l p = if hasE l p = true then some (l.getD (eIx l p) default) else none := by
  by_cases h : hasE l p = true
  · rw [if_pos h]
    simp only [hasE, Bool.and_eq_true, decide_eq_true_eq] at h
    have hm : l.getD (eIx l p) default ∈ l := by
      rw [List.getD_eq_getElem?_getD, List.getElem?_eq_getElem h.1]
      exact List.getElem_mem _
    have := findE_mem hs hm
    rwa [h.2] at this
  · rw [if_neg h, findE_none]
    intro x hx hp
    obtain ⟨j, hj, rfl⟩ := List.getElem_of_mem hx
    apply h
    have hjd : l.getD j default = l[j] := by rw [List.getD_eq_getElem?_getD, List.getElem?_eq_getElem hj]; rfl
    have h1 : eIx l p ≤ j := by
      rcases Nat.lt_or_ge j (eIx l p) with h2 | h2
      · have := eIx_lt h2
        rw [hjd, hp] at this
        exact absurd this (lt_irrefl' _)
      · exact h2
    have hlt : eIx l p < l.length := by omega
    simp only [hasE, Bool.and_eq_true, decide_eq_true_eq]
    refine ⟨hlt, ?_⟩
    rcases Nat.eq_or_lt_of_le h1 with h2 | h2
    · rw [h2, hjd, hp]
    · have h3 := List.pairwise_iff_getElem.1 hs (eIx l p) j hlt hj h2
      rw [hp] at h3
      have h4 := eIx_ge hs (Nat.le_refl (eIx l p)) hlt
      rw [List.getD_eq_getElem?_getD, List.getElem?_eq_getElem hlt] at h4
      exact absurd h3 h4
theorem hasE_iff {l : List Entry} (hs : SortedE l) {p : Str} : hasE l p = true ↔ ∃ x ∈ l, x.path = p := by
  have h := findE_eq hs p
  constructor
  · intro h1
    rw [if_pos h1] at h
    exact ⟨_, (findE_some h).1, (findE_some h).2⟩
  · rintro ⟨x, hx, rfl⟩
    rw [findE_mem hs hx] at h
    by_cases h1 : hasE l x.path = true
    · exact h1
    · rw [if_neg h1] at h
      cases h
theorem cmp_lt {l : List Entry} {p : Str} {j : Nat} (h : j < eIx l p) : cmpS (l.getD j default).path p < 0 := cmpS_lt.2 (eIx_lt h)
theorem cmp_ge {l : List Entry} (hs : SortedE l) {p : Str} {j : Nat} (h : eIx l p ≤ j) (hj : j < l.length) : 0 ≤ cmpS (l.getD j default).path p := by
  have := eIx_ge hs h hj
  rw [← cmpS_lt] at this
  omega
/-- put an entry in the place of what is there -/
def putE (l : List Entry) (x : Entry) : List Entry := if hasE l x.path = true then l.set (eIx l x.path) x else l.take (eIx l x.path) ++ x :: l.drop (eIx l x.path)
theorem take_lt {l : List Entry} {p : Str} {x : Entry} (h : x ∈ l.take (eIx l p)) : x.path < p := by
  obtain ⟨j, hj, rfl⟩ := List.getElem_of_mem h
  simp only [List.length_take] at hj
  have := eIx_lt (l := l) (p := p) (j := j) (by omega)
  rw [List.getD_eq_getElem?_getD, List.getElem?_eq_getElem (by omega)] at this
  simpa using this
theorem drop_gt {l : List Entry} (hs : SortedE l) {p : Str} {x : Entry} (h : x ∈ l.drop (if hasE l p = true then eIx l p + 1 else eIx l p)) : p < x.path := by
  obtain ⟨j, hj, rfl⟩ := List.getElem_of_mem h
  simp only [List.length_drop] at hj
  simp only [List.getElem_drop]
  have hjl : (if hasE l p = true then eIx l p + 1 else eIx l p) + j < l.length := by omega
  have h1 : eIx l p ≤ (if hasE l p = true then eIx l p + 1 else eIx l p) + j := by split <;> omega
  have h2 := eIx_ge hs h1 hjl
  rw [List.getD_eq_getElem?_getD, List.getElem?_eq_getElem hjl] at h2
  simp only [Option.getD_some] at h2
  rcases str_tri (l[(if hasE l p = true then eIx l p + 1 else eIx l p) + j]).path p with h3 | h3 | h3
  · exact absurd h3 h2
  · exfalso
    have hh : hasE l p = true := (hasE_iff hs).2 ⟨_, List.getElem_mem hjl, h3⟩
    simp only [hh, if_true] at h3 hjl
    have hh' := hh
    simp only [hasE, Bool.and_eq_true, decide_eq_true_eq] at hh'
    have h5 : (l[eIx l p]'hh'.1).path = p := by
      have := hh'.2
      rw [List.getD_eq_getElem?_getD, List.getElem?_eq_getElem hh'.1] at this
      exact this
    have := sorted_inj hs hjl hh'.1 (by rw [h3, h5])
    omega
  · exact h3
theorem putE_eq (l : List Entry) (x : Entry) : putE l x = l.take (eIx l x.path) ++ x :: l.drop (if hasE l x.path = true then eIx l x.path + 1 else eIx l x.path) := by
  unfold putE
  by_cases h : hasE l x.path = true
  · rw [if_pos h, if_pos h]
    simp only [hasE, Bool.and_eq_true, decide_eq_true_eq] at h
    rw [List.set_eq_take_append_cons_drop, if_pos h.1]
  · rw [if_neg h, if_neg h]
theorem putE_sorted {l : List Entry} (hs : SortedE l) (x : Entry) : SortedE (putE l x) := by
  rw [putE_eq]
  unfold SortedE
  rw [List.pairwise_append]
  refine ⟨hs.sublist (List.take_sublist _ _), List.pairwise_cons.2 ⟨fun y hy => drop_gt hs hy, hs.sublist (List.drop_sublist _ _)⟩, fun a ha b hb => ?_⟩
  rcases List.mem_cons.1 hb with rfl | hb
  · exact take_lt ha
  · exact lt_trans' (take_lt ha) (drop_gt hs hb)
theorem putE_mem {l : List Entry} (hs : SortedE l) {x y : Entry} : y ∈ putE l x ↔ y = x ∨ (y ∈ l ∧ y.path ≠ x.path) := by
  rw [putE_eq]
  constructor
  · intro h
    rcases List.mem_append.1 h with h | h
    · exact .inr ⟨List.mem_of_mem_take h, fun e => lt_irrefl' _ (e ▸ take_lt h)⟩
    · rcases List.mem_cons.1 h with h | h
      · exact .inl h
      · exact .inr ⟨List.mem_of_mem_drop h, fun e => by have := drop_gt hs h; rw [e] at this; exact lt_irrefl' _ this⟩
  · rintro (rfl | ⟨h1, h2⟩)
    · simp
    · have hsplit : l = l.take (eIx l x.path) ++ l.drop (eIx l x.path) := (List.take_append_drop _ _).symm
      rw [hsplit] at h1
      rcases List.mem_append.1 h1 with h | h
      · exact List.mem_append_left _ h
      · apply List.mem_append_right
        apply List.mem_cons_of_mem
        by_cases hh : hasE l x.path = true
        · rw [if_pos hh]
          simp only [hasE, Bool.and_eq_true, decide_eq_true_eq] at hh
          rw [List.drop_eq_getElem_cons hh.1] at h
          rcases List.mem_cons.1 h with e | h
          · exfalso
            have := hh.2
            rw [List.getD_eq_getElem?_getD, List.getElem?_eq_getElem hh.1] at this
            exact h2 (by rw [e]; exact this)
          · exact h
        · rw [if_neg hh]
          exact h
theorem putE_length (l : List Entry) (x : Entry) : (putE l x).length = if hasE l x.path = true then l.length else l.length + 1 := by
  have hle := eIx_le l x.path
  unfold putE
  split
  · simp
  · simp
    omega
theorem filter_sorted {l : List Entry} (hs : SortedE l) (p : Entry → Bool) : SortedE (l.filter p) := List.Pairwise.filter _ hs
end Tether
end
section
set_option maxHeartbeats 4000000
set_option linter.unusedVariables false
set_option linter.unusedSimpArgs false
open Go Go.VM Go.Proofs Tether
namespace Go.VM.Tryd
set_option maxRecDepth 100000
theorem isNaN_c (a : Str) : Meets Tryd.prog 66 [.str a] (.bool false) [] := by
  refine meets_x (fn := Tryd.f66) Tryd.func66 rfl fb66 (by kernel_rfl) (Nat.le_of_ble_eq_true rfl) ?_
  refine cx_sr ?_
  simp only [go_sem]
  repeat first | (with_reducible refine side_d ?_ ?_; exact byD) | (with_reducible refine side_q ?_ ?_; exact byQ)
  refine cx_sr ?_
  simp only [go_sem]
  intro t5 e5
  subst e5
  refine cx_ret ?_
  simp only [go_sem]
  exact finw_bool (by simp)
theorem Compare_c (a b : Str) : Meets Tryd.prog 53 [.str a, .str b] (.int .i64 (cmpS a b)) [] := by
  refine meets_x (fn := Tryd.f53) Tryd.func53 rfl fb53 (by kernel_rfl) (Nat.le_of_ble_eq_true rfl) ?_
  refine cx_sr ?_
  simp only [go_sem]
  repeat first | (with_reducible refine side_d ?_ ?_; exact byD) | (with_reducible refine side_q ?_ ?_; exact byQ)
  refine cx_sr ?_
  simp only [go_sem]
  refine cw_m (isNaN_c a) byW byT ?_
  simp only [go_sem]
  refine cx_sr ?_
  simp only [go_sem]
  refine cw_m (isNaN_c b) byW byT ?_
  simp only [go_sem]
  refine cx_seq ?_
  refine cx_sr ?_
  simp only [go_sem]
  refine cx_if _ rfl (fun h11 => no_if h11) (fun h11 => ?_)
  refine cx_skip ?_
  (try simp only [go_sem])
  refine cx_seq ?_
  refine cx_sr ?_
  simp only [go_sem]
  refine cx_if _ rfl (fun h13 => no_if h13) (fun h13 => ?_)
  refine cx_skip ?_
  (try simp only [go_sem])
  refine cx_seq ?_
  refine cx_sr ?_
  simp only [go_sem]
  intro t16 e16
  subst e16
  refine cx_if _ rfl (fun h16 => ?_) (fun h16 => ?_)
  ·
   (try simp only [go_sem] at h16)
   refine cx_sr ?_
   simp only [go_sem]
   refine cx_ret ?_
   simp only [go_sem]
   refine finw_int ?_
   rw [cmpS, if_pos h16]
  ·
   (try simp only [go_sem] at h16)
   refine cx_skip ?_
   (try simp only [go_sem])
   refine cx_seq ?_
   refine cx_sr ?_
   simp only [go_sem]
   intro t19 e19
   subst e19
   refine cx_if _ rfl (fun h19 => ?_) (fun h19 => ?_)
   ·
    (try simp only [go_sem] at h19)
    refine cx_sr ?_
    simp only [go_sem]
    refine cx_ret ?_
    simp only [go_sem]
    refine finw_int ?_
    have h1 : ¬ a < b := fun h => by rw [blt_iff.2 h] at h16; cases h16
    have h2 : b < a := by
      rcases str_tri a b with h | h | h
      · exact absurd h h1
      · exact absurd h h19.2
      · exact h
    rw [cmpS, if_neg (by simp [h16]), if_pos (blt_iff.2 h2)]
   ·
    (try simp only [go_sem] at h19)
    refine cx_skip ?_
    (try simp only [go_sem])
    refine cx_sr ?_
    simp only [go_sem]
    refine cx_ret ?_
    simp only [go_sem]
    refine finw_int ?_
    rcases h19 with h | h
    · rw [h] at h16; cases h16
    · subst h
      exact (cmpS_eq.2 rfl).symm
theorem IndexFunc_Entry (f : Nat) (caps : List V) (hc : ltrs 0 caps = true) (p : Entry → Bool) (l : List Entry) (hp : ∀ x ∈ l, Meets Tryd.prog f (.agg (Entry.enc x) :: caps) (.bool (p x)) []) (hl : l.length < 4611686018427387904) :
    Meets Tryd.prog 73 [lstV 4 Entry.enc default l, .fn f [] caps] (.int .i64 (idxF p l)) [] := by
  refine meets_x (fn := Tryd.f73) Tryd.func73 rfl fb73 (by kernel_rfl) (Nat.le_of_ble_eq_true rfl) ?_
  refine cx_sr ?_
  simp only [go_sem]
  repeat first | (with_reducible refine side_d ?_ ?_; exact byD) | (with_reducible refine side_q ?_ ?_; exact byQ)
  refine cx_seq ?_
  refine cx_sr ?_
  simp only [go_sem]
  refine cx_block ?_
  refine cx_loop0 (σ := Nat) (fun i => i ≤ l.length ∧ ∀ j, j < i → p (l.getD j default) = false) (fun i => [⟨8, 0, [], .int .i64 (i : Nat)⟩]) [0, 1, 7] (fun i => l.length - i) 0 ⟨Nat.zero_le _, fun j hj => absurd hj (Nat.not_lt_zero j)⟩ (Nat.zero_le _) byC (fun i hI1 => ?_)
  simp only [go_sem]
  refine cx_sr ?_
  simp only [go_sem]
  repeat first | (with_reducible refine side_d ?_ ?_; exact byD) | (with_reducible refine side_q ?_ ?_; exact byQ)
  intro t9 e9
  subst e9
  refine cx_seq ?_
  refine cx_if _ rfl (fun h9 => ?_) (fun h9 => ?_)
  ·
   (try simp only [go_sem] at h9)
   refine cx_skip ?_
   (try simp only [go_sem])
   refine cx_seq (cx_block ?_)
   refine cx_sr ?_
   simp only [go_sem]
   refine cx_sr ?_
   simp only [go_sem]
   repeat first | (with_reducible refine side_d ?_ ?_; exact byD) | (with_reducible refine side_q ?_ ?_; exact byQ)
   refine cw_m (hp (l.getD i default) (getD_mem (by omega))) byW byT ?_
   simp only [go_sem]
   refine cx_if _ rfl (fun h16 => ?_) (fun h16 => ?_)
   ·
    (try simp only [go_sem] at h16)
    refine cx_sr ?_
    simp only [go_sem]
    refine cx_ret ?_
    simp only [go_sem]
    refine finw_int ?_
    rw [idxF_at (by omega) hI1.2 h16]
   ·
    (try simp only [go_sem] at h16)
    refine cx_skip ?_
    (try simp only [go_sem])
    refine cx_region ?_
    simp only [go_sem]
    intro t18 e18
    (try replace e18 := w64 e18 (by omega) (by omega))
    refine rnd_next (i + 1) ⟨by omega, all_next hI1.2 h16⟩ (by first | omega | (dsimp only; omega)) byC
  ·
   (try simp only [go_sem] at h9)
   refine cx_exit ?_
   simp only [go_sem]
   refine cx_sr ?_
   simp only [go_sem]
   refine cx_ret ?_
   simp only [go_sem]
   refine finw_int ?_
   rw [idxF_none fun j hj => hI1.2 j (by omega)]
theorem ContainsFunc_Entry (f : Nat) (caps : List V) (hc : ltrs 0 caps = true) (p : Entry → Bool) (l : List Entry) (hp : ∀ x ∈ l, Meets Tryd.prog f (.agg (Entry.enc x) :: caps) (.bool (p x)) []) (hl : l.length < 4611686018427387904) :
    Meets Tryd.prog 59 [lstV 4 Entry.enc default l, .fn f [] caps] (.bool (l.any p)) [] := by
  refine meets_x (fn := Tryd.f59) Tryd.func59 rfl fb59 (by kernel_rfl) (Nat.le_of_ble_eq_true rfl) ?_
  refine cx_sr ?_
  simp only [go_sem]
  repeat first | (with_reducible refine side_d ?_ ?_; exact byD) | (with_reducible refine side_q ?_ ?_; exact byQ)
  refine cx_sr ?_
  simp only [go_sem]
  refine cw_m (IndexFunc_Entry f caps hc p l hp hl) byW byT ?_
  simp only [go_sem]
  intro t8 e8
  subst e8
  refine cx_ret ?_
  simp only [go_sem]
  refine finw_bool ?_
  rw [← idxF_any]
theorem Clone_Entry (l : List Entry) (hl : l.length * 48 ≤ 140737488355328) : Meets Tryd.prog 26 [lstV 4 Entry.enc default l] (.own none 0 4 0 l.length .loose) [.arr 4 l.length (En Entry.enc default l)] := by
  refine meets_x (fn := Tryd.f26) Tryd.func26 rfl fb26 (by kernel_rfl) (Nat.le_of_ble_eq_true rfl) ?_
  refine cx_nil 0 rfl fun b hb => ?_
  refine cx_sr ?_
  simp only [go_sem]
  repeat first | (with_reducible refine side_d ?_ ?_; exact byD) | (with_reducible refine side_q ?_ ?_; exact byQ)
  refine cx_seq ?_
  refine cx_sr ?_
  simp only [go_sem]
  intro t4 e4
  subst e4
  refine cx_if _ rfl (fun h4 => ?_) (fun h4 => ?_)
  ·
   (try simp only [go_sem] at h4)
   have hb := hb h4
   refine cx_sr ?_
   simp only [go_sem]
   refine cx_virt 2 4 (En Entry.enc default l) rfl ?_
   simp only [go_sem]
   refine cx_ret ?_
   simp only [go_sem]
   exact finx_of 1 [0] rfl byC byC byC byC
  ·
   (try simp only [go_sem] at h4)
   refine cx_skip ?_
   (try simp only [go_sem])
   refine cx_sr ?_
   simp only [go_sem]
   repeat first | (with_reducible refine side_d ?_ ?_; exact byD) | (with_reducible refine side_q ?_ ?_; exact byQ)
   refine cx_ret ?_
   simp only [go_sem]
   exact finx_of 1 [1] rfl byC byC byC byC
theorem DeleteFunc_Entry (f : Nat) (cs : List V) (hcs : ltrs 0 cs = true) (p : Entry → Bool) (l : List Entry) (hp : ∀ x ∈ l, Meets Tryd.prog f [.agg (Entry.enc x), .iptr cs 0] (.bool (p x)) []) (hl : l.length < 4611686018427387904) :
    Does Tryd.prog 75 [.own none 0 4 0 l.length .loose, .fn f [] [.ptr 1 0]] [.arr 4 l.length (En Entry.enc default l), .box cs]
      (.own none 0 4 0 (l.filter fun x => !p x).length .loose) [.arr 4 (l.filter fun x => !p x).length (En Entry.enc default (l.filter fun x => !p x)), .box cs] := by
  refine does_cx (fn := Tryd.f75) Tryd.func75 rfl fb75 (by kernel_rfl) (Nat.le_of_ble_eq_true rfl) ?_
  refine cx_sr ?_
  simp only [go_sem, hcs]
  repeat ((with_reducible first | refine side_d ?_ ?_ | refine side_q ?_ ?_); focus (first | (refine Sd.mk ?_; omega) | (refine Sq.mk ?_; omega) | exact Sd.mk trivial | exact Sq.mk trivial | (refine Sq.mk ?_; and_intros <;> first | omega | trivial | (simp; omega)) | (refine Sd.of fun hp => ?_; simp only [pc, and_true] at hp; (try subst_vars); simp only [decide_eq_true_eq, Bool.not_eq_true', decide_eq_false_iff_not, Bool.and_eq_true, Bool.or_eq_true, Bool.or_eq_false_iff] at hp; omega)))
  refine cx_sr ?_
  simp only [go_sem, hcs]
  refine cw_v 2 (IndexFunc_Entry f [.iptr cs 0] rfl p l hp hl) (by first | (simp only [go_sem, hcs]; exact wks_refl _) | (first | trivial | (simp only [go_sem, hcs, wk, wks, wkB, wkH, subw, subEw, hprew, ltb, subr, subEr]; done) | (simp only [go_sem, hcs, wk, wks, wkB, wkH, subw, subEw, hprew, ltb, subr, subEr]; and_intros <;> first | trivial | rfl | omega | assumption | exact Nat.le_refl _ | exact wks_refl _ | exact wk_refl _ | (intros; exact wks_refl _) | (simp; done) | (simp; omega)))) (by (first | trivial | (simp only [go_sem, hcs, wk, wks, wkB, wkH, subw, subEw, hprew, ltb, subr, subEr]; done) | (simp only [go_sem, hcs, wk, wks, wkB, wkH, subw, subEw, hprew, ltb, subr, subEr]; and_intros <;> first | trivial | rfl | omega | assumption | exact Nat.le_refl _ | exact wks_refl _ | exact wk_refl _ | (intros; exact wks_refl _) | (simp; done) | (simp; omega)))) rfl ?_
  simp only [go_sem, hcs]
  refine cx_seq ?_
  refine cx_sr ?_
  simp only [go_sem, hcs]
  intro t12 e12
  subst e12
  refine cx_if _ rfl (fun h12 => ?_) (fun h12 => ?_)
  ·
   (try simp only [go_sem, hcs] at h12)
   refine cx_sr ?_
   simp only [go_sem, hcs]
   refine cx_ret ?_
   simp only [go_sem, hcs]
   rw [idxF_all h12]
   refine ⟨[0, 1], rfl, rfl, ?_, ?_⟩ <;> (first | trivial | (simp only [go_sem, hcs, wk, wks, wkB, wkH, subw, subEw, hprew, ltb, subr, subEr]; done) | (simp only [go_sem, hcs, wk, wks, wkB, wkH, subw, subEw, hprew, ltb, subr, subEr]; and_intros <;> first | trivial | rfl | omega | assumption | exact Nat.le_refl _ | exact wks_refl _ | exact wk_refl _ | (intros; exact wks_refl _) | (simp; done) | (simp; omega)))
  ·
   (try simp only [go_sem, hcs] at h12)
   obtain ⟨iN, hiN, hiN1, hiN2, hiN3⟩ := idxF_spec default h12
   refine cx_skip ?_
   (try simp only [go_sem, hcs])
   refine cx_seq ?_
   refine cx_sr ?_
   simp only [go_sem, hcs]
   intro t15 e15
   (try replace e15 := w64 e15 (by omega) (by omega))
   refine cx_block ?_
   refine cx_loopk (σ := Nat × Nat × List Entry) (fun s => s.2.1 < s.1 ∧ s.1 ≤ l.length ∧ s.2.2.length = l.length ∧ s.2.2.take s.2.1 = (l.take s.1).filter (fun x => !p x) ∧ s.2.2.drop s.1 = l.drop s.1) (fun s => [⟨6, 0, [], .int .i64 (s.1 : Nat)⟩, ⟨5, 0, [], .int .i64 (s.2.1 : Nat)⟩]) [0, 1, 4] (fun s => [.arr 4 l.length (En Entry.enc default s.2.2), .box cs]) (fun s => l.length - s.1) (iN + 1, iN, l) ⟨by dsimp only; omega, by dsimp only; omega, rfl, hiN3.symm, rfl⟩ (fun _ => (Nat.le_of_ble_eq_true rfl)) (by (first | trivial | (simp only [go_sem, hcs, wk, wks, wkB, wkH, subw, subEw, hprew, ltb, subr, subEr]; done) | (simp only [go_sem, hcs, wk, wks, wkB, wkH, subw, subEw, hprew, ltb, subr, subEr]; and_intros <;> first | trivial | rfl | omega | assumption | exact Nat.le_refl _ | exact wks_refl _ | exact wk_refl _ | (intros; exact wks_refl _) | (simp; done) | (simp; omega)))) (fun s hI1 => ?_)
   simp only [go_sem, hcs]
   refine cx_seq ?_
   refine cx_sr ?_
   simp only [go_sem, hcs]
   repeat ((with_reducible first | refine side_d ?_ ?_ | refine side_q ?_ ?_); focus (first | (refine Sd.mk ?_; omega) | (refine Sq.mk ?_; omega) | exact Sd.mk trivial | exact Sq.mk trivial | (refine Sq.mk ?_; and_intros <;> first | omega | trivial | (simp; omega)) | (refine Sd.of fun hp => ?_; simp only [pc, and_true] at hp; (try subst_vars); simp only [decide_eq_true_eq, Bool.not_eq_true', decide_eq_false_iff_not, Bool.and_eq_true, Bool.or_eq_true, Bool.or_eq_false_iff] at hp; omega)))
   intro t19 e19
   subst e19
   refine cx_if _ rfl (fun h19 => ?_) (fun h19 => ?_)
   ·
    (try simp only [go_sem, hcs] at h19)
    have hmem : s.2.2.getD s.1 default ∈ l := by
      have h5 := congrArg (fun z => z.getD 0 default) hI1.2.2.2.2
      simp only [List.getD_eq_getElem?_getD, List.getElem?_drop, Nat.add_zero] at h5
      rw [List.getD_eq_getElem?_getD, h5, ← List.getD_eq_getElem?_getD]
      exact getD_mem (by omega)
    refine cx_skip ?_
    (try simp only [go_sem, hcs])
    refine cx_seq (cx_block ?_)
    refine cx_sr ?_
    simp only [go_sem, hcs]
    repeat ((with_reducible first | refine side_d ?_ ?_ | refine side_q ?_ ?_); focus (first | (refine Sd.mk ?_; omega) | (refine Sq.mk ?_; omega) | exact Sd.mk trivial | exact Sq.mk trivial | (refine Sq.mk ?_; and_intros <;> first | omega | trivial | (simp; omega)) | (refine Sd.of fun hp => ?_; simp only [pc, and_true] at hp; (try subst_vars); simp only [decide_eq_true_eq, Bool.not_eq_true', decide_eq_false_iff_not, Bool.and_eq_true, Bool.or_eq_true, Bool.or_eq_false_iff] at hp; omega)))
    refine cx_sr ?_
    simp only [go_sem, hcs]
    refine cw_v 2 (hp (s.2.2.getD s.1 default) hmem) (by first | (simp only [go_sem, hcs]; exact wks_refl _) | (first | trivial | (simp only [go_sem, hcs, wk, wks, wkB, wkH, subw, subEw, hprew, ltb, subr, subEr]; done) | (simp only [go_sem, hcs, wk, wks, wkB, wkH, subw, subEw, hprew, ltb, subr, subEr]; and_intros <;> first | trivial | rfl | omega | assumption | exact Nat.le_refl _ | exact wks_refl _ | exact wk_refl _ | (intros; exact wks_refl _) | (simp; done) | (simp; omega)))) (by (first | trivial | (simp only [go_sem, hcs, wk, wks, wkB, wkH, subw, subEw, hprew, ltb, subr, subEr]; done) | (simp only [go_sem, hcs, wk, wks, wkB, wkH, subw, subEw, hprew, ltb, subr, subEr]; and_intros <;> first | trivial | rfl | omega | assumption | exact Nat.le_refl _ | exact wks_refl _ | exact wk_refl _ | (intros; exact wks_refl _) | (simp; done) | (simp; omega)))) rfl ?_
    simp only [go_sem, hcs]
    intro t29 e29
    subst e29
    refine cx_if _ rfl (fun h29 => ?_) (fun h29 => ?_)
    ·
     (try simp only [go_sem, hcs] at h29)
     refine cx_sr ?_
     simp only [go_sem, hcs]
     repeat ((with_reducible first | refine side_d ?_ ?_ | refine side_q ?_ ?_); focus (first | (refine Sd.mk ?_; omega) | (refine Sq.mk ?_; omega) | exact Sd.mk trivial | exact Sq.mk trivial | (refine Sq.mk ?_; and_intros <;> first | omega | trivial | (simp; omega)) | (refine Sd.of fun hp => ?_; simp only [pc, and_true] at hp; (try subst_vars); simp only [decide_eq_true_eq, Bool.not_eq_true', decide_eq_false_iff_not, Bool.and_eq_true, Bool.or_eq_true, Bool.or_eq_false_iff] at hp; omega)))
     refine cx_region ?_
     simp only [go_sem, hcs]
     intro t35 e35
     (try replace e35 := w64 e35 (by omega) (by omega))
     refine cx_region ?_
     simp only [go_sem, hcs]
     intro t21 e21
     (try replace e21 := w64 e21 (by omega) (by omega))
     obtain ⟨i1, i2, i3, i4, i5⟩ := hI1
     obtain ⟨g1, g2⟩ := del_keep (d := default) i1 (by omega) i3 i4 i5 h29
     refine rnd_next (s.1 + 1, s.2.1 + 1, s.2.2.set s.2.1 (s.2.2.getD s.1 default)) ⟨by dsimp only; omega, by dsimp only; omega, by simpa using i3, g1, g2⟩ (by first | omega | (dsimp only; omega)) ?_
     simp only [go_sem, hcs, wk, wks, wkB, wkH, subw, subEw, hprew, ltb]
     exact ⟨⟨by omega, by omega⟩, fun i hi => wks_stF (by omega) (wks_refl _) i⟩
    ·
     (try simp only [go_sem, hcs] at h29)
     refine cx_skip ?_
     (try simp only [go_sem, hcs])
     refine cx_region ?_
     simp only [go_sem, hcs]
     intro t21 e21
     (try replace e21 := w64 e21 (by omega) (by omega))
     obtain ⟨i1, i2, i3, i4, i5⟩ := hI1
     obtain ⟨g1, g2⟩ := del_drop (d := default) (by omega) i4 i5 h29
     refine rnd_next (s.1 + 1, s.2.1, s.2.2) ⟨by dsimp only; omega, by dsimp only; omega, i3, g1, g2⟩ (by first | omega | (dsimp only; omega)) (by (first | trivial | (simp only [go_sem, hcs, wk, wks, wkB, wkH, subw, subEw, hprew, ltb, subr, subEr]; done) | (simp only [go_sem, hcs, wk, wks, wkB, wkH, subw, subEw, hprew, ltb, subr, subEr]; and_intros <;> first | trivial | rfl | omega | assumption | exact Nat.le_refl _ | exact wks_refl _ | exact wk_refl _ | (intros; exact wks_refl _) | (simp; done) | (simp; omega))))
   ·
    (try simp only [go_sem, hcs] at h19)
    refine cx_exit ?_
    simp only [go_sem, hcs]
    refine cx_sr ?_
    simp only [go_sem, hcs]
    repeat ((with_reducible first | refine side_d ?_ ?_ | refine side_q ?_ ?_); focus (first | (refine Sd.mk ?_; omega) | (refine Sq.mk ?_; omega) | exact Sd.mk trivial | exact Sq.mk trivial | (refine Sq.mk ?_; and_intros <;> first | omega | trivial | (simp; omega)) | (refine Sd.of fun hp => ?_; simp only [pc, and_true] at hp; (try subst_vars); simp only [decide_eq_true_eq, Bool.not_eq_true', decide_eq_false_iff_not, Bool.and_eq_true, Bool.or_eq_true, Bool.or_eq_false_iff] at hp; omega)))
    refine cx_sr ?_
    simp only [go_sem, hcs]
    repeat ((with_reducible first | refine side_d ?_ ?_ | refine side_q ?_ ?_); focus (first | (refine Sd.mk ?_; omega) | (refine Sq.mk ?_; omega) | exact Sd.mk trivial | exact Sq.mk trivial | (refine Sq.mk ?_; and_intros <;> first | omega | trivial | (simp; omega)) | (refine Sd.of fun hp => ?_; simp only [pc, and_true] at hp; (try subst_vars); simp only [decide_eq_true_eq, Bool.not_eq_true', decide_eq_false_iff_not, Bool.and_eq_true, Bool.or_eq_true, Bool.or_eq_false_iff] at hp; omega)))
    refine cx_ret ?_
    simp only [go_sem, hcs]
    obtain ⟨i1, i2, i3, i4, i5⟩ := hI1
    have hn : s.1 = l.length := by omega
    rw [hn, List.take_of_length_le (Nat.le_refl _)] at i4
    have hk : (l.filter fun x => !p x).length = s.2.1 := by rw [← i4]; simp; omega
    refine ⟨[0, 1], rfl, rfl, ?_, ?_⟩
    · (first | trivial | (simp only [go_sem, hcs, wk, wks, wkB, wkH, subw, subEw, hprew, ltb, subr, subEr]; done) | (simp only [go_sem, hcs, wk, wks, wkB, wkH, subw, subEw, hprew, ltb, subr, subEr]; and_intros <;> first | trivial | rfl | omega | assumption | exact Nat.le_refl _ | exact wks_refl _ | exact wk_refl _ | (intros; exact wks_refl _) | (simp; done) | (simp; omega)))
    · simp only [go_sem, hcs, wk, wks, wkB, wkH]
      exact ⟨by omega, fun i hi => wks_mp_over (fun _ => rfl) (by omega) (by rw [← i4, getD_take (by omega)])⟩
theorem BSearch_Entry (f : Nat) (tg : Str) (c : Entry → Int) (hcmp : ∀ x, Meets Tryd.prog f [.agg (Entry.enc x), .str tg] (.int .i64 (c x)) []) (l : List Entry) (hl : l.length < 4611686018427387904)
    (k : Nat) (hk : k ≤ l.length) (h1 : ∀ j, j < k → c (l.getD j default) < 0) (h2 : ∀ j, k ≤ j → j < l.length → 0 ≤ c (l.getD j default)) :
    Meets Tryd.prog 51 [lstV 4 Entry.enc default l, .str tg, .fn f [] []] (.tup [.int .i64 (k : Nat), .bool (decide (k < l.length) && decide (c (l.getD k default) = 0))]) [] := by
  refine meets_x (fn := Tryd.f51) Tryd.func51 rfl fb51 (by kernel_rfl) (Nat.le_of_ble_eq_true rfl) ?_
  refine cx_sr ?_
  simp only [go_sem]
  repeat first | (with_reducible refine side_d ?_ ?_; exact byD) | (with_reducible refine side_q ?_ ?_; exact byQ)
  refine cx_sr ?_
  simp only [go_sem]
  refine cx_sr ?_
  simp only [go_sem]
  refine cx_seq (cx_block ?_)
  refine cx_loop0 (σ := Nat × Nat) (fun s => s.1 ≤ k ∧ k ≤ s.2 ∧ s.2 ≤ l.length) (fun s => [⟨9, 0, [], .int .i64 (s.1 : Nat)⟩, ⟨10, 0, [], .int .i64 (s.2 : Nat)⟩]) [0, 1, 2, 6, 7, 8] (fun s => s.2 - s.1) (0, l.length) ⟨Nat.zero_le _, hk, Nat.le_refl _⟩ (Nat.zero_le _) byC (fun s hI1 => ?_)
  simp only [go_sem]
  refine cx_seq ?_
  refine cx_sr ?_
  simp only [go_sem]
  repeat first | (with_reducible refine side_d ?_ ?_; exact byD) | (with_reducible refine side_q ?_ ?_; exact byQ)
  intro t17 e17
  subst e17
  refine cx_if _ rfl (fun h17 => ?_) (fun h17 => ?_)
  ·
   (try simp only [go_sem] at h17)
   refine cx_skip ?_
   (try simp only [go_sem])
   refine cx_block ?_
   refine cx_sr ?_
   simp only [go_sem]
   intro t20 e20
   (try replace e20 := w64 e20 (by omega) (by omega))
   repeat first | (with_reducible refine side_d ?_ ?_; exact byD) | (with_reducible refine side_q ?_ ?_; exact byQ)
   intro t21 e21
   repeat first | (with_reducible refine side_d ?_ ?_; exact byD) | (with_reducible refine side_q ?_ ?_; exact byQ)
   intro t22 e22
   repeat first | (with_reducible refine side_d ?_ ?_; exact byD) | (with_reducible refine side_q ?_ ?_; exact byQ)
   intro t23 e23
   have hm : t23 = (((s.1 + s.2) / 2 : Nat) : Int) := mid_eq (by omega) (by omega) e21 e22 e23
   clear e23
   subst hm
   have hlt : (s.1 + s.2) / 2 < s.2 := by omega
   have hge : s.1 ≤ (s.1 + s.2) / 2 := by omega
   refine cx_sr ?_
   simp only [go_sem]
   repeat first | (with_reducible refine side_d ?_ ?_; exact byD) | (with_reducible refine side_q ?_ ?_; exact byQ)
   refine cw_m (hcmp (l.getD ((s.1 + s.2) / 2) default)) byW byT ?_
   simp only [go_sem]
   intro t31 e31
   subst e31
   refine cx_if _ rfl (fun h31 => ?_) (fun h31 => ?_)
   ·
    (try simp only [go_sem] at h31)
    refine cx_region ?_
    simp only [go_sem]
    intro t33 e33
    (try replace e33 := w64 e33 (by omega) (by omega))
    have : (s.1 + s.2) / 2 < k := by
      rcases Nat.lt_or_ge ((s.1 + s.2) / 2) k with h | h
      · exact h
      · have := h2 _ h (by omega); omega
    refine rnd_next ((s.1 + s.2) / 2 + 1, s.2) ⟨by dsimp only; omega, hI1.2.1, hI1.2.2⟩ (by first | omega | (dsimp only; omega)) byC
   ·
    (try simp only [go_sem] at h31)
    refine cx_region ?_
    simp only [go_sem]
    have : k ≤ (s.1 + s.2) / 2 := by
      rcases Nat.lt_or_ge ((s.1 + s.2) / 2) k with h | h
      · have := h1 _ h; omega
      · exact h
    refine rnd_next (s.1, (s.1 + s.2) / 2) ⟨hI1.1, this, by dsimp only; omega⟩ (by first | omega | (dsimp only; omega)) byC
  ·
   (try simp only [go_sem] at h17)
   have hks : s.1 = k := by omega
   refine cx_exit ?_
   simp only [go_sem]
   refine cx_sr ?_
   simp only [go_sem]
   intro t38 e38
   repeat first | (with_reducible refine side_d ?_ ?_; exact byD) | (with_reducible refine side_q ?_ ?_; exact byQ)
   refine ⟨_, fun hp => cw_m (hcmp (l.getD s.1 default)) byW byT ⟨rfl, rfl⟩, ?_⟩
   simp only [go_sem]
   intro t47 e47
   intro t48 e48
   rw [bsel_and] at e48
   subst e38 e47 e48
   refine cx_ret ?_
   simp only [go_sem]
   rw [← hks]
   refine finw_flat rfl ?_
   exact byC
theorem Insert_Entry (l : List Entry) (i : Nat) (x : Entry) (hi : i ≤ l.length) (hl : (l.length + 1) * 48 ≤ 140737488355328) :
    Does Tryd.prog 74 [.own none 0 4 0 l.length .loose, .int .i64 (i : Nat), .own (some false) 1 4 0 1 (.exact 1)] [.arr 4 l.length (En Entry.enc default l), .arr 4 1 (fun _ => Entry.enc x)]
      (.own none 2 4 0 (l.length + 1) .loose) [.dead, .dead, .arr 4 (l.length + 1) (En Entry.enc default (l.take i ++ x :: l.drop i))] := by
  refine does_cx (fn := Tryd.f74) Tryd.func74 rfl fb74 (by kernel_rfl) (Nat.le_of_ble_eq_true rfl) ?_
  refine cx_exact 0 rfl fun C hC => ?_
  refine cx_sr ?_
  simp only [go_sem]
  repeat first | (with_reducible refine side_d ?_ ?_; exact byD) | (with_reducible refine side_q ?_ ?_; exact byQ)
  refine cx_sr ?_
  simp only [go_sem]
  repeat first | (with_reducible refine side_d ?_ ?_; exact byD) | (with_reducible refine side_q ?_ ?_; exact byQ)
  refine cx_sr ?_
  simp only [go_sem]
  refine cx_seq ?_
  refine cx_sr ?_
  simp only [go_sem]
  intro t16 e16
  subst e16
  refine cx_if _ rfl (fun h16 => ?_) (fun h16 => ?_)
  · simp at h16
  ·
   (try simp only [go_sem] at h16)
   refine cx_skip ?_
   (try simp only [go_sem])
   refine cx_sr ?_
   simp only [go_sem]
   refine cx_seq ?_
   refine cx_sr ?_
   simp only [go_sem]
   intro t22 e22
   subst e22
   refine cx_if _ rfl (fun h22 => ?_) (fun h22 => ?_)
   ·
    (try simp only [go_sem] at h22)
    have hil : i = l.length := by omega
    subst hil
    refine cx_sr ?_
    simp only [go_sem]
    repeat first | (with_reducible refine side_d ?_ ?_; exact byD) | (with_reducible refine side_q ?_ ?_; exact byQ)
    refine ⟨fun hC25 => ?_, fun hC25 => ?_⟩
    ·
     repeat first | (with_reducible refine side_d ?_ ?_; exact byD) | (with_reducible refine side_q ?_ ?_; exact byQ)
     refine cx_move 0 rfl ?_
     simp only [go_sem]
     refine cx_ret ?_
     simp only [go_sem]
     refine ⟨[0, 1, 2], rfl, rfl, ?_, ?_⟩
     · exact byC
     · simp only [go_sem, wk, wks, wkB, wkH]
       exact ⟨by omega, fun q hq => wks_mp_of (fun _ => rfl) (ins_end (fun _ => rfl) rfl hq)⟩
    ·
     repeat first | (with_reducible refine side_d ?_ ?_; exact byD) | (with_reducible refine side_q ?_ ?_; exact byQ)
     refine cx_move 0 rfl ?_
     simp only [go_sem]
     refine cx_ret ?_
     simp only [go_sem]
     refine ⟨[0, 1, 2], rfl, rfl, ?_, ?_⟩
     · exact byC
     · simp only [go_sem, wk, wks, wkB, wkH]
       exact fun q hq => wks_mp_of (fun _ => rfl) (ins_end' (fun _ => rfl) rfl hq)
   ·
    (try simp only [go_sem] at h22)
    refine cx_skip ?_
    (try simp only [go_sem])
    refine cx_seq ?_
    refine cx_sr ?_
    simp only [go_sem]
    intro t28 e28
    (try replace e28 := w64 e28 (by omega) (by omega))
    repeat first | (with_reducible refine side_d ?_ ?_; exact byD) | (with_reducible refine side_q ?_ ?_; exact byQ)
    intro t31 e31
    subst e31
    refine cx_if _ rfl (fun h31 => ?_) (fun h31 => ?_)
    ·
     (try simp only [go_sem] at h31)
     refine cx_sr ?_
     simp only [go_sem]
     repeat first | (with_reducible refine side_d ?_ ?_; exact byD) | (with_reducible refine side_q ?_ ?_; exact byQ)
     intro t37 e37
     (try replace e37 := w64 e37 (by omega) (by omega))
     intro t39 e39
     (try replace e39 := w64 e39 (by omega) (by omega))
     repeat first | (with_reducible refine side_d ?_ ?_; exact byD) | (with_reducible refine side_q ?_ ?_; exact byQ)
     refine cx_sr ?_
     simp only [go_sem]
     repeat first | (with_reducible refine side_d ?_ ?_; exact byD) | (with_reducible refine side_q ?_ ?_; exact byQ)
     refine cx_seq (cx_draw mixed [8] (.first 0 (.first 1 (.first 2 (.first 3 (.first 4 (.first 5 (.first 6 (.first 7 (.one 8 (.done)))))))))) (by kernel_rfl) ?_)
     simp only [go_sem]
     intro t49 e49
     (try replace e49 := w64 e49 (by omega) (by omega))
     repeat first | (with_reducible refine side_d ?_ ?_; exact byD) | (with_reducible refine side_q ?_ ?_; exact byQ)
     refine cx_sr ?_
     simp only [go_sem]
     refine cx_ret ?_
     simp only [go_sem]
     have h39 : t39.toNat = l.length + 1 - i := by omega
     have h49 : t49.toNat = i + 1 := by omega
     refine ⟨[0, 1, 2], rfl, rfl, ?_, ?_⟩
     · exact byC
     · simp only [go_sem, wk, wks, wkB, wkH, h39, h49]
       refine ⟨by omega, fun q hq => wks_mp_of (fun _ => rfl) ?_⟩
       exact ins_grow (fun _ => rfl) (by omega) hq (by omega) (by omega)
    ·
     (try simp only [go_sem] at h31)
     refine cx_skip ?_
     (try simp only [go_sem])
     refine cx_sr ?_
     simp only [go_sem]
     intro t59 e59
     (try replace e59 := w64 e59 (by omega) (by omega))
     repeat first | (with_reducible refine side_d ?_ ?_; exact byD) | (with_reducible refine side_q ?_ ?_; exact byQ)
     refine cx_seq ?_
     refine cx_sr ?_
     simp only [go_sem]
     intro t65 e65
     (try replace e65 := w64 e65 (by omega) (by omega))
     repeat first | (with_reducible refine side_d ?_ ?_; exact byD) | (with_reducible refine side_q ?_ ?_; exact byQ)
     refine cw_ovl (tS := 22) (tR := 4) Tryd.func86 (by kernel_rfl) (by kernel_rfl) (by kernel_rfl) (by kernel_rfl) te22 rfl rfl (by decide) (by omega) ?_
     simp only [go_sem]
     intro t68 e68
     subst e68
     refine cx_if _ rfl (fun h68 => ?_) (fun h68 => no_if h68)
     refine cx_seq (cx_draw mixed [8] (.first 0 (.first 1 (.first 2 (.first 3 (.first 4 (.first 5 (.first 6 (.first 7 (.one 8 (.done)))))))))) (by kernel_rfl) ?_)
     simp only [go_sem]
     intro t72 e72
     (try replace e72 := w64 e72 (by omega) (by omega))
     repeat first | (with_reducible refine side_d ?_ ?_; exact byD) | (with_reducible refine side_q ?_ ?_; exact byQ)
     refine cx_sr ?_
     simp only [go_sem]
     repeat first | (with_reducible refine side_d ?_ ?_; exact byD) | (with_reducible refine side_q ?_ ?_; exact byQ)
     refine cx_sr ?_
     simp only [go_sem]
     refine cx_move 0 rfl ?_
     simp only [go_sem]
     refine cx_ret ?_
     simp only [go_sem]
     have h59 : t59.toNat = l.length + 1 := by omega
     have h72 : t72.toNat = i + 1 := by omega
     refine ⟨[0, 1, 2], rfl, rfl, ?_, ?_⟩
     · exact byC
     · simp only [go_sem, wk, wks, wkB, wkH, h59, h72]
       refine ⟨by omega, fun q hq => wks_mp_of (fun _ => rfl) ?_⟩
       exact ins_in (fun _ => rfl) (by omega) hq (by omega) (by omega)
theorem isVersion_c (n : Int) : Meets Tryd.prog 25 [.int .i64 n] (.bool (decide (1 ≤ n) && decide (n ≤ 1000000))) [] := by
  refine meets_x (fn := Tryd.f25) Tryd.func25 rfl fb25 (by kernel_rfl) (Nat.le_of_ble_eq_true rfl) ?_
  refine cx_sr ?_
  simp only [go_sem]
  repeat first | (with_reducible refine side_d ?_ ?_; exact byD) | (with_reducible refine side_q ?_ ?_; exact byQ)
  refine cx_sr ?_
  simp only [go_sem]
  intro t4 e4
  intro t7 e7
  intro t8 e8
  rw [bsel_and] at e8
  subst e4 e7 e8
  refine cx_ret ?_
  simp only [go_sem]
  exact finw_bool rfl
theorem AtCmp_c (x : Entry) (p : Str) : Meets Tryd.prog 52 [.agg x.enc, .str p] (.int .i64 (cmpS x.path p)) [] := by
  refine meets_x (fn := Tryd.f52) Tryd.func52 rfl fb52 (by kernel_rfl) (Nat.le_of_ble_eq_true rfl) ?_
  refine cx_sr ?_
  simp only [go_sem]
  repeat first | (with_reducible refine side_d ?_ ?_; exact byD) | (with_reducible refine side_q ?_ ?_; exact byQ)
  refine cx_sr ?_
  simp only [go_sem]
  refine cw_m (Compare_c x.path p) byW byT ?_
  simp only [go_sem]
  refine cx_ret ?_
  simp only [go_sem]
  exact finw_int rfl
/-- entries, as they are handed over -/
abbrev esV (l : List Entry) : V := lstV 4 Entry.enc default l
theorem At_c (l : List Entry) (p : Str) (hs : SortedE l) (hl : l.length < 4611686018427387904) : Meets Tryd.prog 38 [esV l, .str p] (.tup [.int .i64 (eIx l p : Nat), .bool (hasE l p)]) [] := by
  have hB := BSearch_Entry 52 p (fun x => cmpS x.path p) (fun x => AtCmp_c x p) l hl (eIx l p) (eIx_le l p) (fun j hj => cmp_lt hj) (fun j h1 h2 => cmp_ge hs h1 h2)
  have hh : hasE l p = (decide (eIx l p < l.length) && decide (cmpS (l.getD (eIx l p) default).path p = 0)) := by
    rw [hasE]
    congr 1
    exact decide_eq_decide.2 cmpS_eq.symm
  rw [hh]
  refine meets_x (fn := Tryd.f38) Tryd.func38 rfl fb38 (by kernel_rfl) (Nat.le_of_ble_eq_true rfl) ?_
  refine cx_sr ?_
  simp only [go_sem]
  repeat first | (with_reducible refine side_d ?_ ?_; exact byD) | (with_reducible refine side_q ?_ ?_; exact byQ)
  refine cx_sr ?_
  simp only [go_sem]
  refine cw_m (hB) byW byT ?_
  simp only [go_sem]
  refine cx_ret ?_
  simp only [go_sem]
  exact finw_flat rfl (wk_refl _)
/-- what is wrong with an entry by itself -/
def entErr (x : Entry) : Int :=
  if checkP [x.path] ≠ 0 then checkP [x.path] else if x.folder = true ∧ x.text ≠ [] then 1 else if 300 < (x.text.length : Int) then 2 else if x.version < 1 ∨ 1000000 < x.version then 3 else 0
theorem checkEntry_c (x : Entry) (hx : x.path.length < 4611686018427387904) : Meets Tryd.prog 55 [.agg x.enc] (.int .i64 (entErr x)) [] := by
  refine meets_x (fn := Tryd.f55) Tryd.func55 rfl fb55 (by kernel_rfl) (Nat.le_of_ble_eq_true rfl) ?_
  refine cx_sr ?_
  simp only [go_sem]
  repeat first | (with_reducible refine side_d ?_ ?_; exact byD) | (with_reducible refine side_q ?_ ?_; exact byQ)
  refine cx_seq ?_
  refine cx_sr ?_
  simp only [go_sem]
  refine cw_m (Check_c x.path hx) byW byT ?_
  simp only [go_sem]
  refine cx_sr ?_
  simp only [go_sem]
  intro t8 e8
  subst e8
  refine cx_if _ rfl (fun h8 => ?_) (fun h8 => ?_)
  ·
   (try simp only [go_sem] at h8)
   refine cx_sr ?_
   simp only [go_sem]
   refine cx_ret ?_
   simp only [go_sem]
   refine finw_int ?_
   unfold entErr
   grind
  ·
   (try simp only [go_sem] at h8)
   refine cx_skip ?_
   (try simp only [go_sem])
   refine cx_seq (cx_block ?_)
   refine cx_sr ?_
   simp only [go_sem]
   intro t16 e16
   intro t17 e17
   rw [bsel_and] at e17
   subst e16 e17
   refine cx_if _ rfl (fun h10 => ?_) (fun h10 => ?_)
   ·
    (try simp only [go_sem] at h10)
    refine cx_sr ?_
    simp only [go_sem]
    refine cx_ret ?_
    simp only [go_sem]
    refine finw_int ?_
    unfold entErr
    grind
   ·
    (try simp only [go_sem] at h10)
    refine cx_sr ?_
    simp only [go_sem]
    intro t22 e22
    subst e22
    refine cx_if _ rfl (fun h18 => ?_) (fun h18 => ?_)
    ·
     (try simp only [go_sem] at h18)
     refine cx_sr ?_
     simp only [go_sem]
     refine cx_ret ?_
     simp only [go_sem]
     refine finw_int ?_
     unfold entErr
     grind
    ·
     (try simp only [go_sem] at h18)
     refine cx_sr ?_
     simp only [go_sem]
     refine cw_m (isVersion_c x.version) byW byT ?_
     simp only [go_sem]
     intro t27 e27
     subst e27
     refine cx_if _ rfl (fun h23 => ?_) (fun h23 => ?_)
     ·
      (try simp only [go_sem] at h23)
      refine cx_sr ?_
      simp only [go_sem]
      refine cx_ret ?_
      simp only [go_sem]
      refine finw_int ?_
      unfold entErr
      grind
     ·
      (try simp only [go_sem] at h23)
      refine cx_skip ?_
      (try simp only [go_sem])
      refine cx_sr ?_
      simp only [go_sem]
      refine cx_ret ?_
      simp only [go_sem]
      refine finw_int ?_
      unfold entErr
      grind
end Go.VM.Tryd
end
section
set_option maxHeartbeats 4000000
set_option linter.unusedVariables false
set_option linter.unusedSimpArgs false
open Go Go.VM Go.Proofs Tether
namespace Go.VM.Tryd
set_option maxRecDepth 100000
end Go.VM.Tryd
end
section
set_option maxHeartbeats 4000000
set_option linter.unusedVariables false
set_option linter.unusedSimpArgs false
open Go Go.VM Go.Proofs Tether
namespace Go.VM.Tryd
set_option maxRecDepth 100000
end Go.VM.Tryd
end
section
set_option maxHeartbeats 4000000
set_option linter.unusedVariables false
set_option linter.unusedSimpArgs false
open Go Go.VM Go.Proofs Tether
namespace Go.VM.Tryd
theorem pathN_cons (x : Str) (l : List Str) : ∀ k, pathN (x :: l) (k + 1) = if k = 0 then x else x ++ 47 :: pathN l k
  | 0 => by simp [pathN]
  | k + 1 => by
    have ih := pathN_cons x l k
    rw [pathN, ih]
    by_cases hk : k = 0
    · subst hk; simp [pathN]
    · simp [hk, pathN]
theorem pathN_push (b : UInt8) (x : Str) (l : List Str) (k : Nat) : pathN ((b :: x) :: l) (k + 1) = b :: pathN (x :: l) (k + 1) := by
  rw [pathN_cons, pathN_cons]
  split <;> simp
theorem pathN_pcs : ∀ s : Str, pathN (pcs s) (pcs s).length = s
  | [] => by simp [pcs, pathN]
  | b :: r => by
    have ih := pathN_pcs r
    have hne := pcs_ne r
    by_cases hb : b = 47
    · simp only [pcs, hb, if_true, List.length_cons]
      rw [pathN_cons, if_neg (by simpa using hne), ih]
      simp
    · simp only [pcs, hb, if_false]
      rcases hp : pcs r with _ | ⟨x, xs⟩
      · exact absurd hp hne
      · rw [hp] at ih
        simp only [List.length_cons] at ih ⊢
        rw [pathN_push, ih]
theorem at8_cons (b : UInt8) (r : Str) (n : Nat) : at8 (b :: r) (n + 1) = at8 r n := by simp [at8]
theorem lixN_cons (b : UInt8) (r : Str) (c : Int) : ∀ n, lixN (b :: r) c (n + 1) = if 0 ≤ lixN r c n then lixN r c n + 1 else if (b.toNat : Int) = c then 0 else -1
  | 0 => by simp [lixN, at8]
  | n + 1 => by
    have ih := lixN_cons b r c n
    rw [lixN, at8_cons, ih]
    by_cases h : at8 r n = c
    · simp only [lixN, h, if_true]
      have : (0 : Int) ≤ n := by omega
      simp [this]
    · simp only [lixN, h, if_false]
theorem b47 (b : UInt8) : ((b.toNat : Int) = 47) ↔ b = 47 := by
  constructor
  · intro h
    apply UInt8.toNat_inj.1
    have : (47 : UInt8).toNat = 47 := rfl
    rw [this]; omega
  · intro h; rw [h]; rfl
theorem lix_pcs : ∀ s : Str, lix s 47 = -1 ↔ (pcs s).length = 1
  | [] => ⟨fun _ => rfl, fun _ => rfl⟩
  | b :: r => by
    have ih := lix_pcs r
    have hne := pcs_ne r
    have hb2 := b47 b
    have hle := lixN_le r 47 r.length
    show lixN (b :: r) 47 (r.length + 1) = -1 ↔ _
    rw [lixN_cons]
    by_cases hb : b = 47
    · simp only [pcs, hb, if_true, List.length_cons]
      have h0 : 0 < (pcs r).length := List.length_pos_iff.2 hne
      constructor
      · intro h
        have e : ((47 : UInt8).toNat : Int) = 47 := rfl
        rw [if_pos e] at h
        split at h <;> omega
      · intro h; omega
    · have hn : ¬ ((b.toNat : Int) = 47) := fun h => hb (hb2.1 h)
      have hlen : (pcs (b :: r)).length = (pcs r).length := by
        simp only [pcs, hb, if_false]
        rcases hp : pcs r with _ | ⟨x, xs⟩
        · exact absurd hp hne
        · rfl
      rw [if_neg hn, hlen, ← ih]
      show _ ↔ lixN r 47 r.length = -1
      split <;> omega
theorem head_pcs : ∀ s : Str, pathN (pcs s) ((pcs s).length - 1) = headOf s
  | [] => by simp [pcs, pathN, headOf]
  | b :: r => by
    have ih := head_pcs r
    have hne := pcs_ne r
    have h0 : 0 < (pcs r).length := List.length_pos_iff.2 hne
    have hlp := lix_pcs r
    have hle := lixN_le r 47 r.length
    have hlc : lix (b :: r) 47 = if 0 ≤ lix r 47 then lix r 47 + 1 else if (b.toNat : Int) = 47 then 0 else -1 := lixN_cons b r 47 r.length
    unfold headOf at ih ⊢
    rw [hlc]
    by_cases h1 : 0 ≤ lix r 47
    · have hn1 : (pcs r).length ≠ 1 := fun h => by have := hlp.2 h; omega
      obtain ⟨m, hm⟩ : ∃ m, (pcs r).length = m + 2 := ⟨(pcs r).length - 2, by omega⟩
      have ht : (lix r 47 + 1).toNat = (lix r 47).toNat + 1 := by omega
      rw [if_pos h1, ht, List.take_succ_cons, ← ih]
      by_cases hb : b = 47
      · simp only [pcs, hb, if_true, List.length_cons, hm]
        show pathN ([] :: pcs r) (m + 2) = _
        rw [pathN_cons]
        simp
      · simp only [pcs, hb, if_false]
        rcases hp : pcs r with _ | ⟨x, xs⟩
        · exact absurd hp hne
        · rw [hp] at hm
          simp only [List.length_cons] at hm ⊢
          rw [show xs.length + 1 - 1 = m + 1 by omega, pathN_push]
    · have e1 : lix r 47 = -1 := by have : -1 ≤ lix r 47 := hle.1; omega
      have hn1 := hlp.1 e1
      rw [if_neg h1]
      by_cases hb : b = 47
      · simp only [pcs, hb, if_true, List.length_cons, hn1]
        simp [pathN]
      · have hlen : (pcs (b :: r)).length = (pcs r).length := by
          simp only [pcs, hb, if_false]
          rcases hp : pcs r with _ | ⟨x, xs⟩
          · exact absurd hp hne
          · rfl
        rw [hlen, hn1, if_neg (fun h => hb ((b47 b).1 h))]
        simp [pathN]
end Go.VM.Tryd
end
section
set_option maxHeartbeats 4000000
set_option linter.unusedVariables false
set_option linter.unusedSimpArgs false
open Go Go.VM Go.Proofs Tether
namespace Go.VM.Tryd
theorem tail_pcs : ∀ s : Str, (pcs s).getD ((pcs s).length - 1) [] = tailOf s
  | [] => by simp [pcs, tailOf]
  | b :: r => by
    have ih := tail_pcs r
    have hne := pcs_ne r
    have h0 : 0 < (pcs r).length := List.length_pos_iff.2 hne
    have hlp := lix_pcs r
    have hle := lixN_le r 47 r.length
    have hlc : lix (b :: r) 47 = if 0 ≤ lix r 47 then lix r 47 + 1 else if (b.toNat : Int) = 47 then 0 else -1 := lixN_cons b r 47 r.length
    unfold tailOf at ih ⊢
    rw [hlc]
    by_cases h1 : 0 ≤ lix r 47
    · have hn1 : (pcs r).length ≠ 1 := fun h => by have := hlp.2 h; omega
      obtain ⟨m, hm⟩ : ∃ m, (pcs r).length = m + 2 := ⟨(pcs r).length - 2, by omega⟩
      have ht : (lix r 47 + 1 + 1).toNat = (lix r 47 + 1).toNat + 1 := by omega
      rw [if_pos h1, ht, List.drop_succ_cons, ← ih]
      by_cases hb : b = 47
      · simp only [pcs, hb, if_true, List.length_cons, hm]
        simp [List.getD_eq_getElem?_getD]
      · simp only [pcs, hb, if_false]
        rcases hp : pcs r with _ | ⟨x, xs⟩
        · exact absurd hp hne
        · rw [hp] at hm
          simp only [List.length_cons] at hm ⊢
          rw [show xs.length + 1 - 1 = m + 1 by omega]
          simp [List.getD_eq_getElem?_getD]
    · have e1 : lix r 47 = -1 := by have : -1 ≤ lix r 47 := hle.1; omega
      have hn1 := hlp.1 e1
      have hr : pcs r = [r] := by
        rw [hn1, e1] at ih
        obtain ⟨x, hx⟩ := List.length_eq_one_iff.1 hn1
        rw [hx] at ih ⊢
        simp at ih
        rw [ih]
      rw [if_neg h1]
      by_cases hb : b = 47
      · subst hb
        simp only [pcs, if_true, hr]
        have e : ((47 : UInt8).toNat : Int) = 47 := rfl
        rw [if_pos e]
        rfl
      · simp only [pcs, hb, if_false, hr]
        rw [if_neg (fun h => hb ((b47 b).1 h))]
        rfl
end Go.VM.Tryd
end
section
set_option maxHeartbeats 4000000
set_option linter.unusedVariables false
set_option linter.unusedSimpArgs false
open Go Go.VM Go.Proofs Tether
namespace Go.VM.Tryd
/-- one list begins the other -/
def begins : List Str → List Str → Bool
  | _, [] => true
  | [], _ :: _ => false
  | x :: a, y :: b => decide (x = y) && begins a b
theorem inP_begins : ∀ (a b : List Str), inP a b = begins a b
  | a, [] => by simp [inP, begins]
  | [], y :: b => by simp [inP, begins]
  | x :: a, y :: b => by
    have ih := inP_begins a b
    rw [begins, ← ih]
    simp only [inP, List.length_cons, List.range_succ_eq_map, List.all_cons, List.all_map]
    have e : ((fun i => decide ((x :: a).getD i [] = (y :: b).getD i [])) ∘ Nat.succ) = fun i => decide (a.getD i [] = b.getD i []) := by
      funext i; simp
    rw [e]
    have h : decide (b.length + 1 ≤ a.length + 1) = decide (b.length ≤ a.length) := by simp
    rw [h]
    simp only [List.getD_cons_zero]
    cases decide (b.length ≤ a.length) <;> cases decide (x = y) <;> simp
end Go.VM.Tryd
end
section
set_option maxHeartbeats 4000000
set_option linter.unusedVariables false
set_option linter.unusedSimpArgs false
open Go Go.VM Go.Proofs Tether
namespace Go.VM.Tryd
theorem pcs_slash (r : Str) : pcs (47 :: r) = [] :: pcs r := by simp [pcs]
theorem pcs_other {b : UInt8} (hb : b ≠ 47) {r x : Str} {xs : List Str} (h : pcs r = x :: xs) : pcs (b :: r) = (b :: x) :: xs := by simp [pcs, hb, h]
theorem pcs_some (r : Str) : ∃ x xs, pcs r = x :: xs := by
  rcases h : pcs r with _ | ⟨x, xs⟩
  · exact absurd h (pcs_ne r)
  · exact ⟨x, xs, rfl⟩
theorem begins_iff : ∀ (b a : Str), begins (pcs a) (pcs b) = true ↔ a = b ∨ ∃ t, a = b ++ 47 :: t
  | [], [] => by simp [pcs, begins]
  | [], c :: a => by
    by_cases hc : c = 47
    · subst hc
      rw [pcs_slash]
      simp [pcs, begins]
    · obtain ⟨x, xs, hx⟩ := pcs_some a
      rw [pcs_other hc hx]
      simp [pcs, begins, hc]
  | d :: b, [] => by
    obtain ⟨y, ys, hy⟩ := pcs_some b
    by_cases hd : d = 47
    · subst hd
      rw [pcs_slash, hy]
      simp [pcs, begins]
    · rw [pcs_other hd hy]
      simp [pcs, begins]
  | d :: b, c :: a => by
    have ih := begins_iff b a
    obtain ⟨y, ys, hy⟩ := pcs_some b
    obtain ⟨x, xs, hx⟩ := pcs_some a
    by_cases hd : d = 47
    · subst hd
      by_cases hc : c = 47
      · subst hc
        rw [pcs_slash, pcs_slash, begins]
        simp [ih]
      · rw [pcs_slash, pcs_other hc hx, begins]
        simp [hc]
    · by_cases hc : c = 47
      · subst hc
        rw [pcs_slash, pcs_other hd hy, begins]
        have : ¬ (47 : UInt8) = d := fun e => hd e.symm
        simp [this]
      · rw [pcs_other hd hy, pcs_other hc hx, begins]
        rw [hx, hy, begins] at ih
        by_cases hcd : c = d
        · subst hcd
          simpa using ih
        · simp [hcd]
theorem isIn_pcs (a b : Str) : isIn a b = inP (pcs a) (pcs b) := by
  rw [inP_begins, Bool.eq_iff_iff, begins_iff]
  simp only [isIn, hasPre, Bool.or_eq_true, decide_eq_true_eq, Bool.and_eq_true]
  constructor
  · rintro (h | ⟨h1, h2⟩)
    · exact .inl h
    · refine .inr ⟨a.drop (b ++ [47]).length, ?_⟩
      conv => lhs; rw [← List.take_append_drop (b ++ [47]).length a, h2]
      simp
  · rintro (h | ⟨t, rfl⟩)
    · exact .inl h
    · refine .inr ⟨by simp, ?_⟩
      rw [show b ++ 47 :: t = (b ++ [47]) ++ t by simp, List.take_left]
end Go.VM.Tryd
end
section
set_option maxHeartbeats 4000000
set_option linter.unusedVariables false
set_option linter.unusedSimpArgs false
open Go Go.VM Go.Proofs Tether
namespace Go.VM.Tryd
theorem pcs_app : ∀ (a b : Str), pcs (a ++ 47 :: b) = pcs a ++ pcs b
  | [], b => by simp [pcs]
  | c :: a, b => by
    have ih := pcs_app a b
    obtain ⟨x, xs, hx⟩ := pcs_some a
    by_cases hc : c = 47
    · subst hc
      rw [List.cons_append, pcs_slash, pcs_slash, ih]
      rfl
    · rw [hx] at ih
      rw [List.cons_append, pcs_other hc hx, pcs_other hc (x := x) (xs := xs ++ pcs b) (by rw [ih]; rfl)]
      rfl
theorem isIn_iff (a b : Str) : isIn a b = true ↔ a = b ∨ ∃ t, a = b ++ 47 :: t := by
  rw [isIn_pcs, inP_begins, begins_iff]
theorem moved_pcs {p f : Str} (t : Str) (h : isIn p f = true) : pcs t ++ (pcs p).drop (pcs f).length = pcs (t ++ p.drop f.length) := by
  rcases (isIn_iff p f).1 h with rfl | ⟨u, rfl⟩
  · simp
  · rw [pcs_app, List.drop_left, List.drop_left, pcs_app]
theorem moved_in {p f : Str} (t : Str) (h : isIn p f = true) : isIn (t ++ p.drop f.length) t = true := by
  rw [isIn_iff]
  rcases (isIn_iff p f).1 h with rfl | ⟨u, rfl⟩
  · left; simp
  · right; exact ⟨u, by rw [List.drop_left]⟩
theorem pathN_app (a b : List Str) : ∀ k, k ≤ a.length → pathN (a ++ b) k = pathN a k
  | 0, _ => rfl
  | k + 1, h => by
    simp only [pathN]
    rw [pathN_app a b k (by omega)]
    simp [List.getD_eq_getElem?_getD, List.getElem?_append_left (show k < a.length by omega)]
theorem headOf_join {h x : Str} (hx : 47 ∉ x) : headOf (h ++ 47 :: x) = h := by
  rw [← head_pcs, pcs_app, pcs_no x hx]
  simp only [List.length_append, List.length_cons, List.length_nil, Nat.zero_add, Nat.add_sub_cancel]
  rw [pathN_app _ _ _ (Nat.le_refl _), pathN_pcs]
theorem headOf_no {x : Str} (hx : 47 ∉ x) : headOf x = [] := by
  rw [← head_pcs, pcs_no x hx]
  rfl
theorem tailOf_join {h x : Str} (hx : 47 ∉ x) : tailOf (h ++ 47 :: x) = x := by
  rw [← tail_pcs, pcs_app, pcs_no x hx]
  simp [List.getD_eq_getElem?_getD]
theorem tailOf_no {x : Str} (hx : 47 ∉ x) : tailOf x = x := by
  rw [← tail_pcs, pcs_no x hx]
  rfl
/-- a text is one piece, or a front, a slash, and a last piece -/
theorem cut_last : ∀ s : Str, 47 ∉ s ∨ ∃ h x, s = h ++ 47 :: x ∧ 47 ∉ x
  | [] => .inl (by simp)
  | c :: s => by
    rcases cut_last s with h | ⟨h, x, rfl, hx⟩
    · by_cases hc : c = 47
      · subst hc
        exact .inr ⟨[], s, rfl, h⟩
      · exact .inl (by simp [h]; exact fun e => hc e.symm)
    · exact .inr ⟨c :: h, x, rfl, hx⟩
theorem checkP_iff (p : Str) : checkP [p] = 0 ↔ (∀ x ∈ pcs p, isName x = true) ∧ greatB p = false := by
  simp only [checkP]
  constructor
  · intro h
    split at h
    · rename_i h1
      split at h
      · cases h
      · rename_i h2
        exact ⟨List.all_eq_true.1 h1, by simpa using h2⟩
    · cases h
  · rintro ⟨h1, h2⟩
    rw [if_pos (List.all_eq_true.2 h1), if_neg (by simp [h2])]
theorem checkP2 (p q : Str) : checkP [p, q] = 0 ↔ checkP [p] = 0 ∧ checkP [q] = 0 := by
  rw [checkP_cons]
  by_cases h : checkP [p] = 0
  · simp [h]
  · simp [h]
theorem checkP3 (p q r : Str) : checkP [p, q, r] = 0 ↔ checkP [p] = 0 ∧ checkP [q] = 0 ∧ checkP [r] = 0 := by
  rw [checkP_cons, ← checkP2]
  by_cases h : checkP [p] = 0
  · simp [h]
  · simp [h]
theorem greatB_false (s : Str) : greatB s = false ↔ s.count 47 < 6 ∧ s.length ≤ 80 := by
  simp only [greatB, Bool.or_eq_false_iff, decide_eq_false_iff_not]
  omega
theorem isName_ne {x : Str} (h : isName x = true) : x ≠ [] := by
  rintro rfl
  simp [isName] at h
/-- A PATH IS ITS FRONT AND ITS NAME -/
theorem parts {p : Str} (h : checkP [p] = 0) : isName (tailOf p) = true ∧ (if headOf p = [] then tailOf p else headOf p ++ 47 :: tailOf p) = p ∧ (headOf p ≠ [] → checkP [headOf p] = 0) := by
  obtain ⟨h1, h2⟩ := (checkP_iff p).1 h
  rcases cut_last p with hp | ⟨f, x, rfl, hx⟩
  · rw [headOf_no hp, tailOf_no hp]
    refine ⟨h1 p (by rw [pcs_no p hp]; simp), by simp, fun h => absurd rfl h⟩
  · rw [headOf_join hx, tailOf_join hx]
    rw [pcs_app, pcs_no x hx] at h1
    have hf : f ≠ [] := by
      rintro rfl
      exact isName_ne (h1 [] (by simp [pcs])) rfl
    refine ⟨h1 x (by simp), by rw [if_neg hf], fun _ => (checkP_iff f).2 ⟨fun y hy => h1 y (by simp [hy]), ?_⟩⟩
    rw [greatB_false] at h2 ⊢
    simp at h2
    omega
end Go.VM.Tryd
end
section
set_option maxHeartbeats 4000000
set_option linter.unusedVariables false
set_option linter.unusedSimpArgs false
open Go Go.VM Go.Proofs Tether
namespace Go.VM.Tryd
set_option maxRecDepth 100000
end Go.VM.Tryd
end
