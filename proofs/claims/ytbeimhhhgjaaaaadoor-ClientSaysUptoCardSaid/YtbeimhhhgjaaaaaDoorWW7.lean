import Derived.Test.YtbeimhhhgjaaaaaDoorWW1
import Derived.Test.YtbeimhhhgjaaaaaDoorWV9
import Derived.Test.YtbeimhhhgjaaaaaDoorWW2
import Derived.Test.YtbeimhhhgjaaaaaDoorWW5
import Derived.Test.YtbeimhhhgjaaaaaDoorWV8
import Derived.Test.YtbeimhhhgjaaaaaDoorRows
import Derived.Deep.DeepHandedRow
import Derived.Lib.LaidTab
import Derived.LaidSub
section
set_option maxHeartbeats 4000000
set_option linter.unusedVariables false
set_option linter.unusedSimpArgs false
open Go Go.VM Go.Proofs
namespace Go.VM.Tryd
open Go.VM.U Go.Proofs.YtbeimhhhgjaaaaaDoor
theorem rd_int : Rdr Tryd.prog 3 1 (fun n : Int => [V.int .i64 n]) (fun n => (Lit.int .i64 n).wf = true) := Rdr.int Tryd.underlying3 (by kernel_rfl)
theorem rd_bool : Rdr Tryd.prog 4 1 (fun b : Bool => [V.bool b]) (fun _ => True) := Rdr.bool Tryd.underlying4 (by kernel_rfl)
theorem rd_str : Rdr Tryd.prog 9 1 (fun s : List UInt8 => [V.str s]) (fun s => s.length ≤ upB) := Rdr.str Tryd.underlying9 (by kernel_rfl)
theorem laidOut : laidOutB Tryd.prog = true := by kernel_rfl
theorem own : ownKnob Tryd.prog.godebug = none := by kernel_rfl
mutual
theorem bulk_eq {H : Type} : ∀ d : DataW H, Rows.uptoBulk d = bulk d
  | .lit l => by cases l <;> simp [Rows.uptoBulk, bulk]
  | .nil => by simp [Rows.uptoBulk, bulk]
  | .ptr d => by simp [Rows.uptoBulk, bulk, bulk_eq d]
  | .slice a b => by simp [Rows.uptoBulk, bulk, bulkAll_eq a, bulkAll_eq b]
  | .agg a => by simp [Rows.uptoBulk, bulk, bulkAll_eq a]
  | .iface _ d => by simp [Rows.uptoBulk, bulk, bulk_eq d]
  | .map es => by simp [Rows.uptoBulk, bulk, bulkEntries_eq es]
  | .held _ => by simp [Rows.uptoBulk, bulk]
theorem bulkAll_eq {H : Type} : ∀ l : List (DataW H), Rows.uptoBulkAll l = bulkAll l
  | [] => by simp [Rows.uptoBulkAll, bulkAll]
  | d :: r => by simp [Rows.uptoBulkAll, bulkAll, bulk_eq d, bulkAll_eq r]
theorem bulkEntries_eq {H : Type} : ∀ l : List (Lit × DataW H), Rows.uptoBulkEntries l = bulkEntries l
  | [] => by simp [Rows.uptoBulkEntries, bulkEntries]
  | x :: r => by simp [Rows.uptoBulkEntries, bulkEntries, bulkEntry_eq x, bulkEntries_eq r]
theorem bulkEntry_eq {H : Type} : ∀ x : Lit × DataW H, Rows.uptoBulkEntry x = bulkEntry x
  | (k, d) => by cases k <;> simp [Rows.uptoBulkEntry, bulkEntry, bulk_eq d]
end
theorem upto_bulk {H : Type} {l : List (DataW H)} (h : Rows.uptoSmall H l = true) : bulkAll l ≤ upB := by
  rw [← bulkAll_eq]
  exact of_decide_eq_true h
def litC : DataW Unit → List Value
  | .lit (.int k n) => [.int k n]
  | .lit (.bool b) => [.bool b]
  | _ => []
def litD : DataW Unit → List Value
  | .agg l => l.flatMap litC
  | d => litC d
def litE : DataW Unit → Array Value
  | .agg l => (l.flatMap litD).toArray
  | d => (litD d).toArray
def laidAt (d : DataW Unit) : Obj → Obj
  | .cells _ t frozen => .cells (litE d) t frozen
  | o => o
noncomputable def laidWorld (os : Os) : World :=
  { World.holding Tryd.prog os ⟨#[], #[], []⟩ with heap := (World.holding Tryd.prog os ⟨#[], #[], []⟩).heap.modify 0 (laidAt Rows.laid_internal_strconv_uint64pow10) |>.modify 2 (laidAt Rows.laid_math_bits_deBruijn32tab) |>.modify 3 (laidAt Rows.laid_math_bits_deBruijn64tab) |>.modify 4 (laidAt Rows.laid_unicode_utf8_first) |>.modify 5 (laidAt Rows.laid_unicode_utf8_acceptRanges) }
end Go.VM.Tryd
end
section
set_option maxHeartbeats 4000000
set_option linter.unusedVariables false
set_option linter.unusedSimpArgs false
open Go Go.VM Go.Proofs Tether
namespace Go.VM.Tryd
open Go.VM.U
theorem rd_Entry : Rdr Tryd.prog 36 4 Entry.enc (fun x => x.path.length ≤ 1048576 ∧ x.text.length ≤ 1048576) :=
  (Rdr.struct Tryd.underlying36 (FRd.cons rd_str (FRd.cons rd_bool (FRd.cons rd_str (FRd.cons rd_int (FRd.nil 4) rfl) rfl) rfl) rfl) (by kernel_rfl)).as
    (fun p => (⟨p.1, p.2.1, p.2.2.1, p.2.2.2.1⟩ : Entry)) (fun _ => rfl) (fun _ h => ⟨h.1, h.2.2.1⟩) (fun _ => rfl)
theorem rd_Entries : Rdr Tryd.prog 22 1 (fun l => [esV l]) okE :=
  (Rdr.slice rd_Entry (by decide) default Tryd.underlying22 (by kernel_rfl)).as id (fun _ => rfl) (fun l h => h) (fun _ => rfl)
theorem rd_Change : Rdr Tryd.prog 45 5 Change.enc okC :=
  (Rdr.struct Tryd.underlying45 (FRd.cons rd_int (FRd.cons rd_str (FRd.cons rd_str (FRd.cons rd_str (FRd.cons rd_int (FRd.nil 5) rfl) rfl) rfl) rfl) rfl) (by kernel_rfl)).as
    (fun p => (⟨p.1, p.2.1, p.2.2.1, p.2.2.2.1, p.2.2.2.2.1⟩ : Change)) (fun _ => rfl) (fun _ h => ⟨h.2.1, h.2.2.1, h.2.2.2.1⟩) (fun _ => rfl)
theorem rd_Changes : Rdr Tryd.prog 23 1 (fun l => [csV l]) okCs :=
  (Rdr.slice rd_Change (by decide) default Tryd.underlying23 (by kernel_rfl)).as id (fun _ => rfl) (fun l h => h) (fun _ => rfl)
end Go.VM.Tryd
end
section
set_option maxHeartbeats 4000000
set_option linter.unusedVariables false
set_option linter.unusedSimpArgs false
open Go Go.VM Go.Proofs Tether
namespace Go.VM.Tryd
open Go.VM.U
theorem rd_Client : Rdr Tryd.prog 25 8 clE okCl :=
  (Rdr.struct Tryd.underlying25 (FRd.cons rd_str (FRd.cons rd_str (FRd.cons rd_Entries (FRd.cons rd_int (FRd.cons rd_Entries (FRd.cons rd_str (FRd.cons rd_Changes (FRd.cons rd_int (FRd.nil 8) rfl) rfl) rfl) rfl) rfl) rfl) rfl) rfl) (by kernel_rfl)).as
    (fun p => (⟨p.1, p.2.1, p.2.2.1, p.2.2.2.1, p.2.2.2.2.1, p.2.2.2.2.2.1, p.2.2.2.2.2.2.1, p.2.2.2.2.2.2.2.1⟩ : Client)) (fun _ => rfl)
    (fun _ h => ⟨h.1, h.2.1, h.2.2.1, h.2.2.2.2.1, h.2.2.2.2.2.1, h.2.2.2.2.2.2.1⟩) (fun _ => rfl)
theorem ar_Client : ARd Tryd.prog 25 (fun c : Client => .agg (clE c)) okCl := ARd.struct rd_Client Tryd.underlying25
end Go.VM.Tryd
end
section
set_option maxHeartbeats 4000000
set_option linter.unusedVariables false
set_option linter.unusedSimpArgs false
open Go Go.VM Go.Proofs
namespace Go.VM.Tryd
def keepPow (x : String × DataW Unit) : Bool := x.1 == "internal/strconv.uint64pow10"
theorem gt_of {l : List (String × DataW Unit)} {W : World} (h : laidMetH Tryd.prog l W)
    (hl : ((l.filter keepPow).filter fun x => x.2.handleName?.isNone) = [("internal/strconv.uint64pow10", Lib.tabData .u64 Lib.pow10Tab)]) : GT Tryd.prog W := by
  have h1 := (laidMetH_iff.1 (h.filter keepPow)).1
  rw [hl] at h1
  have h2 := Lib.tabIs_of_head (P := Tryd.prog) (g := (Tryd.prog.globalNamed "internal/strconv.uint64pow10").getD 0) (t := 110) (e := 96) (n := 20) (by kernel_rfl) (by kernel_rfl) (by kernel_rfl) (by kernel_rfl) (by kernel_rfl) (by kernel_rfl) h1
  intro n hn g hg
  simp only [GN, List.mem_cons, List.not_mem_nil, or_false] at hn
  rcases hn with rfl | rfl | rfl
  · exact ⟨_, h2, .inl ⟨rfl, rfl⟩⟩
  · rw [show Tryd.prog.globalNamed "strconv.ErrSyntax" = none by kernel_rfl] at hg
    cases hg
  · rw [show Tryd.prog.globalNamed "strconv.ErrRange" = none by kernel_rfl] at hg
    cases hg
end Go.VM.Tryd
end
