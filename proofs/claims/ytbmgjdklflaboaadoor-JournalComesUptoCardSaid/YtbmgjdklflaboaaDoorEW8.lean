import Derived.Test.YtbmgjdklflaboaaDoorEW1
import Derived.Test.YtbmgjdklflaboaaDoorEV9
import Derived.Test.YtbmgjdklflaboaaDoorEW2
import Derived.Test.YtbmgjdklflaboaaDoorEW4
import Derived.Test.YtbmgjdklflaboaaDoorRows
import Derived.Deep.DeepHandedRow
import Derived.Lib.LaidTab
section
set_option maxHeartbeats 4000000
set_option linter.unusedVariables false
set_option linter.unusedSimpArgs false
open Go Go.VM Go.Proofs
namespace Go.VM.Tryd
open Go.VM.U Go.Proofs.YtbmgjdklflaboaaDoor
theorem rd_int : Rdr Tryd.prog 3 1 (fun n : Int => [V.int .i64 n]) (fun n => (Lit.int .i64 n).wf = true) := Rdr.int Tryd.underlying3 (by kernel_rfl)
theorem rd_bool : Rdr Tryd.prog 4 1 (fun b : Bool => [V.bool b]) (fun _ => True) := Rdr.bool Tryd.underlying4 (by kernel_rfl)
theorem rd_str : Rdr Tryd.prog 9 1 (fun s : List UInt8 => [V.str s]) (fun s => s.length ≤ upB) := Rdr.str Tryd.underlying9 (by kernel_rfl)
theorem ar_int : ARd Tryd.prog 3 (fun n : Int => V.int .i64 n) (fun n => (Lit.int .i64 n).wf = true) := ARd.cell rd_int (by rw [Tryd.underlying3]; trivial)
theorem ar_str : ARd Tryd.prog 9 (fun s : List UInt8 => V.str s) (fun s => s.length ≤ upB) := ARd.cell rd_str (by rw [Tryd.underlying9]; trivial)
theorem laidOut : laidOutB Tryd.prog = true := by kernel_rfl
theorem own : ownKnob Tryd.prog.godebug = none := by kernel_rfl
theorem wf_range {n : Int} (h : (Lit.int .i64 n).wf = true) : -9223372036854775808 ≤ n ∧ n ≤ 9223372036854775807 := by
  simp [Lit.wf, IntKind.min, IntKind.max, IntKind.bits, IntKind.signed] at h
  omega
mutual
theorem bulk_eq {H : Type} : ∀ d : DataW H, Rows.uptoBulk d = bulk d
  | .lit l => by cases l <;> simp [Rows.uptoBulk, bulk]
  | .nil => by simp [Rows.uptoBulk, bulk]
  | .ptr d => by simp [Rows.uptoBulk, bulk, bulk_eq d]
  | .slice a b => by simp [Rows.uptoBulk, bulk, bulkAll_eq a, bulkAll_eq b]
  | .agg a => by simp [Rows.uptoBulk, bulk, bulkAll_eq a]
  | .iface _ d => by simp [Rows.uptoBulk, bulk, bulk_eq d]
  | .map es => by simp [Rows.uptoBulk, bulk, bulkEntries_eq es]
  | .held _ => by simp [Rows.uptoBulk, bulk]
theorem bulkAll_eq {H : Type} : ∀ l : List (DataW H), Rows.uptoBulkAll l = bulkAll l
  | [] => by simp [Rows.uptoBulkAll, bulkAll]
  | d :: r => by simp [Rows.uptoBulkAll, bulkAll, bulk_eq d, bulkAll_eq r]
theorem bulkEntries_eq {H : Type} : ∀ l : List (Lit × DataW H), Rows.uptoBulkEntries l = bulkEntries l
  | [] => by simp [Rows.uptoBulkEntries, bulkEntries]
  | x :: r => by simp [Rows.uptoBulkEntries, bulkEntries, bulkEntry_eq x, bulkEntries_eq r]
theorem bulkEntry_eq {H : Type} : ∀ x : Lit × DataW H, Rows.uptoBulkEntry x = bulkEntry x
  | (k, d) => by cases k <;> simp [Rows.uptoBulkEntry, bulkEntry, bulk_eq d]
end
theorem upto_bulk {H : Type} {l : List (DataW H)} (h : Rows.uptoSmall H l = true) : bulkAll l ≤ upB := by
  rw [← bulkAll_eq]
  exact of_decide_eq_true h
def litC : DataW Unit → List Value
  | .lit (.int k n) => [.int k n]
  | .lit (.bool b) => [.bool b]
  | _ => []
def litD : DataW Unit → List Value
  | .agg l => l.flatMap litC
  | d => litC d
def litE : DataW Unit → Array Value
  | .agg l => (l.flatMap litD).toArray
  | d => (litD d).toArray
def laidAt (d : DataW Unit) : Obj → Obj
  | .cells _ t frozen => .cells (litE d) t frozen
  | o => o
noncomputable def laidWorld (os : Os) : World :=
  { World.holding Tryd.prog os ⟨#[], #[], []⟩ with heap := (World.holding Tryd.prog os ⟨#[], #[], []⟩).heap.modify 1 (laidAt Rows.laid_internal_strconv_uint64pow10) |>.modify 2 (laidAt Rows.laid_unicode_utf8_first) |>.modify 3 (laidAt Rows.laid_unicode_utf8_acceptRanges) |>.modify 4 (laidAt Rows.laid_math_bits_deBruijn32tab) |>.modify 5 (laidAt Rows.laid_math_bits_deBruijn64tab) }
end Go.VM.Tryd
end
section
set_option maxHeartbeats 4000000
set_option linter.unusedVariables false
set_option linter.unusedSimpArgs false
open Go Go.VM Go.Proofs Tether
namespace Go.VM.Tryd
open Go.VM.U
theorem rd_Entry : Rdr Tryd.prog 66 4 Entry.enc (fun x => x.path.length ≤ 1048576 ∧ x.text.length ≤ 1048576) :=
  (Rdr.struct Tryd.underlying66 (FRd.cons rd_str (FRd.cons rd_bool (FRd.cons rd_str (FRd.cons rd_int (FRd.nil 4) rfl) rfl) rfl) rfl) (by kernel_rfl)).as
    (fun p => (⟨p.1, p.2.1, p.2.2.1, p.2.2.2.1⟩ : Entry)) (fun _ => rfl) (fun _ h => ⟨h.1, h.2.2.1⟩) (fun _ => rfl)
theorem rd_Entries : Rdr Tryd.prog 22 1 (fun l => [esV l]) okE :=
  (Rdr.slice rd_Entry (by decide) default Tryd.underlying22 (by kernel_rfl)).as id (fun _ => rfl) (fun l h => h) (fun _ => rfl)
theorem ar_Entries : ARd Tryd.prog 22 (fun l : List Entry => esV l) okE := ARd.cell rd_Entries (by rw [Tryd.underlying22]; trivial)
theorem rd_Change : Rdr Tryd.prog 78 5 Change.enc okC :=
  (Rdr.struct Tryd.underlying78 (FRd.cons rd_int (FRd.cons rd_str (FRd.cons rd_str (FRd.cons rd_str (FRd.cons rd_int (FRd.nil 5) rfl) rfl) rfl) rfl) rfl) (by kernel_rfl)).as
    (fun p => (⟨p.1, p.2.1, p.2.2.1, p.2.2.2.1, p.2.2.2.2.1⟩ : Change)) (fun _ => rfl) (fun _ h => ⟨h.2.1, h.2.2.1, h.2.2.2.1⟩) (fun _ => rfl)
theorem rd_Changes : Rdr Tryd.prog 26 1 (fun l => [csV l]) okCs :=
  (Rdr.slice rd_Change (by decide) default Tryd.underlying26 (by kernel_rfl)).as id (fun _ => rfl) (fun l h => h) (fun _ => rfl)
theorem ar_Changes : ARd Tryd.prog 26 (fun l : List Change => csV l) okCs := ARd.cell rd_Changes (by rw [Tryd.underlying26]; trivial)
end Go.VM.Tryd
end
section
set_option maxHeartbeats 4000000
set_option linter.unusedVariables false
set_option linter.unusedSimpArgs false
open Go Go.VM Go.Proofs Tether
namespace Go.VM.Tryd
open Go.VM.U
theorem rd_Commit : Rdr Tryd.prog 70 3 cmE okM :=
  (Rdr.struct Tryd.underlying70 (FRd.cons rd_int (FRd.cons rd_str (FRd.cons rd_Changes (FRd.nil 3) rfl) rfl) rfl) (by kernel_rfl)).as
    (fun p => (⟨p.1, p.2.1, p.2.2.1⟩ : Commit)) (fun _ => rfl) (fun _ h => ⟨h.2.1, h.2.2.1⟩) (fun _ => rfl)
theorem rd_Commits : Rdr Tryd.prog 23 1 (fun l => [cmsV l]) okMs :=
  (Rdr.slice rd_Commit (by decide) default Tryd.underlying23 (by kernel_rfl)).as id (fun _ => rfl) (fun l h => h) (fun _ => rfl)
theorem rd_Journal : Rdr Tryd.prog 25 3 jnE okJ :=
  (Rdr.struct Tryd.underlying25 (FRd.cons rd_Entries (FRd.cons rd_int (FRd.cons rd_Commits (FRd.nil 3) rfl) rfl) rfl) (by kernel_rfl)).as
    (fun p => (⟨p.1, p.2.1, p.2.2.1⟩ : Journal)) (fun _ => rfl) (fun _ h => ⟨h.1, h.2.2.1⟩) (fun _ => rfl)
theorem ar_Journal : ARd Tryd.prog 25 (fun j : Journal => .agg (jnE j)) okJ := ARd.struct rd_Journal Tryd.underlying25
theorem rd_Page : Rdr Tryd.prog 35 5 pgE okG :=
  (Rdr.struct Tryd.underlying35 (FRd.cons rd_bool (FRd.cons rd_Entries (FRd.cons rd_Commits (FRd.cons rd_int (FRd.cons rd_bool (FRd.nil 5) rfl) rfl) rfl) rfl) rfl) (by kernel_rfl)).as
    (fun p => (⟨p.1, p.2.1, p.2.2.1, p.2.2.2.1, p.2.2.2.2.1⟩ : Page)) (fun _ => rfl) (fun _ h => ⟨h.2.1, h.2.2.1⟩) (fun _ => rfl)
theorem ar_Page : ARd Tryd.prog 35 (fun p : Page => .agg (pgE p)) okG := ARd.struct rd_Page Tryd.underlying35
end Go.VM.Tryd
end
