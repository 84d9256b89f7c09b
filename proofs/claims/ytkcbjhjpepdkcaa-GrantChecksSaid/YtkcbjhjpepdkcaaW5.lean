import Derived.Test.YtkcbjhjpepdkcaaW1
import Derived.Test.YtkcbjhjpepdkcaaV5
import Derived.Test.YtkcbjhjpepdkcaaW2
section
set_option linter.unusedVariables false
set_option linter.unusedSimpArgs false
open Go Go.VM Go.Proofs
namespace Go.VM.Try
/-! ### What reads: numbers, texts -/
theorem rd_int : Rdr Try.prog 3 1 (fun n : Int => [V.int .i64 n]) (fun n => (Lit.int .i64 n).wf = true) := Rdr.int Try.underlying3 (by kernel_rfl)
theorem rd_str : Rdr Try.prog 9 1 (fun s : List UInt8 => [V.str s]) (fun s => s.length ≤ reachBytes) := Rdr.str Try.underlying9 (by kernel_rfl)
theorem reach_lt : reachBytes ≤ 140737488355328 := by decide
theorem ar_int : ARd Try.prog 3 (fun n : Int => V.int .i64 n) (fun n => (Lit.int .i64 n).wf = true) := ARd.cell rd_int (by rw [Try.underlying3]; trivial)
theorem ar_str : ARd Try.prog 9 (fun s : List UInt8 => V.str s) (fun s => s.length ≤ reachBytes) := ARd.cell rd_str (by rw [Try.underlying9]; trivial)
theorem laidOut : laidOutB Try.prog = true := by kernel_rfl
theorem own : ownKnob Try.prog.godebug = none := by kernel_rfl
theorem wf_range {n : Int} (h : (Lit.int .i64 n).wf = true) : -9223372036854775808 ≤ n ∧ n ≤ 9223372036854775807 := by
  simp [Lit.wf, IntKind.min, IntKind.max, IntKind.bits, IntKind.signed] at h
  omega
theorem rl {n : Nat} (h : n ≤ reachBytes) : n < 4611686018427387904 := Nat.lt_of_le_of_lt h (by have := reach_lt; omega)
end Go.VM.Try
end
section
set_option linter.unusedVariables false
set_option linter.unusedSimpArgs false
open Go Go.VM Go.Proofs Tether
namespace Go.VM.Try
def okGrant (g : Grant) : Prop := g.folder.length ≤ reachBytes ∧ g.who.length ≤ reachBytes
theorem rd_Grant : Rdr Try.prog 61 3 Grant.enc okGrant :=
  (Rdr.struct Try.underlying61 (FRd.cons rd_str (FRd.cons rd_str (FRd.cons rd_int (FRd.nil 3) rfl) rfl) rfl) (by kernel_rfl)).as
    (fun p => (⟨p.1, p.2.1, p.2.2.1⟩ : Grant)) (fun _ => rfl) (fun _ h => ⟨h.1, h.2.1⟩) (fun _ => rfl)
theorem bytes_Grant : Program.bytesOf Try.prog 61 = 40 := by kernel_rfl
theorem rd_Grants : Rdr Try.prog 51 1 (fun l => [gsV l]) okG :=
  (Rdr.slice rd_Grant (by decide) default Try.underlying51 (by kernel_rfl)).as id (fun _ => rfl) (fun l h => by
    have h1 := h.1
    rw [bytes_Grant] at h1
    exact ⟨Nat.le_trans h1 reach_lt, fun g hg => ⟨rl (h.2 g hg).1, rl (h.2 g hg).2⟩⟩) (fun _ => rfl)
theorem ar_Grants : ARd Try.prog 51 (fun l : List Grant => gsV l) okG := ARd.cell rd_Grants (by rw [Try.underlying51]; trivial)
theorem ar_Grant : ARd Try.prog 61 (fun g : Grant => .agg g.enc) okGrant := ARd.struct rd_Grant Try.underlying61
end Go.VM.Try
end
