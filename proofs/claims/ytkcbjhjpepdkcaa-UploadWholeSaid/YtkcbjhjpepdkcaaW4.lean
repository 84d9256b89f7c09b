import Derived.Test.YtkcbjhjpepdkcaaW3
import Derived.Test.YtkcbjhjpepdkcaaV5
section
set_option linter.unusedVariables false
set_option linter.unusedSimpArgs false
open Go Go.VM Go.Proofs Tether
namespace Go.VM.Try
/-! ### What reads at the uploads' types -/
theorem rd_int : Rdr Try.prog 3 1 (fun n : Int => [V.int .i64 n]) (fun n => (Lit.int .i64 n).wf = true) := Rdr.int Try.underlying3 (by kernel_rfl)
theorem rd_str : Rdr Try.prog 9 1 (fun s : List UInt8 => [V.str s]) (fun s => s.length ≤ reachBytes) := Rdr.str Try.underlying9 (by kernel_rfl)
def okSession (s : Session) : Prop := s.who.length ≤ reachBytes ∧ s.text.length ≤ reachBytes
theorem rd_Session : Rdr Try.prog 44 5 Session.enc okSession :=
  (Rdr.struct Try.underlying44 (FRd.cons rd_int (FRd.cons rd_str (FRd.cons rd_str (FRd.cons rd_int (FRd.cons rd_int (FRd.nil 5) rfl) rfl) rfl) rfl) rfl) (by kernel_rfl)).as
    (fun p => (⟨p.1, p.2.1, p.2.2.1, p.2.2.2.1, p.2.2.2.2.1⟩ : Session)) (fun _ => rfl) (fun _ h => ⟨h.2.1, h.2.2.1⟩) (fun _ => rfl)
theorem rd_Sessions : Rdr Try.prog 22 1 (fun l => [ssV l]) (fun l => l.length * Program.bytesOf Try.prog 44 ≤ reachBytes ∧ ∀ a ∈ l, okSession a) := Rdr.slice rd_Session (by decide) default Try.underlying22 (by kernel_rfl)
theorem bytes_Session : Program.bytesOf Try.prog 44 = 56 := by kernel_rfl
theorem reach_lt : reachBytes ≤ 140737488355328 := by decide
theorem rd_Uploads : Rdr Try.prog 24 4 (fun u : Uploads => [ssV u.ss, .int .i64 u.next, .int .i64 u.lasts, .int .i64 u.room]) Uploads.ok :=
  (Rdr.struct Try.underlying24 (FRd.cons rd_Sessions (FRd.cons rd_int (FRd.cons rd_int (FRd.cons rd_int (FRd.nil 4) rfl) rfl) rfl) rfl) (by kernel_rfl)).as
    (fun p => (⟨p.1, p.2.1, p.2.2.1, p.2.2.2.1⟩ : Uploads)) (fun _ => rfl) (fun p h => by
      have h1 := h.1.1
      rw [bytes_Session] at h1
      have hr := reach_lt
      exact ⟨Nat.le_trans h1 reach_lt, fun s hs => ⟨Nat.lt_of_le_of_lt (h.1.2 s hs).1 (by omega), Nat.lt_of_le_of_lt (h.1.2 s hs).2 (by omega)⟩⟩) (fun _ => rfl)
theorem ar_int : ARd Try.prog 3 (fun n : Int => V.int .i64 n) (fun n => (Lit.int .i64 n).wf = true) := ARd.cell rd_int (by rw [Try.underlying3]; trivial)
theorem ar_str : ARd Try.prog 9 (fun s : List UInt8 => V.str s) (fun s => s.length ≤ reachBytes) := ARd.cell rd_str (by rw [Try.underlying9]; trivial)
theorem ar_Uploads : ARd Try.prog 24 Uploads.enc Uploads.ok := ARd.struct rd_Uploads Try.underlying24
theorem laidOut : laidOutB Try.prog = true := by kernel_rfl
theorem own : ownKnob Try.prog.godebug = none := by kernel_rfl
end Go.VM.Try
end
section
set_option linter.unusedVariables false
set_option linter.unusedSimpArgs false
open Go Go.VM Go.Proofs Tether
namespace Go.VM.Try
theorem wf_range {n : Int} (h : (Lit.int .i64 n).wf = true) : -9223372036854775808 ≤ n ∧ n ≤ 9223372036854775807 := by
  simp [Lit.wf, IntKind.min, IntKind.max, IntKind.bits, IntKind.signed] at h
  omega
theorem bytes_int : Program.bytesOf Try.prog 3 = 8 := by kernel_rfl
theorem rd_ints : Rdr Try.prog 45 1 (fun l : List Int => [lstV 1 intE 0 l]) (fun l => l.length * 8 ≤ reachBytes ∧ ∀ n ∈ l, (Lit.int .i64 n).wf = true) := by
  have := Rdr.slice rd_int (by decide) 0 Try.underlying45 (by kernel_rfl)
  rw [bytes_int] at this
  exact this
theorem ar_ints : ARd Try.prog 45 (fun l : List Int => lstV 1 intE 0 l) (fun l => l.length * 8 ≤ reachBytes ∧ ∀ n ∈ l, (Lit.int .i64 n).wf = true) := ARd.cell rd_ints (by rw [Try.underlying45]; trivial)
end Go.VM.Try
end
