/-
  PROVED: tetherlaw.UploadOpens returns true and leaves its arguments as they were, for whatever uploads, name, size and time it is handed.
  Conditions: those of the given statement (Rows.UploadOpensSaid) alone: what its row takes (among them that no list and no text is larger than memory can hold).
-/
import Derived.Test.YtkcbjhjpepdkcaaRdU
import Derived.Test.YtkcbjhjpepdkcaaRows
import Derived.Handed
set_option linter.unusedVariables false
set_option linter.unusedSimpArgs false
open Go Go.VM Go.Proofs Tether
namespace Go.Proofs.Ytkcbjhjpepdkcaa
set_option maxRecDepth 100000 in
theorem uploadOpens_lifted (os : Os) (started : os.Started) (H : Type) (enc : TypeId × Value → H) :
    ReturnsInHanded {} Try.checked os 3 .any (Rows.uploadOpensSpec.pre6 enc Try.prog Try.f3 Rows.uploadOpensRow.domain false) (Rows.uploadOpensSpec.post enc Try.prog Try.f3 false true false false) := by
  refine returnsInHanded_of_change_sized (C := Try.checked) Go.VM.Try.own started (by kernel_rfl) Try.func3
    (ChangeSpec.witness6 (enc := enc) (C := Try.checked) false ⟨#[], #[.agg #[.slice none 0 0, .int .i64 0, .int .i64 0, .int .i64 0], .string ⟨#[]⟩, .int .i64 0, .int .i64 0], []⟩ 8 (by kernel_rfl) (by kernel_rfl) (by kernel_rfl) (by kernel_rfl)) ?_
  intro W base args ds gs before hval hW _ hwt _
  exact post_true (P := Try.prog) (fn := Try.f3) (s := Rows.uploadOpensSpec) (tb := 4) (ok := fun p : Uploads × List UInt8 × Int × Int × Unit => p.1.ok ∧ p.2.1.length ≤ reachBytes ∧ _ ∧ _ ∧ _)
    (fun H ds hl => by
      match ds, hl with
      | [_, _, _, _], _ => rfl) rfl rfl Try.underlying4 Go.VM.Try.laidOut (by
      intro t ht
      have : t ∈ [24, 9, 3, 3] := ht
      simp only [List.mem_cons, List.not_mem_nil, or_false] at this
      rcases this with rfl | rfl | rfl | rfl <;> exact ⟨by kernel_rfl, of_decide_eq_true (by kernel_rfl)⟩)
    (LRd.cons Go.VM.Try.ar_Uploads (LRd.cons Go.VM.Try.ar_str (LRd.cons Go.VM.Try.ar_int (LRd.cons Go.VM.Try.ar_int LRd.nil))))
    (fun p h => Go.VM.Try.UploadOpens_c p.1 h.1 p.2.1 (by have := h.2.1; have := Go.VM.Try.reach_lt; omega) p.2.2.1 p.2.2.2.1) hval hW hwt
theorem uploadOpens_proved : Rows.UploadOpensSaid :=
  OpenClaim.holds_of_wide 3 Try.f3 rfl rfl rfl rfl rfl rfl rfl ⟨rfl, rfl, rfl, rfl, rfl⟩ rfl rfl rfl rfl rfl (by kernel_rfl) Try.func3 (by kernel_rfl)
    (of_decide_eq_true (by kernel_rfl)) (by unfold Func.isWrapper; first | (rw [if_pos (by decide +kernel)]; kernel_rfl) | (rw [if_neg (by decide +kernel)]; exact ⟨rfl, rfl⟩))
    (fun os started H enc _ => uploadOpens_lifted os started H enc)
#print axioms uploadOpens_proved
end Go.Proofs.Ytkcbjhjpepdkcaa
