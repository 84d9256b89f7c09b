/-
  PROVED: tetherlaw.UploadOver returns true and leaves its arguments as they were, for whatever uploads, names, size and time it is handed.
  Conditions: those of the given statement (Rows.UploadOverSaid) alone: what its row takes (among them that no list and no text is larger than memory can hold).
-/
import Derived.Test.YtkcbjhjpepdkcaaR7
import Derived.Test.YtkcbjhjpepdkcaaRdU
import Derived.Test.YtkcbjhjpepdkcaaRows
import Derived.Handed
set_option linter.unusedVariables false
set_option linter.unusedSimpArgs false
open Go Go.VM Go.Proofs Tether
namespace Go.Proofs.Ytkcbjhjpepdkcaa
set_option maxRecDepth 100000 in
theorem uploadOver_lifted (os : Os) (started : os.Started) (H : Type) (enc : TypeId × Value → H) :
    ReturnsInHanded {} Try.checked os 8 .any (Rows.uploadOverSpec.pre6 enc Try.prog Try.f8 Rows.uploadOverRow.domain false) (Rows.uploadOverSpec.post enc Try.prog Try.f8 false true false false) := by
  refine returnsInHanded_of_change_sized (C := Try.checked) Go.VM.Try.own started (by kernel_rfl) Try.func8
    (ChangeSpec.witness6 (enc := enc) (C := Try.checked) false ⟨#[], #[.agg #[.slice none 0 0, .int .i64 0, .int .i64 0, .int .i64 0], .string ⟨#[]⟩, .string ⟨#[]⟩, .int .i64 0, .int .i64 0], []⟩ 8 (by kernel_rfl) (by kernel_rfl) (by kernel_rfl) (by kernel_rfl)) ?_
  intro W base args ds gs before hval hW _ hwt _
  have hr : ∀ t ∈ Try.f8.params.toList, Try.prog.readableRec t = true ∧ t < Try.prog.types.size := by
    intro t ht
    have : t ∈ [24, 9, 9, 3, 3] := ht
    simp only [List.mem_cons, List.not_mem_nil, or_false] at this
    rcases this with rfl | rfl | rfl | rfl | rfl <;> exact ⟨by kernel_rfl, of_decide_eq_true (by kernel_rfl)⟩
  exact post_true (P := Try.prog) (fn := Try.f8) (s := Rows.uploadOverSpec) (tb := 4)
    (fun H ds hl => by
      match ds, hl with
      | [_, _, _, _, _], _ => rfl) rfl rfl Try.underlying4 Go.VM.Try.laidOut hr
    (LRd.cons Go.VM.Try.ar_Uploads (LRd.cons Go.VM.Try.ar_str (LRd.cons Go.VM.Try.ar_str (LRd.cons Go.VM.Try.ar_int (LRd.cons Go.VM.Try.ar_int LRd.nil)))))
    (fun p h => Go.VM.Try.UploadOver_c p.1 h.1 p.2.1 (Nat.lt_of_le_of_lt h.2.1 (by have := Go.VM.Try.reach_lt; omega)) p.2.2.1 (Nat.lt_of_le_of_lt h.2.2.1 (by have := Go.VM.Try.reach_lt; omega)) p.2.2.2.1 p.2.2.2.2.1) hval hW hwt
theorem uploadOver_proved : Rows.UploadOverSaid :=
  OpenClaim.holds_of_wide 8 Try.f8 rfl rfl rfl rfl rfl rfl rfl ⟨rfl, rfl, rfl, rfl, rfl⟩ rfl rfl rfl rfl rfl (by kernel_rfl) Try.func8 (by kernel_rfl)
    (of_decide_eq_true (by kernel_rfl)) (by unfold Func.isWrapper; first | (rw [if_pos (by decide +kernel)]; kernel_rfl) | (rw [if_neg (by decide +kernel)]; exact ⟨rfl, rfl⟩))
    (fun os started H enc _ => uploadOver_lifted os started H enc)
#print axioms uploadOver_proved
end Go.Proofs.Ytkcbjhjpepdkcaa
