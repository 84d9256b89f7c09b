/-
  PROVED: tetherlaw.UploadWhole returns true and leaves its arguments as they were, for whatever name, text, cuts and number it is handed.
  Conditions: those of the given statement (Rows.UploadWholeSaid) alone: what its row takes (among them that no list and no text is larger than memory can hold).
-/
import Derived.Test.YtkcbjhjpepdkcaaW3
import Derived.Test.YtkcbjhjpepdkcaaW4
import Derived.Test.YtkcbjhjpepdkcaaRows
import Derived.Handed
set_option linter.unusedVariables false
set_option linter.unusedSimpArgs false
open Go Go.VM Go.Proofs Tether
namespace Go.Proofs.Ytkcbjhjpepdkcaa
set_option maxRecDepth 100000 in
theorem uploadWhole_lifted (os : Os) (started : os.Started) (H : Type) (enc : TypeId × Value → H) :
    ReturnsInHanded {} Try.checked os 7 .any (Rows.uploadWholeSpec.pre6 enc Try.prog Try.f7 Rows.uploadWholeRow.domain false) (Rows.uploadWholeSpec.post enc Try.prog Try.f7 false true false false) := by
  refine returnsInHanded_of_change_sized (C := Try.checked) Go.VM.Try.own started (by kernel_rfl) Try.func7
    (ChangeSpec.witness6 (enc := enc) (C := Try.checked) false ⟨#[], #[.string ⟨#[]⟩, .string ⟨#[]⟩, .slice none 0 0, .int .i64 0], []⟩ 8 (by kernel_rfl) (by kernel_rfl) (by kernel_rfl) (by kernel_rfl)) ?_
  intro W base args ds gs before hval hW _ hwt _
  have hr : ∀ t ∈ Try.f7.params.toList, Try.prog.readableRec t = true ∧ t < Try.prog.types.size := by
    intro t ht
    have : t ∈ [9, 9, 45, 3] := ht
    simp only [List.mem_cons, List.not_mem_nil, or_false] at this
    rcases this with rfl | rfl | rfl | rfl <;> exact ⟨by kernel_rfl, of_decide_eq_true (by kernel_rfl)⟩
  exact post_true (P := Try.prog) (fn := Try.f7) (s := Rows.uploadWholeSpec) (tb := 4)
    (fun H ds hl => by
      match ds, hl with
      | [_, _, _, _], _ => rfl) rfl rfl Try.underlying4 Go.VM.Try.laidOut hr
    (LRd.cons Go.VM.Try.ar_str (LRd.cons Go.VM.Try.ar_str (LRd.cons Go.VM.Try.ar_ints (LRd.cons Go.VM.Try.ar_int LRd.nil))))
    (fun p h => Go.VM.Try.UploadWhole_c p.1 p.2.1 (Nat.lt_of_le_of_lt h.1 (by have := Go.VM.Try.reach_lt; omega)) (Nat.lt_of_le_of_lt h.2.1 (by have := Go.VM.Try.reach_lt; omega)) p.2.2.1 (by have := h.2.2.1.1; have := Go.VM.Try.reach_lt; omega) (fun n hn => Go.VM.Try.wf_range (h.2.2.1.2 n hn)) p.2.2.2.1 (Go.VM.Try.wf_range h.2.2.2.1).1 (Go.VM.Try.wf_range h.2.2.2.1).2) hval hW hwt
theorem uploadWhole_proved : Rows.UploadWholeSaid :=
  OpenClaim.holds_of_wide 7 Try.f7 rfl rfl rfl rfl rfl rfl rfl ⟨rfl, rfl, rfl, rfl, rfl⟩ rfl rfl rfl rfl rfl (by kernel_rfl) Try.func7 (by kernel_rfl)
    (of_decide_eq_true (by kernel_rfl)) (by unfold Func.isWrapper; first | (rw [if_pos (by decide +kernel)]; kernel_rfl) | (rw [if_neg (by decide +kernel)]; exact ⟨rfl, rfl⟩))
    (fun os started H enc _ => uploadWhole_lifted os started H enc)
#print axioms uploadWhole_proved
end Go.Proofs.Ytkcbjhjpepdkcaa
