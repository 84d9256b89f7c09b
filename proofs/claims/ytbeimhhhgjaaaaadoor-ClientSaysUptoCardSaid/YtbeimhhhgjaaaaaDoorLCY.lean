/-
  PROVED: tetherlaw.ClientSays returns true and leaves its arguments as they were, for whatever client it is handed.
  Conditions: those of the given statement (Rows.ClientSaysUptoCardSaid) alone: what the arguments hold is of bulk 1048576 at most; the listed package variables hold what the program's text lays.
-/
import Derived.Test.YtbeimhhhgjaaaaaDoorWW6
import Derived.Test.YtbeimhhhgjaaaaaDoorWW7
import Derived.Test.YtbeimhhhgjaaaaaDoorCards
import Derived.Test.YtbeimhhhgjaaaaaDoorTie
import Derived.OpenShut
set_option linter.unusedVariables false
set_option linter.unusedSimpArgs false
open Go Go.VM Go.VM.U Go.Proofs Tether
namespace Go.Proofs.YtbeimhhhgjaaaaaDoor
theorem clientSays_met (os : Os) : laidMet Tryd.prog Rows.clientSaysUptoRow.laid ((Go.VM.Tryd.laidWorld os).forCall (fun _ _ => 0) ⟨#[], #[.agg #[.string ⟨#[]⟩, .string ⟨#[]⟩, .slice none 0 0, .int .i64 0, .slice none 0 0, .string ⟨#[]⟩, .slice none 0 0, .int .i64 0]], []⟩).memory :=
  laidMet_of_run' 8 (by kernel_rfl) (by kernel_rfl)
theorem clientSays_reads (os : Os) {H : Type} (enc : TypeId × Value → H) : ∃ places, DataW.whole enc Tryd.prog ((Go.VM.Tryd.laidWorld os).forCall (fun _ _ => 0) ⟨#[], #[.agg #[.string ⟨#[]⟩, .string ⟨#[]⟩, .slice none 0 0, .int .i64 0, .slice none 0 0, .string ⟨#[]⟩, .slice none 0 0, .int .i64 0]], []⟩).memory Tryd.f4.params.toList Rows.clientSaysSpec.vars false (#[.agg #[.string ⟨#[]⟩, .string ⟨#[]⟩, .slice none 0 0, .int .i64 0, .slice none 0 0, .string ⟨#[]⟩, .slice none 0 0, .int .i64 0]] : Array Value).toList 8 = some ([.agg [.lit (.string []), .lit (.string []), .nil, .lit (.int .i64 0), .nil, .lit (.string []), .nil, .lit (.int .i64 0)]], [], places) :=
  ⟨[], by kernel_rfl⟩
set_option maxRecDepth 100000 in
theorem clientSays_lifted (os : Os) (started : os.Started) (H : Type) (enc : TypeId × Value → H) (F : Stop.Interp) :
    ReturnsInHanded {} Tryd.checked os 4 .any ((Rows.OpenSpec.upto Rows.clientSaysSpec).preRow enc Tryd.prog Tryd.f4 Rows.clientSaysUptoRow.domain false Rows.clientSaysUptoRow.laid) (((Rows.OpenSpec.upto Rows.clientSaysSpec).at F).post enc Tryd.prog Tryd.f4 false true false false) := by
  obtain ⟨places, hx⟩ := clientSays_reads os enc
  refine returnsInHanded_of_row (C := Tryd.checked) (s := Rows.OpenSpec.upto Rows.clientSaysSpec) Go.VM.Tryd.own started (by kernel_rfl) Tryd.func4
    (witness_row_at (enc := enc) (C := Tryd.checked) false (Go.VM.Tryd.laidWorld os) #[.agg #[.string ⟨#[]⟩, .string ⟨#[]⟩, .slice none 0 0, .int .i64 0, .slice none 0 0, .string ⟨#[]⟩, .slice none 0 0, .int .i64 0]] rfl (by kernel_rfl) (by kernel_rfl) (by kernel_rfl)
      (OpenSpec.preRow_of_cond 8 hx (by kernel_rfl) (fun k hk => by cases hk; kernel_rfl) (by kernel_rfl) (clientSays_met os))) ?_
  intro W base args ds gs before hval hW _ hcond _ hlaid _ _
  have hgt : GT Tryd.prog W := Go.VM.Tryd.gt_of hlaid (by kernel_rfl)
  have hb : bulkAll (ds ++ gs) ≤ upB := Go.VM.Tryd.upto_bulk (hcond _ rfl)
  have hr : ∀ t ∈ Tryd.f4.params.toList, Tryd.prog.readableRec t = true ∧ t < Tryd.prog.types.size := by
    intro t ht
    have : t ∈ [25] := ht
    simp only [List.mem_cons, List.not_mem_nil, or_false] at this
    rcases this with rfl <;> exact ⟨by kernel_rfl, of_decide_eq_true (by kernel_rfl)⟩
  exact post_true (P := Tryd.prog) (fn := Tryd.f4) (s := Rows.clientSaysSpec) (tb := 4)
    (fun H ds hl => by
      match ds, hl with
      | [_], _ => rfl) rfl rfl Tryd.underlying4 Go.VM.Tryd.laidOut hr
    (LRd.cons Go.VM.Tryd.ar_Client LRd.nil)
    (fun p h => Go.VM.Tryd.ClientSays_c p.1 h.1) hgt hval hW hb
theorem clientSays_upto : Rows.ClientSaysUptoSaid :=
  OpenClaim.holds_of_cond 4 Tryd.f4 rfl rfl rfl rfl rfl rfl rfl ⟨rfl, rfl, rfl, rfl, rfl⟩ rfl rfl rfl rfl rfl (by kernel_rfl) Tryd.func4 (by kernel_rfl)
    (of_decide_eq_true (by kernel_rfl)) (by unfold Func.isWrapper; first | (rw [if_pos (by decide +kernel)]; kernel_rfl) | (rw [if_neg (by decide +kernel)]; exact ⟨rfl, rfl⟩))
    (fun os started H enc _ F => by rw [OpenClaim.pre_eq_preRow]; exact clientSays_lifted os started H enc F)
theorem clientSays_plain (f : FuncId) (fn : Func) (hf : Tryd.pinned.checked.prog.funcNamed "tether/tetherlaw.ClientSays" = some f) (hfn : Tryd.pinned.checked.prog.funcs[f]? = some fn) :
    false = Tryd.pinned.checked.prog.looks [] ∧ ∀ (j : Nat) t, fn.params[j]? = some t → Tryd.pinned.checked.prog.wantsStandIn t = false := by
  obtain rfl : f = 4 := Option.some.inj ((show Tryd.prog.funcNamed "tether/tetherlaw.ClientSays" = some 4 by kernel_rfl).symm.trans hf) |>.symm
  obtain rfl : fn = Tryd.f4 := (Option.some.inj (Tryd.func4.symm.trans hfn)).symm
  refine ⟨by kernel_rfl, fun j t ht => ?_⟩
  have : t ∈ [25] := by simpa using Array.mem_of_getElem? ht
  simp only [List.mem_cons, List.not_mem_nil, or_false] at this
  rcases this with rfl
  · exact (show Tryd.prog.wantsStandIn 25 = false by kernel_rfl)
theorem clientSays_proved : Rows.ClientSaysUptoCardSaid :=
  Claim7.holds_tied_plain_at .later [] _ _ _ _ clientSays_upto (fun _ h => by cases h) (by kernel_rfl) (fun _ h => by cases h) clientSaysUpto_row_tie rfl ⟨rfl, rfl⟩ (by kernel_rfl) rfl clientSays_plain (by kernel_rfl)
#print axioms clientSays_proved
end Go.Proofs.YtbeimhhhgjaaaaaDoor
