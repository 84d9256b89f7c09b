/-
  PROVED: tetherlaw.HubChecks returns true and leaves its arguments as they were, for whatever hub it is handed.
  Conditions: those of the given statement (Rows.HubChecksUptoCardSaid) alone: what the arguments hold is of bulk 1048576 at most; the listed package variables hold what the program's text lays.
-/
import Derived.Test.YtmbnphmhaoomoaaGreatDoorAX2
import Derived.Test.YtmbnphmhaoomoaaGreatDoorCards
import Derived.Test.YtmbnphmhaoomoaaGreatDoorTie
import Derived.OpenShut
set_option linter.unusedVariables false
set_option linter.unusedSimpArgs false
open Go Go.VM Go.VM.U Go.Proofs Tether
namespace Go.Proofs.YtmbnphmhaoomoaaGreatDoor
theorem hubChecks_met (os : Os) : laidMet Tryz.prog Rows.hubChecksUptoRow.laid ((Go.VM.Tryz.laidWorld os).forCall (fun _ _ => 0) ⟨#[], #[.agg #[.slice none 0 0, .slice none 0 0, .slice none 0 0, .int .i64 0, .int .i64 0, .int .i64 0, .int .i64 0]], []⟩).memory :=
  laidMet_of_run' 8 (by kernel_rfl) (by kernel_rfl)
theorem hubChecks_reads (os : Os) {H : Type} (enc : TypeId × Value → H) : ∃ places, DataW.whole enc Tryz.prog ((Go.VM.Tryz.laidWorld os).forCall (fun _ _ => 0) ⟨#[], #[.agg #[.slice none 0 0, .slice none 0 0, .slice none 0 0, .int .i64 0, .int .i64 0, .int .i64 0, .int .i64 0]], []⟩).memory Tryz.f4.params.toList Rows.hubChecksSpec.vars false (#[.agg #[.slice none 0 0, .slice none 0 0, .slice none 0 0, .int .i64 0, .int .i64 0, .int .i64 0, .int .i64 0]] : Array Value).toList 8 = some ([.agg [.nil, .nil, .agg [.nil, .lit (.int .i64 0), .lit (.int .i64 0), .lit (.int .i64 0)], .lit (.int .i64 0)]], [], places) :=
  ⟨[], by kernel_rfl⟩
set_option maxRecDepth 100000 in
theorem hubChecks_lifted (os : Os) (started : os.Started) (H : Type) (enc : TypeId × Value → H) (F : Stop.Interp) :
    ReturnsInHanded {} Tryz.checked os 4 .any ((Rows.OpenSpec.upto Rows.hubChecksSpec).preRow enc Tryz.prog Tryz.f4 Rows.hubChecksUptoRow.domain false Rows.hubChecksUptoRow.laid) (((Rows.OpenSpec.upto Rows.hubChecksSpec).at F).post enc Tryz.prog Tryz.f4 false true false false) := by
  obtain ⟨places, hx⟩ := hubChecks_reads os enc
  refine returnsInHanded_of_row (C := Tryz.checked) (s := Rows.OpenSpec.upto Rows.hubChecksSpec) Go.VM.Tryz.own started (by kernel_rfl) Tryz.func4
    (witness_row_at (enc := enc) (C := Tryz.checked) false (Go.VM.Tryz.laidWorld os) #[.agg #[.slice none 0 0, .slice none 0 0, .slice none 0 0, .int .i64 0, .int .i64 0, .int .i64 0, .int .i64 0]] rfl (by kernel_rfl) (by kernel_rfl) (by kernel_rfl)
      (OpenSpec.preRow_of_cond 8 hx (by kernel_rfl) (fun k hk => by cases hk; kernel_rfl) (by kernel_rfl) (hubChecks_met os))) ?_
  intro W base args ds gs before hval hW _ hcond _ hlaid _ _
  have hgt : GT Tryz.prog W := Go.VM.Tryz.gt_of hlaid (by kernel_rfl)
  have hb : bulkAll (ds ++ gs) ≤ upB := Go.VM.Tryz.upto_bulk (hcond _ rfl)
  have hr : ∀ t ∈ Tryz.f4.params.toList, Tryz.prog.readableRec t = true ∧ t < Tryz.prog.types.size := by
    intro t ht
    have : t ∈ [28] := ht
    simp only [List.mem_cons, List.not_mem_nil, or_false] at this
    rcases this with rfl <;> exact ⟨by kernel_rfl, of_decide_eq_true (by kernel_rfl)⟩
  exact post_true (P := Tryz.prog) (fn := Tryz.f4) (s := Rows.hubChecksSpec) (tb := 4)
    (fun H ds hl => by
      match ds, hl with
      | [_], _ => rfl) rfl rfl Tryz.underlying4 Go.VM.Tryz.laidOut hr
    (LRd.cons Go.VM.Tryz.ar_Hub LRd.nil)
    (fun p h => Go.VM.Tryz.HubChecks_c p.1 h.1) hgt hval hW hb
theorem hubChecks_upto : Rows.HubChecksUptoSaid :=
  OpenClaim.holds_of_cond 4 Tryz.f4 rfl rfl rfl rfl rfl rfl rfl ⟨rfl, rfl, rfl, rfl, rfl⟩ rfl rfl rfl rfl rfl (by kernel_rfl) Tryz.func4 (by kernel_rfl)
    (of_decide_eq_true (by kernel_rfl)) (by unfold Func.isWrapper; first | (rw [if_pos (by decide +kernel)]; kernel_rfl) | (rw [if_neg (by decide +kernel)]; exact ⟨rfl, rfl⟩))
    (fun os started H enc _ F => by rw [OpenClaim.pre_eq_preRow]; exact hubChecks_lifted os started H enc F)
theorem hubChecks_plain (f : FuncId) (fn : Func) (hf : Tryz.pinned.checked.prog.funcNamed "tether/tetherlaw.HubChecks" = some f) (hfn : Tryz.pinned.checked.prog.funcs[f]? = some fn) :
    false = Tryz.pinned.checked.prog.looks [] ∧ ∀ (j : Nat) t, fn.params[j]? = some t → Tryz.pinned.checked.prog.wantsStandIn t = false := by
  obtain rfl : f = 4 := Option.some.inj ((show Tryz.prog.funcNamed "tether/tetherlaw.HubChecks" = some 4 by kernel_rfl).symm.trans hf) |>.symm
  obtain rfl : fn = Tryz.f4 := (Option.some.inj (Tryz.func4.symm.trans hfn)).symm
  refine ⟨by kernel_rfl, fun j t ht => ?_⟩
  have : t ∈ [28] := by simpa using Array.mem_of_getElem? ht
  simp only [List.mem_cons, List.not_mem_nil, or_false] at this
  rcases this with rfl
  · exact (show Tryz.prog.wantsStandIn 28 = false by kernel_rfl)
theorem hubChecks_proved : Rows.HubChecksUptoCardSaid :=
  Claim7.holds_tied_plain_at .later [] _ _ _ _ hubChecks_upto (fun _ h => by cases h) (by kernel_rfl) (fun _ h => by cases h) hubChecksUpto_row_tie rfl ⟨rfl, rfl⟩ (by kernel_rfl) rfl hubChecks_plain (by kernel_rfl)
#print axioms hubChecks_proved
end Go.Proofs.YtmbnphmhaoomoaaGreatDoor
