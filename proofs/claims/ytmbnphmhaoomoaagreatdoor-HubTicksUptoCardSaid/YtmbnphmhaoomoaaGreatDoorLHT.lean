/-
  PROVED: tetherlaw.HubTicks returns true and leaves its arguments as they were, for whatever hub, number and name it is handed.
  Conditions: those of the given statement (Rows.HubTicksUptoCardSaid) alone: what the arguments hold is of bulk 1048576 at most; the listed package variables hold what the program's text lays.
-/
import Derived.Test.YtmbnphmhaoomoaaGreatDoorAX2
import Derived.Test.YtmbnphmhaoomoaaGreatDoorCards
import Derived.Test.YtmbnphmhaoomoaaGreatDoorTie
import Derived.OpenShut
set_option linter.unusedVariables false
set_option linter.unusedSimpArgs false
open Go Go.VM Go.VM.U Go.Proofs Tether
namespace Go.Proofs.YtmbnphmhaoomoaaGreatDoor
theorem hubTicks_met (os : Os) : laidMet Tryz.prog Rows.hubTicksUptoRow.laid ((Go.VM.Tryz.laidWorld os).forCall (fun _ _ => 0) ⟨#[], #[.agg #[.slice none 0 0, .slice none 0 0, .slice none 0 0, .int .i64 0, .int .i64 0, .int .i64 0, .int .i64 0], .int .i64 0, .string ⟨#[]⟩], []⟩).memory :=
  laidMet_of_run' 8 (by kernel_rfl) (by kernel_rfl)
theorem hubTicks_reads (os : Os) {H : Type} (enc : TypeId × Value → H) : ∃ places, DataW.whole enc Tryz.prog ((Go.VM.Tryz.laidWorld os).forCall (fun _ _ => 0) ⟨#[], #[.agg #[.slice none 0 0, .slice none 0 0, .slice none 0 0, .int .i64 0, .int .i64 0, .int .i64 0, .int .i64 0], .int .i64 0, .string ⟨#[]⟩], []⟩).memory Tryz.f10.params.toList Rows.hubTicksSpec.vars false (#[.agg #[.slice none 0 0, .slice none 0 0, .slice none 0 0, .int .i64 0, .int .i64 0, .int .i64 0, .int .i64 0], .int .i64 0, .string ⟨#[]⟩] : Array Value).toList 8 = some ([.agg [.nil, .nil, .agg [.nil, .lit (.int .i64 0), .lit (.int .i64 0), .lit (.int .i64 0)], .lit (.int .i64 0)], .lit (.int .i64 0), .lit (.string [])], [], places) :=
  ⟨[], by kernel_rfl⟩
set_option maxRecDepth 100000 in
theorem hubTicks_lifted (os : Os) (started : os.Started) (H : Type) (enc : TypeId × Value → H) (F : Stop.Interp) :
    ReturnsInHanded {} Tryz.checked os 10 .any ((Rows.OpenSpec.upto Rows.hubTicksSpec).preRow enc Tryz.prog Tryz.f10 Rows.hubTicksUptoRow.domain false Rows.hubTicksUptoRow.laid) (((Rows.OpenSpec.upto Rows.hubTicksSpec).at F).post enc Tryz.prog Tryz.f10 false true false false) := by
  obtain ⟨places, hx⟩ := hubTicks_reads os enc
  refine returnsInHanded_of_row (C := Tryz.checked) (s := Rows.OpenSpec.upto Rows.hubTicksSpec) Go.VM.Tryz.own started (by kernel_rfl) Tryz.func10
    (witness_row_at (enc := enc) (C := Tryz.checked) false (Go.VM.Tryz.laidWorld os) #[.agg #[.slice none 0 0, .slice none 0 0, .slice none 0 0, .int .i64 0, .int .i64 0, .int .i64 0, .int .i64 0], .int .i64 0, .string ⟨#[]⟩] rfl (by kernel_rfl) (by kernel_rfl) (by kernel_rfl)
      (OpenSpec.preRow_of_cond 8 hx (by kernel_rfl) (fun k hk => by cases hk; kernel_rfl) (by kernel_rfl) (hubTicks_met os))) ?_
  intro W base args ds gs before hval hW _ hcond _ hlaid _ _
  have hgt : GT Tryz.prog W := Go.VM.Tryz.gt_of hlaid (by kernel_rfl)
  have hb : bulkAll (ds ++ gs) ≤ upB := Go.VM.Tryz.upto_bulk (hcond _ rfl)
  have hr : ∀ t ∈ Tryz.f10.params.toList, Tryz.prog.readableRec t = true ∧ t < Tryz.prog.types.size := by
    intro t ht
    have : t ∈ [28, 3, 9] := ht
    simp only [List.mem_cons, List.not_mem_nil, or_false] at this
    rcases this with rfl | rfl | rfl <;> exact ⟨by kernel_rfl, of_decide_eq_true (by kernel_rfl)⟩
  exact post_true (P := Tryz.prog) (fn := Tryz.f10) (s := Rows.hubTicksSpec) (tb := 4)
    (fun H ds hl => by
      match ds, hl with
      | [_, _, _], _ => rfl) rfl rfl Tryz.underlying4 Go.VM.Tryz.laidOut hr
    (LRd.cons Go.VM.Tryz.ar_Hub (LRd.cons Go.VM.Tryz.ar_int (LRd.cons Go.VM.Tryz.ar_str LRd.nil)))
    (fun p h => Go.VM.Tryz.HubTicks_c p.1 p.2.1 p.2.2.1 h.1) hgt hval hW hb
theorem hubTicks_upto : Rows.HubTicksUptoSaid :=
  OpenClaim.holds_of_cond 10 Tryz.f10 rfl rfl rfl rfl rfl rfl rfl ⟨rfl, rfl, rfl, rfl, rfl⟩ rfl rfl rfl rfl rfl (by kernel_rfl) Tryz.func10 (by kernel_rfl)
    (of_decide_eq_true (by kernel_rfl)) (by unfold Func.isWrapper; first | (rw [if_pos (by decide +kernel)]; kernel_rfl) | (rw [if_neg (by decide +kernel)]; exact ⟨rfl, rfl⟩))
    (fun os started H enc _ F => by rw [OpenClaim.pre_eq_preRow]; exact hubTicks_lifted os started H enc F)
theorem hubTicks_plain (f : FuncId) (fn : Func) (hf : Tryz.pinned.checked.prog.funcNamed "tether/tetherlaw.HubTicks" = some f) (hfn : Tryz.pinned.checked.prog.funcs[f]? = some fn) :
    false = Tryz.pinned.checked.prog.looks [] ∧ ∀ (j : Nat) t, fn.params[j]? = some t → Tryz.pinned.checked.prog.wantsStandIn t = false := by
  obtain rfl : f = 10 := Option.some.inj ((show Tryz.prog.funcNamed "tether/tetherlaw.HubTicks" = some 10 by kernel_rfl).symm.trans hf) |>.symm
  obtain rfl : fn = Tryz.f10 := (Option.some.inj (Tryz.func10.symm.trans hfn)).symm
  refine ⟨by kernel_rfl, fun j t ht => ?_⟩
  have : t ∈ [28, 3, 9] := by simpa using Array.mem_of_getElem? ht
  simp only [List.mem_cons, List.not_mem_nil, or_false] at this
  rcases this with rfl | rfl | rfl
  · exact (show Tryz.prog.wantsStandIn 28 = false by kernel_rfl)
  · exact (show Tryz.prog.wantsStandIn 3 = false by kernel_rfl)
  · exact (show Tryz.prog.wantsStandIn 9 = false by kernel_rfl)
theorem hubTicks_proved : Rows.HubTicksUptoCardSaid :=
  Claim7.holds_tied_plain_at .later [] _ _ _ _ hubTicks_upto (fun _ h => by cases h) (by kernel_rfl) (fun _ h => by cases h) hubTicksUpto_row_tie rfl ⟨rfl, rfl⟩ (by kernel_rfl) rfl hubTicks_plain (by kernel_rfl)
#print axioms hubTicks_proved
end Go.Proofs.YtmbnphmhaoomoaaGreatDoor
