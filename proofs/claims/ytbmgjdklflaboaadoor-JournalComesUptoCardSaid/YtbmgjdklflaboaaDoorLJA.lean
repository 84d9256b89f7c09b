/-
  PROVED: tetherlaw.JournalComes returns true and leaves its arguments as they were, for whatever journal and numbers it is handed.
  Conditions: those of the given statement (Rows.JournalComesUptoCardSaid) alone: what the arguments hold is of bulk 1048576 at most; the listed package variables hold what the program's text lays.
-/
import Derived.Test.YtbmgjdklflaboaaDoorEW7
import Derived.Test.YtbmgjdklflaboaaDoorEW8
import Derived.Test.YtbmgjdklflaboaaDoorCards
import Derived.Test.YtbmgjdklflaboaaDoorTie
import Derived.OpenShut
set_option linter.unusedVariables false
set_option linter.unusedSimpArgs false
open Go Go.VM Go.VM.U Go.Proofs Tether
namespace Go.Proofs.YtbmgjdklflaboaaDoor
theorem journalComes_met (os : Os) : laidMet Tryd.prog Rows.journalComesUptoRow.laid ((Go.VM.Tryd.laidWorld os).forCall (fun _ _ => 0) ⟨#[], #[.agg #[.slice none 0 0, .int .i64 0, .slice none 0 0], .int .i64 0, .int .i64 0], []⟩).memory :=
  laidMet_of_run' 8 (by kernel_rfl) (by kernel_rfl)
theorem journalComes_reads (os : Os) {H : Type} (enc : TypeId × Value → H) : ∃ places, DataW.whole enc Tryd.prog ((Go.VM.Tryd.laidWorld os).forCall (fun _ _ => 0) ⟨#[], #[.agg #[.slice none 0 0, .int .i64 0, .slice none 0 0], .int .i64 0, .int .i64 0], []⟩).memory Tryd.f9.params.toList Rows.journalComesSpec.vars false (#[.agg #[.slice none 0 0, .int .i64 0, .slice none 0 0], .int .i64 0, .int .i64 0] : Array Value).toList 8 = some ([.agg [.nil, .lit (.int .i64 0), .nil], .lit (.int .i64 0), .lit (.int .i64 0)], [], places) :=
  ⟨[], by kernel_rfl⟩
set_option maxRecDepth 100000 in
theorem journalComes_lifted (os : Os) (started : os.Started) (H : Type) (enc : TypeId × Value → H) (F : Stop.Interp) :
    ReturnsInHanded {} Tryd.checked os 9 .any ((Rows.OpenSpec.upto Rows.journalComesSpec).preRow enc Tryd.prog Tryd.f9 Rows.journalComesUptoRow.domain false Rows.journalComesUptoRow.laid) (((Rows.OpenSpec.upto Rows.journalComesSpec).at F).post enc Tryd.prog Tryd.f9 false true false false) := by
  obtain ⟨places, hx⟩ := journalComes_reads os enc
  refine returnsInHanded_of_row (C := Tryd.checked) (s := Rows.OpenSpec.upto Rows.journalComesSpec) Go.VM.Tryd.own started (by kernel_rfl) Tryd.func9
    (witness_row_at (enc := enc) (C := Tryd.checked) false (Go.VM.Tryd.laidWorld os) #[.agg #[.slice none 0 0, .int .i64 0, .slice none 0 0], .int .i64 0, .int .i64 0] rfl (by kernel_rfl) (by kernel_rfl) (by kernel_rfl)
      (OpenSpec.preRow_of_cond 8 hx (by kernel_rfl) (fun k hk => by cases hk; kernel_rfl) (by kernel_rfl) (journalComes_met os))) ?_
  intro W base args ds gs before hval hW _ hcond _ _ _ _
  have hb : bulkAll (ds ++ gs) ≤ upB := Go.VM.Tryd.upto_bulk (hcond _ rfl)
  have hr : ∀ t ∈ Tryd.f9.params.toList, Tryd.prog.readableRec t = true ∧ t < Tryd.prog.types.size := by
    intro t ht
    have : t ∈ [25, 3, 3] := ht
    simp only [List.mem_cons, List.not_mem_nil, or_false] at this
    rcases this with rfl | rfl | rfl <;> exact ⟨by kernel_rfl, of_decide_eq_true (by kernel_rfl)⟩
  exact post_true (P := Tryd.prog) (fn := Tryd.f9) (s := Rows.journalComesSpec) (tb := 4)
    (fun H ds hl => by
      match ds, hl with
      | [_, _, _], _ => rfl) rfl rfl Tryd.underlying4 Go.VM.Tryd.laidOut hr
    (LRd.cons Go.VM.Tryd.ar_Journal (LRd.cons Go.VM.Tryd.ar_int (LRd.cons Go.VM.Tryd.ar_int LRd.nil)))
    (fun p h => Go.VM.Tryd.JournalComes_c p.1 p.2.1 p.2.2.1 h.1 (Go.VM.Tryd.wf_range h.2.1).1 (Go.VM.Tryd.wf_range h.2.1).2 (Go.VM.Tryd.wf_range h.2.2.1).1 (Go.VM.Tryd.wf_range h.2.2.1).2) hval hW hb
theorem journalComes_upto : Rows.JournalComesUptoSaid :=
  OpenClaim.holds_of_cond 9 Tryd.f9 rfl rfl rfl rfl rfl rfl rfl ⟨rfl, rfl, rfl, rfl, rfl⟩ rfl rfl rfl rfl rfl (by kernel_rfl) Tryd.func9 (by kernel_rfl)
    (of_decide_eq_true (by kernel_rfl)) (by unfold Func.isWrapper; first | (rw [if_pos (by decide +kernel)]; kernel_rfl) | (rw [if_neg (by decide +kernel)]; exact ⟨rfl, rfl⟩))
    (fun os started H enc _ F => by rw [OpenClaim.pre_eq_preRow]; exact journalComes_lifted os started H enc F)
theorem journalComes_plain (f : FuncId) (fn : Func) (hf : Tryd.pinned.checked.prog.funcNamed "tether/tetherlaw.JournalComes" = some f) (hfn : Tryd.pinned.checked.prog.funcs[f]? = some fn) :
    false = Tryd.pinned.checked.prog.looks [] ∧ ∀ (j : Nat) t, fn.params[j]? = some t → Tryd.pinned.checked.prog.wantsStandIn t = false := by
  obtain rfl : f = 9 := Option.some.inj ((show Tryd.prog.funcNamed "tether/tetherlaw.JournalComes" = some 9 by kernel_rfl).symm.trans hf) |>.symm
  obtain rfl : fn = Tryd.f9 := (Option.some.inj (Tryd.func9.symm.trans hfn)).symm
  refine ⟨by kernel_rfl, fun j t ht => ?_⟩
  have : t ∈ [25, 3, 3] := by simpa using Array.mem_of_getElem? ht
  simp only [List.mem_cons, List.not_mem_nil, or_false] at this
  rcases this with rfl | rfl | rfl
  · exact (show Tryd.prog.wantsStandIn 25 = false by kernel_rfl)
  · exact (show Tryd.prog.wantsStandIn 3 = false by kernel_rfl)
  · exact (show Tryd.prog.wantsStandIn 3 = false by kernel_rfl)
theorem journalComes_proved : Rows.JournalComesUptoCardSaid :=
  Claim7.holds_tied_plain_at .later [] _ _ _ _ journalComes_upto (fun _ h => by cases h) (by kernel_rfl) (fun _ h => by cases h) journalComesUpto_row_tie rfl ⟨rfl, rfl⟩ (by kernel_rfl) rfl journalComes_plain (by kernel_rfl)
#print axioms journalComes_proved
end Go.Proofs.YtbmgjdklflaboaaDoor
