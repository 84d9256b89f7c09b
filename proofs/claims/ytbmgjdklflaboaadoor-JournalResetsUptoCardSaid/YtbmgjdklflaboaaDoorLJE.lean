/-
  PROVED: tetherlaw.JournalResets returns true and leaves its arguments as they were, for whatever journal, cursor and tree it is handed.
  Conditions: those of the given statement (Rows.JournalResetsUptoCardSaid) alone: what the arguments hold is of bulk 1048576 at most; the listed package variables hold what the program's text lays.
-/
import Derived.Test.YtbmgjdklflaboaaDoorEW7
import Derived.Test.YtbmgjdklflaboaaDoorEW8
import Derived.Test.YtbmgjdklflaboaaDoorCards
import Derived.Test.YtbmgjdklflaboaaDoorTie
import Derived.OpenShut
set_option linter.unusedVariables false
set_option linter.unusedSimpArgs false
open Go Go.VM Go.VM.U Go.Proofs Tether
namespace Go.Proofs.YtbmgjdklflaboaaDoor
theorem journalResets_met (os : Os) : laidMet Tryd.prog Rows.journalResetsUptoRow.laid ((Go.VM.Tryd.laidWorld os).forCall (fun _ _ => 0) ⟨#[], #[.agg #[.slice none 0 0, .int .i64 0, .slice none 0 0], .int .i64 0, .slice none 0 0], []⟩).memory :=
  laidMet_of_run' 8 (by kernel_rfl) (by kernel_rfl)
theorem journalResets_reads (os : Os) {H : Type} (enc : TypeId × Value → H) : ∃ places, DataW.whole enc Tryd.prog ((Go.VM.Tryd.laidWorld os).forCall (fun _ _ => 0) ⟨#[], #[.agg #[.slice none 0 0, .int .i64 0, .slice none 0 0], .int .i64 0, .slice none 0 0], []⟩).memory Tryd.f8.params.toList Rows.journalResetsSpec.vars false (#[.agg #[.slice none 0 0, .int .i64 0, .slice none 0 0], .int .i64 0, .slice none 0 0] : Array Value).toList 8 = some ([.agg [.nil, .lit (.int .i64 0), .nil], .lit (.int .i64 0), .nil], [], places) :=
  ⟨[], by kernel_rfl⟩
set_option maxRecDepth 100000 in
theorem journalResets_lifted (os : Os) (started : os.Started) (H : Type) (enc : TypeId × Value → H) (F : Stop.Interp) :
    ReturnsInHanded {} Tryd.checked os 8 .any ((Rows.OpenSpec.upto Rows.journalResetsSpec).preRow enc Tryd.prog Tryd.f8 Rows.journalResetsUptoRow.domain false Rows.journalResetsUptoRow.laid) (((Rows.OpenSpec.upto Rows.journalResetsSpec).at F).post enc Tryd.prog Tryd.f8 false true false false) := by
  obtain ⟨places, hx⟩ := journalResets_reads os enc
  refine returnsInHanded_of_row (C := Tryd.checked) (s := Rows.OpenSpec.upto Rows.journalResetsSpec) Go.VM.Tryd.own started (by kernel_rfl) Tryd.func8
    (witness_row_at (enc := enc) (C := Tryd.checked) false (Go.VM.Tryd.laidWorld os) #[.agg #[.slice none 0 0, .int .i64 0, .slice none 0 0], .int .i64 0, .slice none 0 0] rfl (by kernel_rfl) (by kernel_rfl) (by kernel_rfl)
      (OpenSpec.preRow_of_cond 8 hx (by kernel_rfl) (fun k hk => by cases hk; kernel_rfl) (by kernel_rfl) (journalResets_met os))) ?_
  intro W base args ds gs before hval hW _ hcond _ _ _ _
  have hb : bulkAll (ds ++ gs) ≤ upB := Go.VM.Tryd.upto_bulk (hcond _ rfl)
  have hr : ∀ t ∈ Tryd.f8.params.toList, Tryd.prog.readableRec t = true ∧ t < Tryd.prog.types.size := by
    intro t ht
    have : t ∈ [25, 3, 22] := ht
    simp only [List.mem_cons, List.not_mem_nil, or_false] at this
    rcases this with rfl | rfl | rfl <;> exact ⟨by kernel_rfl, of_decide_eq_true (by kernel_rfl)⟩
  exact post_true (P := Tryd.prog) (fn := Tryd.f8) (s := Rows.journalResetsSpec) (tb := 4)
    (fun H ds hl => by
      match ds, hl with
      | [_, _, _], _ => rfl) rfl rfl Tryd.underlying4 Go.VM.Tryd.laidOut hr
    (LRd.cons Go.VM.Tryd.ar_Journal (LRd.cons Go.VM.Tryd.ar_int (LRd.cons Go.VM.Tryd.ar_Entries LRd.nil)))
    (fun p h => Go.VM.Tryd.JournalResets_c p.1 p.2.1 p.2.2.1 h.1 (Go.VM.Tryd.wf_range h.2.1).1 (Go.VM.Tryd.wf_range h.2.1).2 h.2.2.1) hval hW hb
theorem journalResets_upto : Rows.JournalResetsUptoSaid :=
  OpenClaim.holds_of_cond 8 Tryd.f8 rfl rfl rfl rfl rfl rfl rfl ⟨rfl, rfl, rfl, rfl, rfl⟩ rfl rfl rfl rfl rfl (by kernel_rfl) Tryd.func8 (by kernel_rfl)
    (of_decide_eq_true (by kernel_rfl)) (by unfold Func.isWrapper; first | (rw [if_pos (by decide +kernel)]; kernel_rfl) | (rw [if_neg (by decide +kernel)]; exact ⟨rfl, rfl⟩))
    (fun os started H enc _ F => by rw [OpenClaim.pre_eq_preRow]; exact journalResets_lifted os started H enc F)
theorem journalResets_plain (f : FuncId) (fn : Func) (hf : Tryd.pinned.checked.prog.funcNamed "tether/tetherlaw.JournalResets" = some f) (hfn : Tryd.pinned.checked.prog.funcs[f]? = some fn) :
    false = Tryd.pinned.checked.prog.looks [] ∧ ∀ (j : Nat) t, fn.params[j]? = some t → Tryd.pinned.checked.prog.wantsStandIn t = false := by
  obtain rfl : f = 8 := Option.some.inj ((show Tryd.prog.funcNamed "tether/tetherlaw.JournalResets" = some 8 by kernel_rfl).symm.trans hf) |>.symm
  obtain rfl : fn = Tryd.f8 := (Option.some.inj (Tryd.func8.symm.trans hfn)).symm
  refine ⟨by kernel_rfl, fun j t ht => ?_⟩
  have : t ∈ [25, 3, 22] := by simpa using Array.mem_of_getElem? ht
  simp only [List.mem_cons, List.not_mem_nil, or_false] at this
  rcases this with rfl | rfl | rfl
  · exact (show Tryd.prog.wantsStandIn 25 = false by kernel_rfl)
  · exact (show Tryd.prog.wantsStandIn 3 = false by kernel_rfl)
  · exact (show Tryd.prog.wantsStandIn 22 = false by kernel_rfl)
theorem journalResets_proved : Rows.JournalResetsUptoCardSaid :=
  Claim7.holds_tied_plain_at .later [] _ _ _ _ journalResets_upto (fun _ h => by cases h) (by kernel_rfl) (fun _ h => by cases h) journalResetsUpto_row_tie rfl ⟨rfl, rfl⟩ (by kernel_rfl) rfl journalResets_plain (by kernel_rfl)
#print axioms journalResets_proved
end Go.Proofs.YtbmgjdklflaboaaDoor
