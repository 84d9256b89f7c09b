/-
  PROVED: tetherlaw.JournalFollows returns true and leaves its arguments as they were, for whatever tree, cursor and page it is handed.
  Conditions: those of the given statement (Rows.JournalFollowsUptoCardSaid) alone: what the arguments hold is of bulk 1048576 at most; the listed package variables hold what the program's text lays.
-/
import Derived.Test.YtbmgjdklflaboaaDoorEW7
import Derived.Test.YtbmgjdklflaboaaDoorEW8
import Derived.Test.YtbmgjdklflaboaaDoorCards
import Derived.Test.YtbmgjdklflaboaaDoorTie
import Derived.OpenShut
set_option linter.unusedVariables false
set_option linter.unusedSimpArgs false
open Go Go.VM Go.VM.U Go.Proofs Tether
namespace Go.Proofs.YtbmgjdklflaboaaDoor
theorem journalFollows_met (os : Os) : laidMet Tryd.prog Rows.journalFollowsUptoRow.laid ((Go.VM.Tryd.laidWorld os).forCall (fun _ _ => 0) ⟨#[], #[.slice none 0 0, .int .i64 0, .agg #[.bool false, .slice none 0 0, .slice none 0 0, .int .i64 0, .bool false]], []⟩).memory :=
  laidMet_of_run' 8 (by kernel_rfl) (by kernel_rfl)
theorem journalFollows_reads (os : Os) {H : Type} (enc : TypeId × Value → H) : ∃ places, DataW.whole enc Tryd.prog ((Go.VM.Tryd.laidWorld os).forCall (fun _ _ => 0) ⟨#[], #[.slice none 0 0, .int .i64 0, .agg #[.bool false, .slice none 0 0, .slice none 0 0, .int .i64 0, .bool false]], []⟩).memory Tryd.f7.params.toList Rows.journalFollowsSpec.vars false (#[.slice none 0 0, .int .i64 0, .agg #[.bool false, .slice none 0 0, .slice none 0 0, .int .i64 0, .bool false]] : Array Value).toList 8 = some ([.nil, .lit (.int .i64 0), .agg [.lit (.bool false), .nil, .nil, .lit (.int .i64 0), .lit (.bool false)]], [], places) :=
  ⟨[], by kernel_rfl⟩
set_option maxRecDepth 100000 in
theorem journalFollows_lifted (os : Os) (started : os.Started) (H : Type) (enc : TypeId × Value → H) (F : Stop.Interp) :
    ReturnsInHanded {} Tryd.checked os 7 .any ((Rows.OpenSpec.upto Rows.journalFollowsSpec).preRow enc Tryd.prog Tryd.f7 Rows.journalFollowsUptoRow.domain false Rows.journalFollowsUptoRow.laid) (((Rows.OpenSpec.upto Rows.journalFollowsSpec).at F).post enc Tryd.prog Tryd.f7 false true false false) := by
  obtain ⟨places, hx⟩ := journalFollows_reads os enc
  refine returnsInHanded_of_row (C := Tryd.checked) (s := Rows.OpenSpec.upto Rows.journalFollowsSpec) Go.VM.Tryd.own started (by kernel_rfl) Tryd.func7
    (witness_row_at (enc := enc) (C := Tryd.checked) false (Go.VM.Tryd.laidWorld os) #[.slice none 0 0, .int .i64 0, .agg #[.bool false, .slice none 0 0, .slice none 0 0, .int .i64 0, .bool false]] rfl (by kernel_rfl) (by kernel_rfl) (by kernel_rfl)
      (OpenSpec.preRow_of_cond 8 hx (by kernel_rfl) (fun k hk => by cases hk; kernel_rfl) (by kernel_rfl) (journalFollows_met os))) ?_
  intro W base args ds gs before hval hW _ hcond _ _ _ _
  have hb : bulkAll (ds ++ gs) ≤ upB := Go.VM.Tryd.upto_bulk (hcond _ rfl)
  have hr : ∀ t ∈ Tryd.f7.params.toList, Tryd.prog.readableRec t = true ∧ t < Tryd.prog.types.size := by
    intro t ht
    have : t ∈ [22, 3, 35] := ht
    simp only [List.mem_cons, List.not_mem_nil, or_false] at this
    rcases this with rfl | rfl | rfl <;> exact ⟨by kernel_rfl, of_decide_eq_true (by kernel_rfl)⟩
  exact post_true (P := Tryd.prog) (fn := Tryd.f7) (s := Rows.journalFollowsSpec) (tb := 4)
    (fun H ds hl => by
      match ds, hl with
      | [_, _, _], _ => rfl) rfl rfl Tryd.underlying4 Go.VM.Tryd.laidOut hr
    (LRd.cons Go.VM.Tryd.ar_Entries (LRd.cons Go.VM.Tryd.ar_int (LRd.cons Go.VM.Tryd.ar_Page LRd.nil)))
    (fun p h => Go.VM.Tryd.JournalFollows_c p.1 p.2.1 p.2.2.1 h.1 h.2.2.1) hval hW hb
theorem journalFollows_upto : Rows.JournalFollowsUptoSaid :=
  OpenClaim.holds_of_cond 7 Tryd.f7 rfl rfl rfl rfl rfl rfl rfl ⟨rfl, rfl, rfl, rfl, rfl⟩ rfl rfl rfl rfl rfl (by kernel_rfl) Tryd.func7 (by kernel_rfl)
    (of_decide_eq_true (by kernel_rfl)) (by unfold Func.isWrapper; first | (rw [if_pos (by decide +kernel)]; kernel_rfl) | (rw [if_neg (by decide +kernel)]; exact ⟨rfl, rfl⟩))
    (fun os started H enc _ F => by rw [OpenClaim.pre_eq_preRow]; exact journalFollows_lifted os started H enc F)
theorem journalFollows_plain (f : FuncId) (fn : Func) (hf : Tryd.pinned.checked.prog.funcNamed "tether/tetherlaw.JournalFollows" = some f) (hfn : Tryd.pinned.checked.prog.funcs[f]? = some fn) :
    false = Tryd.pinned.checked.prog.looks [] ∧ ∀ (j : Nat) t, fn.params[j]? = some t → Tryd.pinned.checked.prog.wantsStandIn t = false := by
  obtain rfl : f = 7 := Option.some.inj ((show Tryd.prog.funcNamed "tether/tetherlaw.JournalFollows" = some 7 by kernel_rfl).symm.trans hf) |>.symm
  obtain rfl : fn = Tryd.f7 := (Option.some.inj (Tryd.func7.symm.trans hfn)).symm
  refine ⟨by kernel_rfl, fun j t ht => ?_⟩
  have : t ∈ [22, 3, 35] := by simpa using Array.mem_of_getElem? ht
  simp only [List.mem_cons, List.not_mem_nil, or_false] at this
  rcases this with rfl | rfl | rfl
  · exact (show Tryd.prog.wantsStandIn 22 = false by kernel_rfl)
  · exact (show Tryd.prog.wantsStandIn 3 = false by kernel_rfl)
  · exact (show Tryd.prog.wantsStandIn 35 = false by kernel_rfl)
theorem journalFollows_proved : Rows.JournalFollowsUptoCardSaid :=
  Claim7.holds_tied_plain_at .later [] _ _ _ _ journalFollows_upto (fun _ h => by cases h) (by kernel_rfl) (fun _ h => by cases h) journalFollowsUpto_row_tie rfl ⟨rfl, rfl⟩ (by kernel_rfl) rfl journalFollows_plain (by kernel_rfl)
#print axioms journalFollows_proved
end Go.Proofs.YtbmgjdklflaboaaDoor
