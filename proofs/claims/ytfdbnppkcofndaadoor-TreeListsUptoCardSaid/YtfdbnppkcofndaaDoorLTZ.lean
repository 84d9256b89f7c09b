/-
  PROVED: tetherlaw.TreeLists returns true and leaves its arguments as they were, for whatever tree and path it is handed.
  Conditions: those of the given statement (Rows.TreeListsUptoCardSaid) alone: what the arguments hold is of bulk 1048576 at most; the listed package variables hold what the program's text lays.
-/
import Derived.Test.YtfdbnppkcofndaaDoorSW6
import Derived.Test.YtfdbnppkcofndaaDoorSW7
import Derived.Test.YtfdbnppkcofndaaDoorCards
import Derived.Test.YtfdbnppkcofndaaDoorTie
import Derived.OpenShut
set_option linter.unusedVariables false
set_option linter.unusedSimpArgs false
open Go Go.VM Go.VM.U Go.Proofs Tether
namespace Go.Proofs.YtfdbnppkcofndaaDoor
theorem treeLists_met (os : Os) : laidMet Tryd.prog Rows.treeListsUptoRow.laid ((Go.VM.Tryd.laidWorld os).forCall (fun _ _ => 0) ⟨#[], #[.slice none 0 0, .string ⟨#[]⟩], []⟩).memory :=
  laidMet_of_run' 8 (by kernel_rfl) (by kernel_rfl)
theorem treeLists_reads (os : Os) {H : Type} (enc : TypeId × Value → H) : ∃ places, DataW.whole enc Tryd.prog ((Go.VM.Tryd.laidWorld os).forCall (fun _ _ => 0) ⟨#[], #[.slice none 0 0, .string ⟨#[]⟩], []⟩).memory Tryd.f14.params.toList Rows.treeListsSpec.vars false (#[.slice none 0 0, .string ⟨#[]⟩] : Array Value).toList 8 = some ([.nil, .lit (.string [])], [], places) :=
  ⟨[], by kernel_rfl⟩
set_option maxRecDepth 100000 in
theorem treeLists_lifted (os : Os) (started : os.Started) (H : Type) (enc : TypeId × Value → H) (F : Stop.Interp) :
    ReturnsInHanded {} Tryd.checked os 14 .any ((Rows.OpenSpec.upto Rows.treeListsSpec).preRow enc Tryd.prog Tryd.f14 Rows.treeListsUptoRow.domain false Rows.treeListsUptoRow.laid) (((Rows.OpenSpec.upto Rows.treeListsSpec).at F).post enc Tryd.prog Tryd.f14 false true false false) := by
  obtain ⟨places, hx⟩ := treeLists_reads os enc
  refine returnsInHanded_of_row (C := Tryd.checked) (s := Rows.OpenSpec.upto Rows.treeListsSpec) Go.VM.Tryd.own started (by kernel_rfl) Tryd.func14
    (witness_row_at (enc := enc) (C := Tryd.checked) false (Go.VM.Tryd.laidWorld os) #[.slice none 0 0, .string ⟨#[]⟩] rfl (by kernel_rfl) (by kernel_rfl) (by kernel_rfl)
      (OpenSpec.preRow_of_cond 8 hx (by kernel_rfl) (fun k hk => by cases hk; kernel_rfl) (by kernel_rfl) (treeLists_met os))) ?_
  intro W base args ds gs before hval hW _ hcond _ _ _ _
  have hb : bulkAll (ds ++ gs) ≤ upB := Go.VM.Tryd.upto_bulk (hcond _ rfl)
  have hr : ∀ t ∈ Tryd.f14.params.toList, Tryd.prog.readableRec t = true ∧ t < Tryd.prog.types.size := by
    intro t ht
    have : t ∈ [22, 9] := ht
    simp only [List.mem_cons, List.not_mem_nil, or_false] at this
    rcases this with rfl | rfl <;> exact ⟨by kernel_rfl, of_decide_eq_true (by kernel_rfl)⟩
  exact post_true (P := Tryd.prog) (fn := Tryd.f14) (s := Rows.treeListsSpec) (tb := 4)
    (fun H ds hl => by
      match ds, hl with
      | [_, _], _ => rfl) rfl rfl Tryd.underlying4 Go.VM.Tryd.laidOut hr
    (LRd.cons Go.VM.Tryd.ar_Entries (LRd.cons Go.VM.Tryd.ar_str LRd.nil))
    (fun p h => Go.VM.Tryd.TreeLists_c p.1 p.2.1 h.1 h.2.1) hval hW hb
theorem treeLists_upto : Rows.TreeListsUptoSaid :=
  OpenClaim.holds_of_cond 14 Tryd.f14 rfl rfl rfl rfl rfl rfl rfl ⟨rfl, rfl, rfl, rfl, rfl⟩ rfl rfl rfl rfl rfl (by kernel_rfl) Tryd.func14 (by kernel_rfl)
    (of_decide_eq_true (by kernel_rfl)) (by unfold Func.isWrapper; first | (rw [if_pos (by decide +kernel)]; kernel_rfl) | (rw [if_neg (by decide +kernel)]; exact ⟨rfl, rfl⟩))
    (fun os started H enc _ F => by rw [OpenClaim.pre_eq_preRow]; exact treeLists_lifted os started H enc F)
theorem treeLists_plain (f : FuncId) (fn : Func) (hf : Tryd.pinned.checked.prog.funcNamed "tether/tetherlaw.TreeLists" = some f) (hfn : Tryd.pinned.checked.prog.funcs[f]? = some fn) :
    false = Tryd.pinned.checked.prog.looks [] ∧ ∀ (j : Nat) t, fn.params[j]? = some t → Tryd.pinned.checked.prog.wantsStandIn t = false := by
  obtain rfl : f = 14 := Option.some.inj ((show Tryd.prog.funcNamed "tether/tetherlaw.TreeLists" = some 14 by kernel_rfl).symm.trans hf) |>.symm
  obtain rfl : fn = Tryd.f14 := (Option.some.inj (Tryd.func14.symm.trans hfn)).symm
  refine ⟨by kernel_rfl, fun j t ht => ?_⟩
  have : t ∈ [22, 9] := by simpa using Array.mem_of_getElem? ht
  simp only [List.mem_cons, List.not_mem_nil, or_false] at this
  rcases this with rfl | rfl
  · exact (show Tryd.prog.wantsStandIn 22 = false by kernel_rfl)
  · exact (show Tryd.prog.wantsStandIn 9 = false by kernel_rfl)
theorem treeLists_proved : Rows.TreeListsUptoCardSaid :=
  Claim7.holds_tied_plain_at .later [] _ _ _ _ treeLists_upto (fun _ h => by cases h) (by kernel_rfl) (fun _ h => by cases h) treeListsUpto_row_tie rfl ⟨rfl, rfl⟩ (by kernel_rfl) rfl treeLists_plain (by kernel_rfl)
#print axioms treeLists_proved
end Go.Proofs.YtfdbnppkcofndaaDoor
