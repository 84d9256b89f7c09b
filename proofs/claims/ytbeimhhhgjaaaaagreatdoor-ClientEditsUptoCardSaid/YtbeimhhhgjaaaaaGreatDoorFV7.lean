import Derived.Test.YtbeimhhhgjaaaaaGreatDoorFV6
set_option linter.unusedVariables false
set_option linter.unusedSimpArgs false
namespace Go.VM
variable {P : Program} {n : Nat} {E : Env} {H : Heap} {K : X → Env → Heap → Prop}
/-- what follows a piece of code, from a state that says less, under other numbers -/
theorem cx_joinq {a : Code} (E2 : Env) (H2 : Heap) (h : cx P n a E H fun x E' H' => (match x with
    | .normal => ∃ τ, subr n τ E2 H2 E' H'
    | x => K x E' H')) (hK : K .normal E2 H2) : cx P n a E H K := by
  intro F c ac hn hs he ha hok
  refine wpIn_mono (h F c ac hn hs he ha hok) fun e a' w' hq => ?_
  obtain ⟨F', fx, hq⟩ := hq
  cases e with
  | normal =>
    obtain ⟨c', E', H', rfl, h1, h2, h3, τ, h4⟩ := hq
    obtain ⟨k1, k2⟩ := subr_ok (by rw [fx.locs]; exact hn) h1 h2 h4
    exact ⟨F', fx, c'.sel τ, E2, H2, rfl, k1, k2, h3, hK⟩
  | exit i => obtain ⟨c', E', H', h0, h1, h2, h3, h4⟩ := hq; exact ⟨F', fx, c', E', H', h0, h1, h2, h3, h4⟩
  | ret => obtain ⟨c', E', H', h0, h1, h2, h3, h4⟩ := hq; exact ⟨F', fx, c', E', H', h0, h1, h2, h3, h4⟩
  | goto l => exact hq.elim
  | panic ch => exact hq.elim
  | outgrown => exact hq.elim
end Go.VM
