import Derived.Test.YtbeimhhhgjaaaaaDoorWV7
import Derived.Shelf.Strconv.Itoa3
section
set_option linter.unusedVariables false
set_option linter.unusedSimpArgs false
namespace Go.VM
variable {P : Program} {n : Nat} {E : Env} {H : Heap} {K : X → Env → Heap → Prop}
/-- what follows a piece of code, from a state that says less, under other numbers -/
theorem cx_joinq {a : Code} (E2 : Env) (H2 : Heap) (h : cx P n a E H fun x E' H' => (match x with
    | .normal => ∃ τ, subr n τ E2 H2 E' H'
    | x => K x E' H')) (hK : K .normal E2 H2) : cx P n a E H K := by
  intro F c ac hn hs he ha hok
  refine wpIn_mono (h F c ac hn hs he ha hok) fun e a' w' hq => ?_
  obtain ⟨F', fx, hq⟩ := hq
  cases e with
  | normal =>
    obtain ⟨c', E', H', rfl, h1, h2, h3, τ, h4⟩ := hq
    obtain ⟨k1, k2⟩ := subr_ok (hn.fx fx).le h1 h2 h4
    exact ⟨F', fx, c'.sel τ, E2, H2, rfl, k1, k2, h3, hK⟩
  | exit i => obtain ⟨c', E', H', h0, h1, h2, h3, h4⟩ := hq; exact ⟨F', fx, c', E', H', h0, h1, h2, h3, h4⟩
  | ret => obtain ⟨c', E', H', h0, h1, h2, h3, h4⟩ := hq; exact ⟨F', fx, c', E', H', h0, h1, h2, h3, h4⟩
  | goto l => exact hq.elim
  | panic ch => exact hq.elim
  | outgrown => exact hq.elim
end Go.VM
end
section
set_option linter.unusedVariables false
set_option linter.unusedSimpArgs false
namespace Go.VM
theorem tabIs_of {P : Program} {w : World} (h : GT P w) {g : Nat} (hg : P.globalNamed "internal/strconv.uint64pow10" = some g) : Lib.TabIs P w "internal/strconv.uint64pow10" .u64 Lib.pow10Tab := by
  obtain ⟨cs, h1, h2⟩ := h "internal/strconv.uint64pow10" (by simp [GN]) g hg
  rcases h2 with ⟨_, h2⟩ | ⟨h2, _⟩
  · rw [h2] at h1
    exact h1
  · exact absurd h2 (by decide)
/-- a contract of the library's kit that makes blocks of its own, in the executor's words -/
theorem meets_grow {P : Program} {f : Nat} {args : List V} {v : V} {us0 : Array Value} {u0 : Value} (hname : fbody P f = true) (hargs : ∀ (c : Ctx) (us : Array Value), us.size = args.length → (VRs c args fun j => us[j]?) → us = us0)
    (hv : ∀ c, VR c v u0) (h : ∀ w, GT P w → Calls P f us0 w fun e w' => e = .returned u0 ∧ ∃ k os, w' = Go.Sort.grow (w.drewN k) os) : Meets P f args v [] := by
  refine ⟨hname, fun w I gt hI us hsz hus => ?_⟩
  rw [hargs _ us hsz hus]
  refine Calls.mono (h w gt) ?_
  rintro e w' ⟨rfl, k, os, rfl⟩
  have hold : ∀ k', k' < w.heap.size → (Go.Sort.grow (w.drewN k) os).heap[k']? = w.heap[k']? := fun k' hk' => by
    show (w.heap ++ os)[k']? = w.heap[k']?
    rw [Array.getElem?_append_left hk']
  have hsize : w.heap.size ≤ (Go.Sort.grow (w.drewN k) os).heap.size := by
    show w.heap.size ≤ (w.heap ++ os).size
    simp
  refine ⟨⟨Go.Sort.grow (w.drewN k) os, I, []⟩, u0, rfl, rfl, ⟨⟨rfl, rfl, rfl, hsize, fun k' hk' _ => hold k' hk'⟩, ⟨fun r l h => h, fun b h => h, fun b hb => hold b (hI b hb)⟩, rfl, fun r b l h => by simp at h, fun r r' x x' b m m' h => by simp at h, fun b hb => Nat.lt_of_lt_of_le (hI b hb) hsize, fun b h => .inl h⟩, hv _⟩
theorem args1 {c : Ctx} {us : Array Value} {a : V} {x : Value} (hsz : us.size = 1) (h : VRs c [a] fun j => us[j]?) (ha : ∀ u, VR c a u → u = x) : us = #[x] := by
  simp only [VRs] at h
  obtain ⟨⟨u1, e1, h1⟩, _⟩ := h
  rw [ha _ h1] at e1
  apply Array.ext
  · simpa using hsz
  · intro i h1 h2
    have hi : i = 0 := by simp at h2; omega
    subst hi
    simpa [Array.getElem?_eq_some_iff, hsz] using e1
end Go.VM
end
