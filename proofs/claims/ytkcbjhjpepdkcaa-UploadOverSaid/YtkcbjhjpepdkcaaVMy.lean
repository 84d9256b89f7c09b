import Derived.Test.YtkcbjhjpepdkcaaVMw
set_option linter.unusedVariables false
set_option linter.unusedSimpArgs false
namespace Go.VM
theorem bsel_and (c a : Bool) : bsel c a false = (c && a) := by unfold bsel; cases c <;> rfl
theorem bsel_or (c a : Bool) : bsel c true a = (c || a) := by unfold bsel; cases c <;> rfl
theorem hget_nil (r : Nat) : hget [] r = .dead := by cases r <;> rfl
mutual
theorem frW_flat (g : List V → List V) (σ : List Nat) (H : Heap) (top : Bool) : ∀ v : V, flat v = true → frW top g σ H v = v
  | .bool _, _ | .int _ _, _ | .str _, _ | .nil, _ => by simp only [frW]
  | .agg cs, h => by simp only [frW, frWs_flat g σ H top cs (by simpa [flat] using h)]
  | .tup cs, h => by simp only [frW, frWs_flat g σ H top cs (by simpa [flat] using h)]
  | .bad, h | .lst _ _ _ _ _, h | .own _ _ _ _ _ _, h | .ptr _ _, h | .eptr _ _ _ _, h | .iptr _ _, h | .fn _ _ _, h => by simp [flat] at h
theorem frWs_flat (g : List V → List V) (σ : List Nat) (H : Heap) (top : Bool) : ∀ vs : List V, flats vs = true → frWs top g σ H vs = vs
  | [], _ => by simp only [frWs]
  | v :: vs, h => by
    simp only [flats] at h
    simp only [frWs, frW_flat g σ H top v (band_true h).1, frWs_flat g σ H top vs (band_true h).2]
end
mutual
theorem okW_flat (g : List V → Prop) (σ : List Nat) (H : Heap) : ∀ v : V, flat v = true → okW g σ H v
  | .bool _, _ | .int _ _, _ | .str _, _ | .nil, _ => by simp only [okW]
  | .agg cs, h => by simp only [okW]; exact okWs_flat g σ H cs (by simpa [flat] using h)
  | .tup cs, h => by simp only [okW]; exact okWs_flat g σ H cs (by simpa [flat] using h)
  | .bad, h | .lst _ _ _ _ _, h | .own _ _ _ _ _ _, h | .ptr _ _, h | .eptr _ _ _ _, h | .iptr _ _, h | .fn _ _ _, h => by simp [flat] at h
theorem okWs_flat (g : List V → Prop) (σ : List Nat) (H : Heap) : ∀ vs : List V, flats vs = true → okWs g σ H vs
  | [], _ => by simp only [okWs]
  | v :: vs, h => by
    simp only [flats] at h
    simp only [okWs]
    exact ⟨okW_flat g σ H v (band_true h).1, okWs_flat g σ H vs (band_true h).2⟩
end
/-- a call's end whose value leads nowhere -/
theorem fin_flat {v x : V} {H : Heap} (hf : flat x = true) (h : x = v) : fin 0 [] v [] x H := by
  subst h
  exact ⟨rfl, trivial, okW_flat _ _ _ _ hf, frW_flat _ _ _ _ _ hf, rfl⟩
end Go.VM
namespace Go.VM
theorem wrap64 {x : Int} (h1 : -9223372036854775808 ≤ x) (h2 : x ≤ 9223372036854775807) : IntKind.i64.wrap x = x := by
  simp only [IntKind.wrap, IntKind.signed, IntKind.bits]
  simp
  omega
end Go.VM
namespace Go.VM
/-- a contract of the library's kit, in the executor's words -/
theorem meets_pure {P : Program} {f : Nat} {args : List V} {v : V} {us0 : Array Value} {u0 : Value} (hname : fbody P f = true) (hargs : ∀ (c : Ctx) (us : Array Value), us.size = args.length → (VRs c args fun j => us[j]?) → us = us0)
    (hv : ∀ c, VR c v u0) (h : ∀ w, Calls P f us0 w fun e w' => e = .returned u0 ∧ w' = w) : Meets P f args v [] := by
  refine ⟨hname, fun w I hI us hsz hus => ?_⟩
  rw [hargs _ us hsz hus]
  refine Calls.mono (h w) ?_
  rintro e w' ⟨rfl, rfl⟩
  exact ⟨⟨w', I, []⟩, u0, rfl, rfl, ⟨⟨rfl, rfl, rfl, Nat.le_refl _, fun _ _ _ => rfl⟩, Le.refl _, rfl, fun r b l h => by simp at h, fun r r' x x' b m m' h => by simp at h, hI, fun b h => .inl h⟩, hv _⟩
theorem args2 {c : Ctx} {us : Array Value} {a b : V} {x y : Value} (hsz : us.size = 2) (h : VRs c [a, b] fun j => us[j]?) (ha : ∀ u, VR c a u → u = x) (hb : ∀ u, VR c b u → u = y) : us = #[x, y] := by
  simp only [VRs] at h
  obtain ⟨⟨u1, e1, h1⟩, ⟨u2, e2, h2⟩, _⟩ := h
  rw [ha _ h1] at e1
  rw [hb _ h2] at e2
  apply Array.ext
  · simpa using hsz
  · intro i h1 h2
    have hi : i < 2 := by omega
    match i, hi with
    | 0, _ => simpa [Array.getElem?_eq_some_iff, hsz] using e1
    | 1, _ => simpa [Array.getElem?_eq_some_iff, hsz] using e2
end Go.VM
