import Derived.Test.YtkcbjhjpepdkcaaVMf
set_option linter.unusedVariables false
set_option linter.unusedSimpArgs false
set_option linter.unnecessarySimpa false
namespace Go.VM
theorem Le.ofBare (c : Ctx) : Le c.bare c := ⟨fun r x e => by simp at e, fun _ h => h, fun _ _ => rfl⟩
theorem VRs.ofBare {c : Ctx} {vs : List V} {g : Nat → Option Value} (h : VRs { c with locs := [] } vs g) : VRs c vs g :=
  VRs_mono (Le.ofBare c) vs g g (fun _ _ h => h) h
theorem cell_row {w : World} {b o : Nat} {C : Array Value} {el : TypeId} {fr : Nat × Nat} (h : w.heap[b]? = some (.cells C el fr)) : w.cell? ⟨b, o, none⟩ = C[o]? := by
  simp [World.cell?, h]
theorem hget_live {H : Heap} {r : Nat} {x : Blk} (h : hget H r = x) (hx : Live x) : H[r]? = some x := by
  by_cases hr : r < H.length
  · rw [hget_eq H r hr, h]
  · rw [hget_out H r hr] at h; subst h; exact hx.elim
section
variable {P : Program} {F : Fr} {c : Ctx} {H : Heap}
theorem load_ok (hs : SR F c H) {T : Nat} {x z : V} {u : Value} (hx : VR c x u) (h : (load (ti P T) H x).has z) : ∃ r, (Instr.loadAt T u).run P c.w = .ok r c.w ∧ VR c z r := by
  unfold load at h
  split at h
  · rename_i r off
    simp only [VR] at hx
    split at hx
    · rename_i b m hr
      subst hx
      split at h
      · rename_i cs hb
        obtain ⟨h1, h2⟩ := hs.get hr
        rw [hb] at h2
        obtain ⟨C, el, g1, ⟨g2, g3, g4⟩, _⟩ := h2 trivial
        have := loadV_ok (P := P) (w := c.w) (b := b) (o := 0) g4 g3 (fun j x _ hj => by rw [Nat.zero_add, cell_row g1]; exact hj) h
        obtain ⟨u, hu, hv⟩ := this
        exact ⟨u, by simpa [Instr.loadAt, Instr.sureAddr] using hu, hv⟩
      · exact h.elim
    · exact hx.elim
  · rename_i r e i off
    simp only [VR] at hx
    split at hx
    · rename_i b m hr
      subst hx
      split at h
      · rename_i e' n f hb
        obtain ⟨h1, h2⟩ := hs.get hr
        rw [hb] at h2
        obtain ⟨C, el, g1, ⟨g2, g3, g4⟩, _⟩ := h2 trivial
        cases hbb : Nat.beq e e' with
        | false => rw [hbb] at h; exact h.elim
        | true =>
          rw [hbb] at h
          obtain rfl := beq_nat hbb
          dsimp only [cond] at h
          split at h
          · rename_i v hv
            obtain ⟨hi, rfl⟩ := h
            obtain ⟨k1, k2, k3⟩ := g4 i hi
            have := loadV_ok (P := P) (T := T) (off := off) (z := z) (w := c.w) (b := b) (o := i * e) k3 (by rw [k1]; exact k2) (fun j x _ hj => by rw [cell_row g1]; exact hj) (by rw [hv]; rfl)
            obtain ⟨u, hu, hv⟩ := this
            exact ⟨u, by simpa [Instr.loadAt, Instr.sureAddr] using hu, hv⟩
          · exact h.elim
      · exact h.elim
    · exact hx.elim
  · rename_i cs off
    simp only [VR] at hx
    obtain ⟨b, o, rfl, h1, h2, h3⟩ := hx
    have := loadV_ok (P := P) (w := c.w) (b := b) (o := o) (VRs.ofBare h3) h2 (fun j x _ hj => hj) h
    obtain ⟨u, hu, hv⟩ := this
    exact ⟨u, by simpa [Instr.loadAt, Instr.sureAddr] using hu, hv⟩
  · exact h.elim
theorem one_ok {x : V} {u : Value} (hx : VR c x u) (ho : u.oneCell' = true) (hc : u.cells = #[u]) : u.cells.size = [x].length ∧ One [x].length (fun j => u.cells[j]?) ∧ VRs c [x] fun j => u.cells[j]? := by
  rw [hc]
  refine ⟨rfl, fun j y hj hy => ?_, ?_⟩
  · have : j = 0 := by simp at hj; exact hj
    subst this
    simp at hy; subst hy; exact ho
  · simp only [VRs]
    exact ⟨⟨u, by simp, hx⟩, trivial⟩
theorem scalar_ok {x : V} {u : Value} (hx : VR c x u) (h : match x with | .bad | .agg _ | .tup _ => False | _ => True) : u.oneCell' = true ∧ u.cells = #[u] := by
  cases x <;> first
    | exact h.elim
    | (simp only [VR] at hx; first
        | (subst hx; exact ⟨rfl, rfl⟩)
        | (obtain ⟨_, _, rfl, _⟩ := hx; exact ⟨rfl, rfl⟩)
        | (split at hx <;> first | exact hx.elim | (subst hx; exact ⟨rfl, rfl⟩)))
theorem cells_ok {x : V} {u : Value} {cs : List V} (hx : VR c x u) (h : cellsOf x = some cs) : u.cells.size = cs.length ∧ One cs.length (fun j => u.cells[j]?) ∧ VRs c cs fun j => u.cells[j]? := by
  cases x <;> simp only [cellsOf, Option.some.injEq, reduceCtorEq] at h <;> first
    | (subst h
       obtain ⟨h1, h2⟩ := scalar_ok hx trivial
       exact one_ok hx h1 h2)
    | (subst h
       simp only [VR] at hx
       obtain ⟨us, rfl, h1, h2, h3⟩ := hx
       exact ⟨h1, h2, h3⟩)
theorem boxV_ok {T : Nat} {x : V} {u : Value} {cs : List V} (hx : VR c x u) (h : boxV (ti P T) x = some cs) :
    u.cells.size = cs.length ∧ One cs.length (fun j => u.cells[j]?) ∧ (VRs c cs fun j => u.cells[j]?) ∧ (∃ i, P.info? T = some i) ∧ cs.length = tsize P T := by
  unfold boxV at h
  dsimp only [ti] at h
  split at h
  · rename_i hT
    split at h
    · rename_i cs'
      cases hb : Nat.beq (len cs') (tsize P T) with
      | false => rw [hb] at h; cases h
      | true =>
        rw [hb] at h
        cases h
        obtain ⟨a1, a2, a3⟩ := cells_ok hx (cs := cs) rfl
        exact ⟨a1, a2, a3, tagg_info hT, by rw [← len_eq]; exact beq_nat hb⟩
    · cases h
  · rename_i hT
    cases hb : Nat.beq (tsize P T) 1 with
    | false => rw [hb] at h; cases h
    | true =>
      rw [hb] at h
      dsimp only [cond] at h
      have hc : cellsOf x = some cs := by
        cases x <;> simp_all [cellsOf]
      have hl : cs.length = 1 := by
        cases x <;> simp_all <;> (subst h; rfl)
      obtain ⟨a1, a2, a3⟩ := cells_ok hx hc
      exact ⟨a1, a2, a3, tagg_info hT, by rw [beq_nat hb]; exact hl⟩
  · cases h
end
end Go.VM
