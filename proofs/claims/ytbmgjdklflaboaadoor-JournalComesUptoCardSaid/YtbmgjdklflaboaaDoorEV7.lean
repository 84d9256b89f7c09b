import Derived.Test.YtbmgjdklflaboaaDoorEV6
set_option linter.unusedVariables false
set_option linter.unusedSimpArgs false
namespace Go.VM
section
variable {P : Program} {n : Nat}
theorem spl_one_length : ∀ (cs : List V) (j : Nat) (x : V), (spl cs j [x]).length = cs.length
  | [], j, x => by simp [spl]
  | y :: cs, 0, x => by cases cs <;> simp [spl]
  | y :: cs, j + 1, x => by simp [spl, spl_one_length cs j x]
theorem VRs_one {c : Ctx} {x y : V} (hxy : ∀ u, VR c y u → VR c x u) : ∀ (cs : List V) (j : Nat) (g : Nat → Option Value), cs[j]? = some y → VRs c cs g → VRs c (spl cs j [x]) g
  | [], j, g, h, _ => by simp at h
  | z :: cs, 0, g, h, hs => by
    simp only [List.getElem?_cons_zero, Option.some.injEq] at h
    subst h
    simp only [VRs] at hs
    obtain ⟨⟨u, h1, h2⟩, h3⟩ := hs
    have : spl (z :: cs) 0 [x] = x :: cs := by cases cs <;> simp [spl]
    rw [this]
    simp only [VRs]
    exact ⟨⟨u, h1, hxy u h2⟩, h3⟩
  | z :: cs, j + 1, g, h, hs => by
    simp only [VRs] at hs
    simp only [spl, VRs]
    exact ⟨hs.1, VRs_one hxy cs j _ (by simpa using h) hs.2⟩
/-- a slice in a box that is nil is one of the call's own, too -/
theorem cx_virtB {code : Code} {E : Env} {H : Heap} {K : X → Env → Heap → Prop} (r j e : Nat) (f : Nat → List V) (cs : List V) (hr : hget H r = .box cs) (hj : cs[j]? = some .nil)
    (h : cx P n code E (hadd (hset H r (.box (spl cs j [.own (some true) (hlen H) e 0 0 .loose]))) (.arr e 0 f)) K) : cx P n code E H K :=
  fun F c a hF hs he ha hok => by
    obtain ⟨h1, h2⟩ := hs.virt e f
    rw [hlen_eq, hadd_eq] at h
    have hl := hget_live hr trivial
    have hrl : r < H.length := by
      rcases Nat.lt_or_ge r H.length with h | h
      · exact h
      · rw [List.getElem?_eq_none h] at hl; cases hl
    refine h F { c with locs := c.locs ++ [none] } a hF ?_ (ER_mono h2 he) ha hok
    have hget : ∀ i, (hset H r (.box (spl cs j [.own (some true) H.length e 0 0 .loose])) ++ [Blk.arr e 0 f])[i]? = if i = r then some (.box (spl cs j [.own (some true) H.length e 0 0 .loose])) else (H ++ [Blk.arr e 0 f])[i]? := by
      intro i
      by_cases hi : i < H.length
      · rw [List.getElem?_append_left (by rw [hset_length]; exact hi), hset_get, List.getElem?_append_left hi]
        by_cases hir : i = r
        · rw [if_pos ⟨hir, hrl⟩, if_pos hir]
        · rw [if_neg (fun h => hir h.1), if_neg hir]
      · rw [List.getElem?_append_right (by rw [hset_length]; omega), hset_length, List.getElem?_append_right (by omega), if_neg (by omega)]
    refine ⟨h1.fr, h1.le, by have := h1.len; simp [hset_length] at this ⊢; exact this, fun i b l hi hl' => ?_, fun i i' x x' b m m' hi hi' hx hx' hl hl' => ?_, h1.imm, h1.old⟩
    · rw [hget] at hi
      split at hi
      · rename_i hir
        subst hir
        cases hi
        have hH : (H ++ [Blk.arr e 0 f])[i]? = some (.box cs) := by rw [List.getElem?_append_left hrl]; exact hl
        have := h1.blk i _ l hH hl'
        cases l with
        | none => exact this.elim
        | some l =>
          intro _
          obtain ⟨O, g1, ⟨C, el, rfl, g2, g3, g4⟩, g5, g6⟩ := this trivial
          refine ⟨_, g1, ⟨C, el, rfl, by rw [spl_one_length]; exact g2, by rw [spl_one_length]; exact g3, VRs_one (y := .nil) (fun u hu => ?_) cs j _ hj g4⟩, g5, g6⟩
          simp only [VR] at hu
          rw [hu]
          simp only [VR]
          refine ⟨none, 0, rfl, ⟨Nat.le_refl _, fun C h => by cases h⟩, (fun h => by cases h), (fun b hb => by cases hb; simp), ?_⟩
          show match (c.locs ++ [none])[H.length]? with | some (some (b, m)) => _ | some none => _ | none => _
          rw [List.getElem?_append_right (by rw [hs.len]; exact Nat.le_refl _)]
          simp [hs.len]
      · exact h1.blk i b l hi hl'
    · have key : ∀ (q : Nat) (y : Blk), (hset H r (.box (spl cs j [.own (some true) H.length e 0 0 .loose])) ++ [Blk.arr e 0 f])[q]? = some y → Live y → ∃ z, (H ++ [Blk.arr e 0 f])[q]? = some z ∧ Live z := by
        intro q y hq hy
        rw [hget] at hq
        split at hq
        · rename_i hqr
          subst hqr
          exact ⟨.box cs, by rw [List.getElem?_append_left hrl]; exact hl, trivial⟩
        · exact ⟨y, hq, hy⟩
      obtain ⟨z, z1, z2⟩ := key i x hi hx
      obtain ⟨z', z1', z2'⟩ := key i' x' hi' hx'
      exact h1.inj i i' z z' b m m' z1 z1' z2 z2' (by assumption) (by assumption)
end
end Go.VM
