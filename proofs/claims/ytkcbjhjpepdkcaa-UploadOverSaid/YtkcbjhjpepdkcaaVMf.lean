import Derived.Test.YtkcbjhjpepdkcaaVMe
import Derived.Laws.Rows
set_option linter.unusedVariables false
set_option linter.unusedSimpArgs false
set_option linter.unnecessarySimpa false
namespace Go.VM
theorem One.mono {n : Nat} {g g' : Nat → Option Value} (h : One n g) (hg : ∀ j, j < n → g' j = g j) : One n g' :=
  fun j x hj hx => h j x hj ((hg j hj).symm.trans hx)
theorem Cont.mono {c c' : Ctx} (h : Le c c') {C : Array Value} {cap : Nat} {x : Blk} (H : Cont c C cap x) : Cont c' C cap x := by
  cases x with
  | box cs => exact ⟨H.1, H.2.1, VRs_mono h _ _ _ (fun _ _ h => h) H.2.2⟩
  | arr e n f => exact ⟨H.1, H.2.1, fun i hi => ⟨(H.2.2 i hi).1, (H.2.2 i hi).2.1, VRs_mono h _ _ _ (fun _ _ h => h) (H.2.2 i hi).2.2⟩⟩
  | dead => trivial
theorem BlkOk.mono {F : Fr} {c c' : Ctx} (h : Le c c') {x : Blk} {l : Option (Nat × Nat)} (H : BlkOk F c x l) (hw : ∀ b m, l = some (b, m) → Live x → c'.w.heap[b]? = c.w.heap[b]? ∧ ¬ c'.I b) : BlkOk F c' x l := by
  cases l with
  | none => exact H
  | some l =>
    obtain ⟨b, m⟩ := l
    intro hl
    obtain ⟨C, el, h1, h2, h3, h4⟩ := H hl
    obtain ⟨e1, e2⟩ := hw b m rfl hl
    exact ⟨C, el, e1.trans h1, h2.mono h, e2, h4⟩
section
variable {P : Program} {F : Fr} {c : Ctx} {H : Heap}
theorem SR.lt {r : Nat} (h : SR F c H) {x : Option (Nat × Nat)} (hr : c.locs[r]? = some x) : r < H.length := by
  rw [← h.len]; exact (List.getElem?_eq_some_iff.1 hr).1
theorem SR.get {r : Nat} (h : SR F c H) {l : Option (Nat × Nat)} (hr : c.locs[r]? = some l) : H[r]? = some (hget H r) ∧ BlkOk F c (hget H r) l := by
  have h1 := hget_eq H r (h.lt hr)
  exact ⟨h1, h.blk r _ l h1 hr⟩
theorem Wr.new {b : Nat} (h : FR F c.w) (hb : c.w.heap.size ≤ b) : Wr F b := .inl (Nat.le_trans h.size hb)
/-- a new block -/
theorem SR.new (h : SR F c H) (x : Blk) (C : Array Value) (el : TypeId) (cap : Nat) (hC : Cont c C cap x) :
    SR F ⟨c.w.alloc (.cells C el), c.I, c.locs ++ [some (c.w.heap.size, cap)]⟩ (H ++ [x]) ∧ Le c ⟨c.w.alloc (.cells C el), c.I, c.locs ++ [some (c.w.heap.size, cap)]⟩ := by
  have hle : Le c ⟨c.w.alloc (.cells C el), c.I, c.locs ++ [some (c.w.heap.size, cap)]⟩ :=
    ⟨fun r x e => by rw [List.getElem?_append_left (List.getElem?_eq_some_iff.1 e).1]; exact e, fun _ h => h, fun b hb => heap_alloc_old _ _ _ (h.imm b hb)⟩
  refine ⟨⟨?_, h.le.trans hle, by simp [h.len], ?_, ?_, (fun b hb => by have := h.imm b hb; simp; omega), h.old⟩, hle⟩
  · exact ⟨h.fr.os, h.fr.tape, h.fr.output, by have := h.fr.size; simp; omega, fun k hk hx => by
      show (c.w.alloc _).heap[k]? = _
      rw [heap_alloc_old _ _ _ (by have := h.fr.size; omega)]; exact h.fr.block k hk hx⟩
  · intro r y l hr hl
    by_cases hlt : r < H.length
    · rw [List.getElem?_append_left hlt] at hr
      rw [List.getElem?_append_left (by rw [h.len]; exact hlt)] at hl
      refine (h.blk r y l hr hl).mono hle fun b m e hlive => ?_
      subst e
      obtain ⟨C', el', h1, _, h3, _⟩ := h.blk r y _ hr hl hlive
      exact ⟨heap_alloc_old _ _ _ (Array.getElem?_eq_some_iff.1 h1).1, h3⟩
    · have hlen := h.len
      have : r = H.length := by
        have := (List.getElem?_eq_some_iff.1 hr).1
        simp at this; omega
      subst this
      simp at hr
      rw [List.getElem?_append_right (by omega)] at hl
      simp [hlen] at hl
      subst hr hl
      intro _
      refine ⟨C, el, heap_alloc_new _ _, hC.mono hle, fun hi => ?_, .inl h.fr.size⟩
      have := h.imm _ hi
      omega
  · intro r r' y y' b m m' hr hr' hy hy' hl hl'
    have hlen := h.len
    have key : ∀ (r : Nat) (y : Blk) (b m : Nat), (H ++ [x])[r]? = some y → (c.locs ++ [some (c.w.heap.size, cap)])[r]? = some (some (b, m)) → (H[r]? = some y ∧ c.locs[r]? = some (some (b, m))) ∨ (r = H.length ∧ b = c.w.heap.size) := by
      intro r y b m hr hl
      by_cases hlt : r < H.length
      · rw [List.getElem?_append_left hlt] at hr
        rw [List.getElem?_append_left (by omega)] at hl
        exact .inl ⟨hr, hl⟩
      · have : r = H.length := by
          have := (List.getElem?_eq_some_iff.1 hr).1
          simp at this; omega
        subst this
        rw [List.getElem?_append_right (by omega)] at hl
        simp [hlen] at hl
        exact .inr ⟨rfl, hl.1.symm⟩
    have hlt : ∀ (r : Nat) (y : Blk) (b m : Nat), H[r]? = some y → Live y → c.locs[r]? = some (some (b, m)) → b < c.w.heap.size := by
      intro r y b m hr hy hl
      obtain ⟨C', el', h1, _⟩ := h.blk r y _ hr hl hy
      exact (Array.getElem?_eq_some_iff.1 h1).1
    rcases key r y b m hr hl with ⟨a1, a2⟩ | ⟨a1, a2⟩ <;> rcases key r' y' b m' hr' hl' with ⟨b1, b2⟩ | ⟨b1, b2⟩
    · exact h.inj r r' y y' b m m' a1 b1 hy hy' a2 b2
    · have := hlt r y b m a1 hy a2; omega
    · have := hlt r' y' b m' b1 hy' b2; omega
    · omega
/-- a draw -/
theorem SR.drew (h : SR F c H) : SR F { c with w := c.w.drew } H ∧ Le c { c with w := c.w.drew } := by
  have hle : Le c { c with w := c.w.drew } := ⟨fun _ _ e => e, fun _ h => h, fun _ _ => rfl⟩
  refine ⟨⟨⟨h.fr.os, h.fr.tape, h.fr.output, h.fr.size, h.fr.block⟩, h.le.trans hle, h.len, fun r y l hr hl => (h.blk r y l hr hl).mono hle fun b m e hlive => ?_, h.inj, h.imm, h.old⟩, hle⟩
  subst e
  obtain ⟨C', el', h1, _, h3, _⟩ := h.blk r y _ hr hl hlive
  exact ⟨rfl, h3⟩
/-- a slice without cells -/
theorem SR.virt (h : SR F c H) (e : Nat) (f : Nat → List V) : SR F { c with locs := c.locs ++ [none] } (H ++ [.arr e 0 f]) ∧ Le c { c with locs := c.locs ++ [none] } := by
  have hle : Le c { c with locs := c.locs ++ [none] } := ⟨fun r x e => by rw [List.getElem?_append_left (List.getElem?_eq_some_iff.1 e).1]; exact e, fun _ h => h, fun _ _ => rfl⟩
  have hlen := h.len
  have key : ∀ (r : Nat) (y : Blk) (l : Option (Nat × Nat)), (H ++ [Blk.arr e 0 f])[r]? = some y → (c.locs ++ [none])[r]? = some l → (H[r]? = some y ∧ c.locs[r]? = some l) ∨ (y = Blk.arr e 0 f ∧ l = none) := by
    intro r y l hr hl
    by_cases hlt : r < H.length
    · rw [List.getElem?_append_left hlt] at hr
      rw [List.getElem?_append_left (by omega)] at hl
      exact .inl ⟨hr, hl⟩
    · have : r = H.length := by
        have := (List.getElem?_eq_some_iff.1 hr).1
        simp at this; omega
      subst this
      rw [List.getElem?_append_right (by omega)] at hl
      simp [hlen] at hl hr
      exact .inr ⟨hr.symm, hl.symm⟩
  refine ⟨⟨h.fr, h.le.trans hle, by simp [hlen], ?_, ?_, h.imm, h.old⟩, hle⟩
  · intro r y l hr hl
    rcases key r y l hr hl with ⟨a1, a2⟩ | ⟨rfl, rfl⟩
    · refine (h.blk r y l a1 a2).mono hle fun b m e hlive => ?_
      subst e
      obtain ⟨C', el', h1, _, h3, _⟩ := h.blk r y _ a1 a2 hlive
      exact ⟨rfl, h3⟩
    · rfl
  · intro r r' y y' b m m' hr hr' hy hy' hl hl'
    rcases key r y _ hr hl with ⟨a1, a2⟩ | ⟨_, a2⟩
    · rcases key r' y' _ hr' hl' with ⟨b1, b2⟩ | ⟨_, b2⟩
      · exact h.inj r r' y y' b m m' a1 b1 hy hy' a2 b2
      · cases b2
    · cases a2
/-- a block is not used any more -/
theorem SR.dead (h : SR F c H) (r : Nat) : SR F c (hset H r .dead) := by
  refine ⟨h.fr, h.le, by rw [hset_length]; exact h.len, fun i y l hi hl => ?_, fun i i' y y' b m m' hi hi' hy hy' hl hl' => ?_, h.imm, h.old⟩
  · rw [hset_get] at hi
    split at hi
    · cases hi
      cases l with
      | none => trivial
      | some l => exact fun hl => hl.elim
    · exact h.blk i y l hi hl
  · rw [hset_get] at hi hi'
    split at hi
    · cases hi; exact hy.elim
    · split at hi'
      · cases hi'; exact hy'.elim
      · exact h.inj i i' y y' b m m' hi hi' hy hy' hl hl'
/-- a block is written -/
theorem SR.set (h : SR F c H) {r b cap : Nat} {x : Blk} (hr : H[r]? = some x) (hx : Live x) (hl : c.locs[r]? = some (some (b, cap))) (x' : Blk) (C' : Array Value) (hC : Cont c C' cap x') :
    SR F { c with w := c.w.setRow b C' } (hset H r x') ∧ Le c { c with w := c.w.setRow b C' } := by
  obtain ⟨C, el, h1, h2, h3, h4⟩ := h.blk r x _ hr hl hx
  have hle : Le c { c with w := c.w.setRow b C' } := ⟨fun _ _ e => e, fun _ h => h, fun k hk => setRow_other _ _ _ _ fun e => h3 (e ▸ hk)⟩
  have hrl : r < H.length := (List.getElem?_eq_some_iff.1 hr).1
  refine ⟨⟨?_, h.le.trans hle, by rw [hset_length]; exact h.len, ?_, ?_, (fun k hk => by have := h.imm k hk; simpa using this), h.old⟩, hle⟩
  · refine ⟨h.fr.os, h.fr.tape, h.fr.output, by have := h.fr.size; simpa using this, fun k hk hk' => ?_⟩
    show (c.w.setRow b C').heap[k]? = _
    rw [setRow_other _ _ _ _ ?_]
    · exact h.fr.block k hk hk'
    · rintro rfl
      rcases h4 with h4 | h4
      · omega
      · exact hk' h4
  · intro i y l hi hli
    rw [hset_get] at hi
    split at hi
    · rename_i hc
      cases hi
      obtain ⟨rfl, _⟩ := hc
      rw [hl] at hli
      cases hli
      intro _
      exact ⟨C', el, setRow_heap _ _ _ _ _ _ h1, hC.mono hle, h3, h4⟩
    · rename_i hc
      refine (h.blk i y l hi hli).mono hle fun b' m e hlive => ?_
      subst e
      obtain ⟨C2, el2, g1, _, g3, _⟩ := h.blk i y _ hi hli hlive
      refine ⟨setRow_other _ _ _ _ ?_, g3⟩
      rintro rfl
      exact hc ⟨h.inj i r y x b' m cap hi hr hlive hx hli hl, hrl⟩
  · intro i i' y y' b1 m m' hi hi' hy hy' hli hli'
    rw [hset_get] at hi hi'
    have key : ∀ (i : Nat) (y : Blk), (if i = r ∧ r < H.length then some x' else H[i]?) = some y → Live y → ∃ z, H[i]? = some z ∧ Live z := by
      intro i y hi hy
      split at hi
      · rename_i hc; exact ⟨x, by rw [hc.1]; exact hr, hx⟩
      · exact ⟨y, hi, hy⟩
    obtain ⟨z, a1, a2⟩ := key i y hi hy
    obtain ⟨z', b1', b2⟩ := key i' y' hi' hy'
    exact h.inj i i' z z' b1 m m' a1 b1' a2 b2 hli hli'
/-- a block goes on under another number -/
theorem SR.move (h : SR F c H) {r : Nat} {l : Option (Nat × Nat)} (hl : c.locs[r]? = some l) :
    SR F { c with locs := c.locs ++ [l] } (hset H r .dead ++ [hget H r]) ∧ Le c { c with locs := c.locs ++ [l] } := by
  obtain ⟨hr, hb⟩ := h.get hl
  have hrl := h.lt hl
  have hle : Le c { c with locs := c.locs ++ [l] } := ⟨fun r x e => by rw [List.getElem?_append_left (List.getElem?_eq_some_iff.1 e).1]; exact e, fun _ h => h, fun _ _ => rfl⟩
  have hlen := h.len
  have key : ∀ (i : Nat) (y : Blk) (l' : Option (Nat × Nat)), (hset H r .dead ++ [hget H r])[i]? = some y → (c.locs ++ [l])[i]? = some l' →
      (i < H.length ∧ i = r ∧ y = .dead) ∨ (i ≠ r ∧ i < H.length ∧ H[i]? = some y ∧ c.locs[i]? = some l') ∨ (i = H.length ∧ y = hget H r ∧ l' = l) := by
    intro i y l' hi hl'
    by_cases hlt : i < H.length
    · rw [List.getElem?_append_left (by rw [hset_length]; exact hlt), hset_get] at hi
      rw [List.getElem?_append_left (by omega)] at hl'
      split at hi
      · rename_i hc; cases hi; exact .inl ⟨hlt, hc.1, rfl⟩
      · rename_i hc; exact .inr (.inl ⟨fun e => hc ⟨e, hrl⟩, hlt, hi, hl'⟩)
    · have : i = H.length := by
        have := (List.getElem?_eq_some_iff.1 hi).1
        simp [hset_length] at this; omega
      subst this
      rw [List.getElem?_append_right (by rw [hset_length]; omega)] at hi
      rw [List.getElem?_append_right (by omega)] at hl'
      simp [hlen, hset_length] at hi hl'
      exact .inr (.inr ⟨rfl, hi.symm, hl'.symm⟩)
  have same : ∀ y l', BlkOk F c y l' → BlkOk F { c with locs := c.locs ++ [l] } y l' := by
    intro y l' hy
    refine hy.mono hle fun b m e hlive => ?_
    subst e
    obtain ⟨C', el', h1, _, h3, _⟩ := hy hlive
    exact ⟨rfl, h3⟩
  refine ⟨⟨h.fr, h.le.trans hle, by simp [hset_length, hlen], ?_, ?_, h.imm, h.old⟩, hle⟩
  · intro i y l' hi hl'
    rcases key i y l' hi hl' with ⟨_, _, rfl⟩ | ⟨_, _, a1, a2⟩ | ⟨_, rfl, rfl⟩
    · cases l' with
      | none => trivial
      | some l => exact fun hl => hl.elim
    · exact same _ _ (h.blk i y l' a1 a2)
    · exact same _ _ hb
  · intro i i' y y' b m m' hi hi' hy hy' hl1 hl2
    rcases key i y _ hi hl1 with ⟨_, _, rfl⟩ | ⟨n1, c1, a1, a2⟩ | ⟨c1, rfl, e1⟩
    · exact hy.elim
    · rcases key i' y' _ hi' hl2 with ⟨_, _, rfl⟩ | ⟨n2, c2, b1, b2⟩ | ⟨c2, rfl, e2⟩
      · exact hy'.elim
      · exact h.inj i i' y y' b m m' a1 b1 hy hy' a2 b2
      · exact absurd (h.inj i r y _ b m m' a1 hr hy hy' a2 (by rw [hl, ← e2])) n1
    · rcases key i' y' _ hi' hl2 with ⟨_, _, rfl⟩ | ⟨n2, c2, b1, b2⟩ | ⟨c2, rfl, e2⟩
      · exact hy'.elim
      · exact absurd (h.inj i' r y' _ b m' m b1 hr hy' hy b2 (by rw [hl, ← e1])) n2
      · omega
end
end Go.VM
