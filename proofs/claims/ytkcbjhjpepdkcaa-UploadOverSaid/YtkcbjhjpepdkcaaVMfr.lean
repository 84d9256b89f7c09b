import Derived.Test.YtkcbjhjpepdkcaaVMwk
set_option linter.unusedVariables false
set_option linter.unusedSimpArgs false
namespace Go.VM
/-! ### Calls that write blocks of their caller's: a contract over these blocks alone -/
section
variable (g : Nat → Option Nat)
mutual
/-- blocks under other numbers; what has none is not known -/
def rnV : V → V
  | .own nl r e off n t => (match g r with | some i => .own nl i e off n t | none => .bad)
  | .ptr r off => (match g r with | some i => .ptr i off | none => .bad)
  | .eptr r e i off => (match g r with | some j => .eptr j e i off | none => .bad)
  | .agg cs => .agg (rnVs cs)
  | .tup cs => .tup (rnVs cs)
  | .fn f a b => .fn f (rnVs a) (rnVs b)
  | v => v
def rnVs : List V → List V
  | [] => []
  | v :: vs => rnV v :: rnVs vs
end
def rnB : Blk → Blk
  | .box cs => .box (rnVs g cs)
  | .arr e n f => .arr e n fun i => rnVs g (f i)
  | .dead => .dead
def rnH : Heap → Heap
  | [] => []
  | b :: H => rnB g b :: rnH H
end
theorem rnVs_length (g : Nat → Option Nat) (vs : List V) : (rnVs g vs).length = vs.length := by
  induction vs with
  | nil => simp [rnVs]
  | cons v vs ih => simp [rnVs, ih]
theorem rnH_get (g : Nat → Option Nat) (H : Heap) (r : Nat) : (rnH g H)[r]? = (H[r]?).map (rnB g) := by
  induction H generalizing r with
  | nil => simp [rnH]
  | cons b H ih => cases r <;> simp [rnH, ih]
theorem rnH_length (g : Nat → Option Nat) (H : Heap) : (rnH g H).length = H.length := by
  induction H with
  | nil => simp [rnH]
  | cons b H ih => simp [rnH, ih]
theorem Live_rn {g : Nat → Option Nat} {x : Blk} : Live (rnB g x) ↔ Live x := by cases x <;> simp [rnB, Live]
section
variable {c : Ctx} {g : Nat → Option Nat} {I : Nat → Prop} {L : List (Option (Nat × Nat))}
mutual
theorem VR_rn (hI : ∀ b, c.I b → I b) (hL : ∀ (r i : Nat) (l : Option (Nat × Nat)), g r = some i → c.locs[r]? = some l → L[i]? = some l) : ∀ (v : V) (u : Value), VR c v u → VR ⟨c.w, I, L⟩ (rnV g v) u
  | .bad, _, _ => by simp only [rnV, VR]
  | .nil, _, h => by simpa only [rnV, VR] using h
  | .bool _, _, h => by simpa only [rnV, VR] using h
  | .int _ _, _, h => by simpa only [rnV, VR] using h
  | .str _, _, h => by simpa only [rnV, VR] using h
  | .lst nl t e m f, u, h => by
    simp only [rnV]
    exact VR_mono (c := ⟨c.w, c.I, []⟩) (c' := ⟨c.w, I, L⟩) ⟨fun r x e => by simp at e, hI, fun _ _ => rfl⟩ _ _ (by simpa only [VR] using h)
  | .iptr cs off, u, h => by
    simp only [rnV]
    exact VR_mono (c := ⟨c.w, c.I, []⟩) (c' := ⟨c.w, I, L⟩) ⟨fun r x e => by simp at e, hI, fun _ _ => rfl⟩ _ _ (by simpa only [VR] using h)
  | .own nl r e off n t, u, h => by
    simp only [rnV]
    cases hg : g r with
    | none => simp only [VR]
    | some i =>
      simp only [VR] at h ⊢
      obtain ⟨A, cap, e1, e2, e3, e4, e5⟩ := h
      refine ⟨A, cap, e1, e2, e3, e4, ?_⟩
      cases hr : c.locs[r]? with
      | none => rw [hr] at e5; exact e5.elim
      | some l => rw [hL r i l hg hr]; rw [hr] at e5; exact e5
  | .ptr r off, u, h => by
    simp only [rnV]
    cases hg : g r with
    | none => simp only [VR]
    | some i =>
      simp only [VR] at h ⊢
      cases hr : c.locs[r]? with
      | none => rw [hr] at h; exact h.elim
      | some l => rw [hL r i l hg hr]; rw [hr] at h; exact h
  | .eptr r e j off, u, h => by
    simp only [rnV]
    cases hg : g r with
    | none => simp only [VR]
    | some i =>
      simp only [VR] at h ⊢
      cases hr : c.locs[r]? with
      | none => rw [hr] at h; exact h.elim
      | some l => rw [hL r i l hg hr]; rw [hr] at h; exact h
  | .agg cs, u, h => by
    simp only [rnV, VR] at h ⊢
    obtain ⟨us, e1, e2, e0, e3⟩ := h
    exact ⟨us, e1, by rw [rnVs_length]; exact e2, by rw [rnVs_length]; exact e0, VRs_rn hI hL cs _ e3⟩
  | .tup cs, u, h => by
    simp only [rnV, VR] at h ⊢
    obtain ⟨us, e1, e2, e3⟩ := h
    exact ⟨us, e1, by rw [rnVs_length]; exact e2, VRs_rn hI hL cs _ e3⟩
  | .fn f a b, u, h => by
    simp only [rnV, VR] at h ⊢
    obtain ⟨us, ws, e1, e2, e3, e4, e5⟩ := h
    exact ⟨us, ws, e1, by rw [rnVs_length]; exact e2, by rw [rnVs_length]; exact e3, VRs_rn hI hL a _ e4, VRs_rn hI hL b _ e5⟩
theorem VRs_rn (hI : ∀ b, c.I b → I b) (hL : ∀ (r i : Nat) (l : Option (Nat × Nat)), g r = some i → c.locs[r]? = some l → L[i]? = some l) : ∀ (vs : List V) (gt : Nat → Option Value), VRs c vs gt → VRs ⟨c.w, I, L⟩ (rnVs g vs) gt
  | [], _, _ => by simp only [rnVs, VRs]
  | v :: vs, gt, h => by
    simp only [rnVs, VRs] at h ⊢
    obtain ⟨⟨u, e1, e2⟩, e3⟩ := h
    exact ⟨⟨u, e1, VR_rn hI hL v u e2⟩, VRs_rn hI hL vs _ e3⟩
end
theorem Cont_rn (hI : ∀ b, c.I b → I b) (hL : ∀ (r i : Nat) (l : Option (Nat × Nat)), g r = some i → c.locs[r]? = some l → L[i]? = some l) {C : Array Value} {cap : Nat} {x : Blk} (h : Cont c C cap x) : Cont ⟨c.w, I, L⟩ C cap (rnB g x) := by
  cases x with
  | box cs => exact ⟨by rw [rnVs_length]; exact h.1, by rw [rnVs_length]; exact h.2.1, VRs_rn hI hL _ _ h.2.2⟩
  | arr e m f => exact ⟨h.1, h.2.1, fun i hi => ⟨by rw [rnVs_length]; exact (h.2.2 i hi).1, (h.2.2 i hi).2.1, VRs_rn hI hL _ _ (h.2.2 i hi).2.2⟩⟩
  | dead => trivial
end
/-- some blocks alone, in this order -/
def selH (τ : List Nat) (H : Heap) : List Nat → Heap
  | [] => []
  | r :: l => rnB (idx τ) (hget H r) :: selH τ H l
abbrev Ctx.sel (c : Ctx) (τ : List Nat) : Ctx := ⟨c.w, c.I, τ.map fun r => (match c.locs[r]? with | some l => l | none => none)⟩
theorem selH_get {τ : List Nat} {H : Heap} (l : List Nat) (i : Nat) : (selH τ H l)[i]? = (l[i]?).map fun r => rnB (idx τ) (hget H r) := by
  induction l generalizing i with
  | nil => simp [selH]
  | cons r l ih => cases i <;> simp [selH, ih]
theorem selH_length {τ : List Nat} {H : Heap} (l : List Nat) : (selH τ H l).length = l.length := by
  induction l with
  | nil => simp [selH]
  | cons r l ih => simp [selH, ih]
theorem idx_get {σ : List Nat} (hnd : σ.Nodup) {i r : Nat} (h : σ[i]? = some r) : idx σ r = some i := by
  cases hi : idx σ r with
  | none => exact absurd (List.mem_of_getElem? h) (idx_none hi)
  | some j =>
    have := idx_some hi
    rw [(List.getElem?_inj (List.getElem?_eq_some_iff.1 this).1 hnd).1 (this.trans h.symm)]
section
variable {F : Fr} {c : Ctx} {H : Heap} {τ : List Nat}
theorem sel_loc (hs : SR F c H) (hτ : okσ H.length τ = true) : (∀ (i : Nat) (l : Option (Nat × Nat)), (c.sel τ).locs[i]? = some l → ∃ r, τ[i]? = some r ∧ c.locs[r]? = some l) ∧
    (∀ (r i : Nat) (l : Option (Nat × Nat)), idx τ r = some i → c.locs[r]? = some l → (c.sel τ).locs[i]? = some l) := by
  obtain ⟨hnd, hlt⟩ := okσ_spec hτ
  constructor
  · intro i l hl
    simp only [List.getElem?_map, Option.map_eq_some_iff] at hl
    obtain ⟨r, hr, hl⟩ := hl
    refine ⟨r, hr, ?_⟩
    have : r < c.locs.length := by rw [hs.len]; exact hlt r (List.mem_of_getElem? hr)
    rw [List.getElem?_eq_getElem this] at hl ⊢
    simp only at hl
    rw [hl]
  · intro r i l hi hl
    simp only [List.getElem?_map, idx_some hi, Option.map_some, hl]
/-- where the call began, of some blocks alone -/
theorem SR.sel (hs : SR F c H) (hτ : okσ H.length τ = true) (h0 : ∀ (r : Nat) (x : Option (Nat × Nat)), F.c0.locs[r]? = some x → (c.sel τ).locs[r]? = some x) : SR F (c.sel τ) (selH τ H τ) := by
  obtain ⟨hnd, hlt⟩ := okσ_spec hτ
  obtain ⟨hl1, hl2⟩ := sel_loc hs hτ
  refine ⟨hs.fr, ⟨h0, hs.le.I, hs.le.heap⟩, by simp [selH_length], fun i x l hi hl => ?_, fun i i' x x' b m m' hi hi' hx hx' hl hl' => ?_, hs.imm, hs.old⟩
  · rw [selH_get] at hi
    obtain ⟨r, hr, hlr⟩ := hl1 i l hl
    rw [hr] at hi
    simp only [Option.map_some, Option.some.injEq] at hi
    subst hi
    obtain ⟨g1, g2⟩ := hs.get hlr
    cases l with
    | none =>
      cases hx : hget H r with
      | box cs => rw [hx] at g2; exact g2.elim
      | arr e n f => rw [hx] at g2; exact g2
      | dead => trivial
    | some l =>
      obtain ⟨b, m⟩ := l
      intro hlive
      obtain ⟨C, el, k1, k2, k3, k4⟩ := g2 (Live_rn.1 hlive)
      exact ⟨C, el, k1, Cont_rn (fun _ h => h) hl2 k2, k3, k4⟩
  · obtain ⟨r, hr, hlr⟩ := hl1 i _ hl
    obtain ⟨r', hr', hlr'⟩ := hl1 i' _ hl'
    rw [selH_get, hr] at hi
    rw [selH_get, hr'] at hi'
    simp only [Option.map_some, Option.some.injEq] at hi hi'
    subst hi hi'
    have := hs.inj r r' _ _ b m m' (hs.get hlr).1 (hs.get hlr').1 (Live_rn.1 hx) (Live_rn.1 hx') hlr hlr'
    subst this
    exact (List.getElem?_inj (List.getElem?_eq_some_iff.1 hr).1 hnd).1 (hr.trans hr'.symm)
/-- the frame of a call that may write these blocks -/
abbrev Fr.sel (c : Ctx) (H : Heap) (τ : List Nat) : Fr := ⟨c.sel τ, fun b => ∃ r m x, r ∈ τ ∧ H[r]? = some x ∧ Live x ∧ c.locs[r]? = some (some (b, m)), 0⟩
theorem SR.sel_here (hs : SR F c H) (hτ : okσ H.length τ = true) : SR (Fr.sel c H τ) (c.sel τ) (selH τ H τ) := by
  obtain ⟨hnd, hlt⟩ := okσ_spec hτ
  obtain ⟨hl1, hl2⟩ := sel_loc hs hτ
  refine ⟨⟨rfl, rfl, rfl, Nat.le_refl _, fun _ _ _ => rfl⟩, Le.refl _, by simp [selH_length], fun i x l hi hl => ?_, fun i i' x x' b m m' hi hi' hx hx' hl hl' => ?_, hs.imm, fun b h => .inl h⟩
  · rw [selH_get] at hi
    obtain ⟨r, hr, hlr⟩ := hl1 i l hl
    rw [hr] at hi
    simp only [Option.map_some, Option.some.injEq] at hi
    subst hi
    obtain ⟨g1, g2⟩ := hs.get hlr
    cases l with
    | none =>
      cases hx : hget H r with
      | box cs => rw [hx] at g2; exact g2.elim
      | arr e n f => rw [hx] at g2; exact g2
      | dead => trivial
    | some l =>
      obtain ⟨b, m⟩ := l
      intro hlive
      obtain ⟨C, el, k1, k2, k3, k4⟩ := g2 (Live_rn.1 hlive)
      exact ⟨C, el, k1, Cont_rn (fun _ h => h) hl2 k2, k3, .inr ⟨r, m, _, List.mem_of_getElem? hr, g1, Live_rn.1 hlive, hlr⟩⟩
  · obtain ⟨r, hr, hlr⟩ := hl1 i _ hl
    obtain ⟨r', hr', hlr'⟩ := hl1 i' _ hl'
    rw [selH_get, hr] at hi
    rw [selH_get, hr'] at hi'
    simp only [Option.map_some, Option.some.injEq] at hi hi'
    subst hi hi'
    have := hs.inj r r' _ _ b m m' (hs.get hlr).1 (hs.get hlr').1 (Live_rn.1 hx) (Live_rn.1 hx') hlr hlr'
    subst this
    exact (List.getElem?_inj (List.getElem?_eq_some_iff.1 hr).1 hnd).1 (hr.trans hr'.symm)
end
/-- blocks back under the caller's numbers: the first ones are these, others come behind -/
def bkf : List Nat → Nat → Nat → Nat
  | [], n, i => n + i
  | r :: _, _, 0 => r
  | _ :: ρ, n, i + 1 => bkf ρ n i
/-- the caller's blocks behind the call -/
def updH : Heap → List Nat → Heap → Heap
  | H, [], l => happ H l
  | H, r :: ρ, l => (match l with | b :: l => updH (hset H r b) ρ l | [] => H)
theorem bkf_lt : ∀ (ρ : List Nat) (n i : Nat), i < ρ.length → ρ[i]? = some (bkf ρ n i)
  | [], _, _, h => by simp at h
  | r :: ρ, n, 0, _ => by simp [bkf]
  | r :: ρ, n, i + 1, h => by simpa [bkf] using bkf_lt ρ n i (by simpa using h)
theorem bkf_ge : ∀ (ρ : List Nat) (n i : Nat), ρ.length ≤ i → bkf ρ n i = n + (i - ρ.length)
  | [], _, _, _ => by simp [bkf]
  | r :: ρ, n, 0, h => by simp at h
  | r :: ρ, n, i + 1, h => by
    have := bkf_ge ρ n i (by simpa using h)
    simp only [bkf, this, List.length_cons]
    omega
theorem updH_spec : ∀ (ρ : List Nat) (H l : Heap), ρ.Nodup → (∀ r ∈ ρ, r < H.length) → ρ.length ≤ l.length →
    (updH H ρ l).length = H.length + (l.length - ρ.length) ∧ (∀ (i r : Nat), ρ[i]? = some r → (updH H ρ l)[r]? = l[i]?) ∧ (∀ r : Nat, r < H.length → r ∉ ρ → (updH H ρ l)[r]? = H[r]?) ∧
    (∀ r : Nat, H.length ≤ r → (updH H ρ l)[r]? = l[ρ.length + (r - H.length)]?)
  | [], H, l, _, _, _ => by
    simp only [updH, happ_eq]
    refine ⟨by simp, fun i r h => by simp at h, fun r hr _ => List.getElem?_append_left hr, fun r hr => ?_⟩
    rw [List.getElem?_append_right hr]
    simp
  | r0 :: ρ, H, [], _, _, h => by simp at h
  | r0 :: ρ, H, b :: l, hnd, hlt, hle => by
    obtain ⟨h1, h2⟩ := List.nodup_cons.1 hnd
    have hr0 := hlt r0 (by simp)
    obtain ⟨k1, k2, k3, k4⟩ := updH_spec ρ (hset H r0 b) l h2 (fun r hr => by rw [hset_length]; exact hlt r (by simp [hr])) (by simpa using hle)
    rw [hset_length] at k1 k3 k4
    simp only [updH]
    refine ⟨by rw [k1]; simp, fun i r hi => ?_, fun r hr hn => ?_, fun r hr => ?_⟩
    · cases i with
      | zero =>
        simp only [List.getElem?_cons_zero, Option.some.injEq] at hi
        subst hi
        rw [k3 _ hr0 h1, hset_get, if_pos ⟨rfl, hr0⟩]
        simp
      | succ i => simpa using k2 i r (by simpa using hi)
    · simp only [List.mem_cons, not_or] at hn
      rw [k3 r hr hn.2, hset_get, if_neg (by rintro ⟨rfl, _⟩; exact hn.1 rfl)]
    · rw [k4 r hr]
      have : (r0 :: ρ).length + (r - H.length) = ρ.length + (r - H.length) + 1 := by simp; omega
      rw [this, List.getElem?_cons_succ]
section
variable {F : Fr} {c : Ctx} {H : Heap} {ρ : List Nat}
/-- THE STATE BEHIND A CALL THAT MAY WRITE THESE BLOCKS. -/
theorem SR.frame (hs : SR F c H) (hρ : okσ H.length ρ = true) {c3 : Ctx} {H1 : Heap} (h3 : SR (Fr.sel c H ρ) c3 H1) (hle : ρ.length ≤ H1.length) :
    SR F ⟨c3.w, c3.I, c.locs ++ c3.locs.drop ρ.length⟩ (updH H ρ (rnH (fun i => some (bkf ρ H.length i)) H1)) ∧ Le c ⟨c3.w, c3.I, c.locs ++ c3.locs.drop ρ.length⟩ ∧
    ∀ v u, VR c3 v u → VR ⟨c3.w, c3.I, c.locs ++ c3.locs.drop ρ.length⟩ (rnV (fun i => some (bkf ρ H.length i)) v) u := by
  obtain ⟨hnd, hlt⟩ := okσ_spec hρ
  have hlen := hs.len
  have hlen3 := h3.len
  obtain ⟨u1, u2, u3, u4⟩ := updH_spec ρ H (rnH (fun i => some (bkf ρ H.length i)) H1) hnd hlt (by rw [rnH_length]; exact hle)
  -- places of the blocks
  have hl2 := (sel_loc hs hρ).2
  have hloc3 : ∀ (i r : Nat) (l : Option (Nat × Nat)), ρ[i]? = some r → c.locs[r]? = some l → c3.locs[i]? = some l := fun i r l hi hl => h3.le.locs i l (hl2 r i l (idx_get hnd hi) hl)
  have hlocs : ∀ (i : Nat) (l : Option (Nat × Nat)), c3.locs[i]? = some l → (c.locs ++ c3.locs.drop ρ.length)[bkf ρ H.length i]? = some l := by
    intro i l hl
    by_cases hi : i < ρ.length
    · have hr := bkf_lt ρ H.length i hi
      have hrl := hlt _ (List.mem_of_getElem? hr)
      rw [List.getElem?_append_left (by omega)]
      have h1 : c.locs[bkf ρ H.length i]? = some (c.locs[bkf ρ H.length i]'(by omega)) := List.getElem?_eq_getElem (by omega)
      have := hloc3 i _ _ hr h1
      rw [hl] at this
      rw [h1, ← Option.some.inj this]
    · rw [bkf_ge ρ _ i (by omega), List.getElem?_append_right (by omega), List.getElem?_drop]
      rw [show ρ.length + (H.length + (i - ρ.length) - c.locs.length) = i from by omega]
      exact hl
  have hbk : ∀ (r i : Nat) (l : Option (Nat × Nat)), (fun i => some (bkf ρ H.length i)) r = some i → c3.locs[r]? = some l → (c.locs ++ c3.locs.drop ρ.length)[i]? = some l := by
    intro r i l h hl
    simp only [Option.some.injEq] at h
    subst h
    exact hlocs r l hl
  -- blocks that were there
  have hX : ∀ b, (Fr.sel c H ρ).X b → ¬ c.I b ∧ Wr F b ∧ b < c.w.heap.size := by
    rintro b ⟨r, m, x, h1, h2, h3, h4⟩
    obtain ⟨C, el, k1, _, k3, k4⟩ := hs.blk r x _ h2 h4 h3
    exact ⟨k3, k4, (Array.getElem?_eq_some_iff.1 k1).1⟩
  have hsame : ∀ b, b < c.w.heap.size → ¬ (Fr.sel c H ρ).X b → c3.w.heap[b]? = c.w.heap[b]? := fun b hb hx => h3.fr.block b hb hx
  have hsz : c.w.heap.size ≤ c3.w.heap.size := h3.fr.size
  have hJ1 : ∀ b, c3.I b → c.I b ∨ c.w.heap.size ≤ b := h3.old
  have hle' : Le c ⟨c3.w, c3.I, c.locs ++ c3.locs.drop ρ.length⟩ :=
    ⟨fun r x e => by rw [List.getElem?_append_left (List.getElem?_eq_some_iff.1 e).1]; exact e, h3.le.I, fun b hb => hsame b (hs.imm b hb) fun hx => (hX b hx).1 hb⟩
  have hWr : ∀ b, Wr (Fr.sel c H ρ) b → Wr F b := by
    rintro b (hb | hb)
    · exact .inl (Nat.le_trans hs.fr.size hb)
    · exact (hX b hb).2.1
  have key : ∀ (r : Nat) (y : Blk) (l : Option (Nat × Nat)), (updH H ρ (rnH (fun i => some (bkf ρ H.length i)) H1))[r]? = some y → (c.locs ++ c3.locs.drop ρ.length)[r]? = some l →
      (r ∉ ρ ∧ H[r]? = some y ∧ c.locs[r]? = some l) ∨ (∃ i x, r = bkf ρ H.length i ∧ H1[i]? = some x ∧ y = rnB (fun i => some (bkf ρ H.length i)) x ∧ c3.locs[i]? = some l) := by
    intro r y l hr hl
    by_cases hlt' : r < H.length
    · rw [List.getElem?_append_left (by omega)] at hl
      by_cases hm : r ∈ ρ
      · obtain ⟨i, hi, hri⟩ := List.getElem_of_mem hm
        have hi' : ρ[i]? = some r := by rw [List.getElem?_eq_getElem hi, hri]
        rw [u2 i r hi', rnH_get] at hr
        cases hx : H1[i]? with
        | none => rw [hx] at hr; cases hr
        | some x =>
          rw [hx] at hr
          simp only [Option.map_some, Option.some.injEq] at hr
          have hb := bkf_lt ρ H.length i hi
          rw [hi'] at hb
          exact .inr ⟨i, x, Option.some.inj hb, hx, hr.symm, hloc3 i r l hi' hl⟩
      · rw [u3 r hlt' hm] at hr
        exact .inl ⟨hm, hr, hl⟩
    · rw [u4 r (by omega), rnH_get] at hr
      rw [List.getElem?_append_right (by omega), List.getElem?_drop] at hl
      cases hx : H1[ρ.length + (r - H.length)]? with
      | none => rw [hx] at hr; cases hr
      | some x =>
        rw [hx] at hr
        simp only [Option.map_some, Option.some.injEq] at hr
        refine .inr ⟨ρ.length + (r - H.length), x, ?_, hx, hr.symm, ?_⟩
        · rw [bkf_ge _ _ _ (by omega)]; omega
        · rw [hlen] at hl; exact hl
  refine ⟨⟨?_, hs.le.trans hle', ?_, ?_, ?_, h3.imm, ?_⟩, hle', fun v u h => VR_rn (fun _ h => h) hbk v u h⟩
  · refine ⟨h3.fr.os.trans hs.fr.os, h3.fr.tape.trans hs.fr.tape, h3.fr.output.trans hs.fr.output, Nat.le_trans hs.fr.size hsz, fun k hk hx => ?_⟩
    show c3.w.heap[k]? = _
    rw [hsame k (Nat.lt_of_lt_of_le hk hs.fr.size) fun hx' => ?_]
    · exact hs.fr.block k hk hx
    · rcases (hX k hx').2.1 with h | h
      · omega
      · exact hx h
  · rw [u1, rnH_length]
    simp [hlen, hlen3]
  · intro r y l hr hl
    rcases key r y l hr hl with ⟨a0, a1, a2⟩ | ⟨i, x, rfl, a2, rfl, a4⟩
    · refine (hs.blk r y l a1 a2).mono hle' fun b m e hlive => ?_
      subst e
      obtain ⟨C', el', g1, _, g3, _⟩ := hs.blk r y _ a1 a2 hlive
      have hb : b < c.w.heap.size := (Array.getElem?_eq_some_iff.1 g1).1
      refine ⟨hsame b hb ?_, fun hj => ?_⟩
      · rintro ⟨r', m', x', h1, h2, h4, h5⟩
        have := hs.inj r r' y x' b m m' a1 h2 hlive h4 a2 h5
        subst this
        exact a0 h1
      · rcases hJ1 b hj with h | h
        · exact g3 h
        · omega
    · have hb := h3.blk i x l a2 a4
      cases l with
      | none => cases x <;> first | exact hb | exact hb.elim
      | some l =>
        obtain ⟨b, m⟩ := l
        intro hlive
        obtain ⟨C, el, g1, g2, g3, g4⟩ := hb (Live_rn.1 hlive)
        exact ⟨C, el, g1, Cont_rn (c := c3) (I := c3.I) (fun _ h => h) hbk g2, g3, hWr b g4⟩
  · intro r r' y y' b m m' hr hr' hy hy' hl hl'
    have hnew : ∀ (i : Nat) (x : Blk), H1[i]? = some x → Live x → c3.locs[i]? = some (some (b, m)) → ∀ (q : Nat) (z : Blk) (m2 : Nat), q ∉ ρ → H[q]? = some z → Live z → c.locs[q]? = some (some (b, m2)) → False := by
      intro i x hx hlx hlc q z m2 hq hz hlz hlq
      obtain ⟨C, el, k1, _, _, _⟩ := hs.blk q z _ hz hlq hlz
      have hbs : b < c.w.heap.size := (Array.getElem?_eq_some_iff.1 k1).1
      obtain ⟨C', el', _, _, _, h4 | h4⟩ := h3.blk i x _ hx hlc hlx
      · have : c.w.heap.size ≤ b := h4
        omega
      · obtain ⟨r', m', x', h1, h2, h5, h6⟩ := h4
        have := hs.inj q r' z x' b m2 m' hz h2 hlz h5 hlq h6
        subst this
        exact hq h1
    have hnew' : ∀ (i : Nat) (x : Blk), H1[i]? = some x → Live x → c3.locs[i]? = some (some (b, m')) → ∀ (q : Nat) (z : Blk) (m2 : Nat), q ∉ ρ → H[q]? = some z → Live z → c.locs[q]? = some (some (b, m2)) → False := by
      intro i x hx hlx hlc q z m2 hq hz hlz hlq
      obtain ⟨C, el, k1, _, _, _⟩ := hs.blk q z _ hz hlq hlz
      have hbs : b < c.w.heap.size := (Array.getElem?_eq_some_iff.1 k1).1
      obtain ⟨C', el', _, _, _, h4 | h4⟩ := h3.blk i x _ hx hlc hlx
      · have : c.w.heap.size ≤ b := h4
        omega
      · obtain ⟨r', m', x', h1, h2, h5, h6⟩ := h4
        have := hs.inj q r' z x' b m2 m' hz h2 hlz h5 hlq h6
        subst this
        exact hq h1
    rcases key r y _ hr hl with ⟨a0, a1, a2⟩ | ⟨i, x, rfl, a2, rfl, a4⟩ <;> rcases key r' y' _ hr' hl' with ⟨b0, b1, b2⟩ | ⟨i', x', rfl, b2, rfl, b4⟩
    · exact hs.inj r r' y y' b m m' a1 b1 hy hy' a2 b2
    · exact (hnew' i' x' b2 (Live_rn.1 hy') b4 r y m a0 a1 hy a2).elim
    · exact (hnew i x a2 (Live_rn.1 hy) a4 r' y' m' b0 b1 hy' b2).elim
    · rw [h3.inj i i' x x' b m m' a2 b2 (Live_rn.1 hy) (Live_rn.1 hy') a4 b4]
  · intro b hb
    rcases hJ1 b hb with h | h
    · exact hs.old b h
    · exact .inr (Nat.le_trans hs.fr.size h)
end
/-- the first n numbers, in order, and others behind them -/
def preσ : Nat → Nat → List Nat → Bool
  | _, 0, _ => true
  | _, _ + 1, [] => false
  | k, n + 1, r :: l => band (Nat.beq r k) (preσ (k + 1) n l)
theorem preσ_get : ∀ (n k : Nat) (l : List Nat), preσ k n l = true → ∀ i, i < n → l[i]? = some (k + i)
  | 0, _, _, _, i, h => by omega
  | n + 1, _, [], h, _, _ => by simp [preσ] at h
  | n + 1, k, r :: l, h, i, hi => by
    simp only [preσ] at h
    obtain ⟨h1, h2⟩ := band_true h
    cases i with
    | zero => simp [beq_nat h1]
    | succ i =>
      have := preσ_get n (k + 1) l h2 i (by omega)
      simp only [List.getElem?_cons_succ, this]
      congr 1
      omega
/-- what a call over some blocks alone comes to: they, under their numbers, and others behind them (`τ`: which ones are kept) -/
def Ends (n : Nat) (v : V) (H1 : Heap) (x : V) (H : Heap) : Prop := ∃ τ, okσ (hlen H) τ = true ∧ preσ 0 n τ = true ∧ wk (rnV (idx τ) x) v ∧ wkH (selH τ H τ) H1
/-- THE CONTRACT OF A CALL THAT MAY WRITE BLOCKS OF ITS CALLER'S. -/
def Does (P : Program) (f : Nat) (args : List V) (H0 : Heap) (v : V) (H1 : Heap) : Prop := cw P f args H0 (Ends (hlen H0) v H1)
theorem wkH_length {H H' : Heap} (h : wkH H H') : H'.length = H.length := (wkH_get h).1
/-- a call by such a contract: `ρ` tells which blocks of the caller's are the contract's first ones -/
theorem cw_does {P : Program} {f : Nat} {args args' : List V} {H0 H1 H : Heap} {v : V} (h : Does P f args' H0 v H1) (ρ : List Nat) (hρ : okσ (hlen H) ρ = true)
    (ha : wks (rnVs (idx ρ) args) args') (hH : wkH (selH ρ H ρ) H0) {K : V → Heap → Prop} (hk : K (rnV (fun i => some (bkf ρ (hlen H) i)) v) (updH H ρ (rnH (fun i => some (bkf ρ (hlen H) i)) H1))) : cw P f args H K := by
  rw [hlen_eq] at hρ
  rw [hlen_eq] at hk
  refine ⟨h.1, fun F c hs us hsz hus => ?_⟩
  have h2 := (hs.sel_here hρ).wk hH
  have hl2 := (sel_loc hs hρ).2
  have hargs : VRs (c.sel ρ) args' fun j => us[j]? := VRs_wk _ _ _ ha (VRs_rn (c := c) (I := c.I) (L := (c.sel ρ).locs) (fun _ h => h) hl2 args _ hus)
  have hcall := h.2 _ _ h2 us (by rw [wks_length ha, rnVs_length]; exact hsz) hargs
  refine Calls.mono hcall ?_
  rintro e w' ⟨c', u, v', H', rfl, rfl, hle, h3, h4, τ, t1, t2, t3, t4⟩
  rw [hlen_eq] at t1
  have h0 : H0.length = ρ.length := by rw [wkH_length hH, selH_length]
  have hpre : ∀ (r : Nat) (x : Option (Nat × Nat)), (Fr.sel c H ρ).c0.locs[r]? = some x → (c'.sel τ).locs[r]? = some x := by
    intro r x hx
    have hr : r < H0.length := by
      rw [h0]
      have := (List.getElem?_eq_some_iff.1 hx).1
      simpa using this
    rw [hlen_eq] at t2
    have hτ := preσ_get _ _ _ t2 r hr
    have hx' : c'.locs[r]? = some x := hle.locs r x hx
    simp only [Nat.zero_add] at hτ
    simp only [List.getElem?_map, hτ, Option.map_some, hx']
  have h5 := (h3.sel t1 hpre).wk t4
  have h6 : VR (c'.sel τ) v u := VR_wk _ _ _ t3 (VR_rn (c := c') (I := c'.I) (L := (c'.sel τ).locs) (fun _ h => h) (sel_loc h3 t1).2 v' u h4)
  have hle1 : ρ.length ≤ H1.length := by
    rw [wkH_length t4, selH_length, ← h0]
    rw [hlen_eq] at t2
    rcases Nat.lt_or_ge τ.length H0.length with h | h
    · have := preσ_get _ _ _ t2 τ.length h
      simp at this
    · exact h
  obtain ⟨k1, k2, k3⟩ := hs.frame hρ h5 hle1
  exact ⟨⟨c'.w, c'.I, c.locs ++ (c'.sel τ).locs.drop ρ.length⟩, u, _, _, rfl, rfl, k2, k1, k3 v u h6, hk⟩
/-- such a contract, from a walk of the body -/
theorem does_cx {P : Program} {f : Nat} {fn : Func} {body : Code} {args : List V} {H0 : Heap} {v : V} {H1 : Heap} (hf : P.funcs[f]? = some fn) (hb : fn.body = some body) (hname : fbody P f = true)
    (hok : okc fn.ntmps body = true) (hnt : args.length ≤ fn.ntmps) (h : cx P (hlen H0) body (argE 0 args) H0 (retK P fn.results.toList (Ends (hlen H0) v H1))) : Does P f args H0 v H1 :=
  cw_cx hf hb hname hok hnt h
end Go.VM
