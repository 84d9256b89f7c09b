import Derived.Test.YtkcbjhjpepdkcaaVMn
import Derived.Deep.LoopGhost
set_option linter.unusedVariables false
set_option linter.unusedSimpArgs false
set_option linter.unnecessarySimpa false
namespace Go.VM
/-! ### Forgetting: what a state says may be less -/
mutual
/-- all blocks that a value names stand ahead of the n-th -/
def ltr (n : Nat) : V → Bool
  | .own _ r _ _ _ _ => Nat.blt r n
  | .ptr r _ => Nat.blt r n
  | .eptr r _ _ _ => Nat.blt r n
  | .agg cs => ltrs n cs
  | .tup cs => ltrs n cs
  | .fn _ a b => band (ltrs n a) (ltrs n b)
  | _ => true
def ltrs (n : Nat) : List V → Bool
  | [] => true
  | v :: vs => band (ltr n v) (ltrs n vs)
end
abbrev Ctx.cut (c : Ctx) (n : Nat) : Ctx := { c with locs := c.locs.take n }
theorem cut_get {c : Ctx} {n r : Nat} (h : r < n) : (c.cut n).locs[r]? = c.locs[r]? := by
  show (c.locs.take n)[r]? = _
  rw [List.getElem?_take, if_pos h]
mutual
theorem VR_cut {c : Ctx} {n : Nat} : ∀ (v : V) (u : Value), ltr n v = true → VR c v u → VR (c.cut n) v u
  | .bad, _, _, _ => by simp only [VR]
  | .nil, _, _, H => by simpa only [VR] using H
  | .bool _, _, _, H => by simpa only [VR] using H
  | .int _ _, _, _, H => by simpa only [VR] using H
  | .str _, _, _, H => by simpa only [VR] using H
  | .lst nl t e n f, u, _, H => by simpa only [VR] using H
  | .iptr cs off, u, _, H => by simpa only [VR] using H
  | .own nl r e off m t, u, h, H => by
    have hr : r < n := by simpa [ltr, Nat.blt_eq] using h
    simp only [VR] at H ⊢
    rw [cut_get hr]; exact H
  | .ptr r off, u, h, H => by
    have hr : r < n := by simpa [ltr, Nat.blt_eq] using h
    simp only [VR] at H ⊢
    rw [cut_get hr]; exact H
  | .eptr r e i off, u, h, H => by
    have hr : r < n := by simpa [ltr, Nat.blt_eq] using h
    simp only [VR] at H ⊢
    rw [cut_get hr]; exact H
  | .agg cs, u, h, H => by
    simp only [VR] at H ⊢
    obtain ⟨us, e1, e2, e0, e3⟩ := H
    exact ⟨us, e1, e2, e0, VRs_cut cs _ (by simpa [ltr] using h) e3⟩
  | .tup cs, u, h, H => by
    simp only [VR] at H ⊢
    obtain ⟨us, e1, e2, e3⟩ := H
    exact ⟨us, e1, e2, VRs_cut cs _ (by simpa [ltr] using h) e3⟩
  | .fn f first caps, u, h, H => by
    simp only [VR] at H ⊢
    obtain ⟨us, ws, e1, e2, e3, e4, e5⟩ := H
    simp only [ltr] at h
    exact ⟨us, ws, e1, e2, e3, VRs_cut first _ (band_true h).1 e4, VRs_cut caps _ (band_true h).2 e5⟩
theorem VRs_cut {c : Ctx} {n : Nat} : ∀ (vs : List V) (g : Nat → Option Value), ltrs n vs = true → VRs c vs g → VRs (c.cut n) vs g
  | [], _, _, _ => by simp only [VRs]
  | v :: vs, g, h, H => by
    simp only [VRs] at H ⊢
    simp only [ltrs] at h
    obtain ⟨⟨u, e1, e2⟩, e3⟩ := H
    exact ⟨⟨u, e1, VR_cut v u (band_true h).1 e2⟩, VRs_cut vs _ (band_true h).2 e3⟩
end
def ltb (n : Nat) : Blk → Prop
  | .box cs => ltrs n cs = true
  | .arr _ m f => ∀ i, i < m → ltrs n (f i) = true
  | .dead => True
/-- the first heap is the second one's beginning -/
def hpre (n : Nat) : Heap → Heap → Prop
  | [], _ => True
  | _ :: _, [] => False
  | b :: H, b' :: H' => b = b' ∧ ltb n b ∧ hpre n H H'
/-- what an environment says, another one says, too (of blocks ahead of the n-th) -/
def subE (n : Nat) : Env → Env → Prop
  | [], _ => True
  | e :: r, E => evt E [] e.t = e.v ∧ e.p = [] ∧ ltr n e.v = true ∧ subE n r E
def sub (E' : Env) (H' : Heap) (E : Env) (H : Heap) : Prop := subE (hlen H') E' E ∧ hpre (hlen H') H' H
theorem hpre_get {n : Nat} {H' H : Heap} (h : hpre n H' H) : H'.length ≤ H.length ∧ ∀ (r : Nat) x, H'[r]? = some x → H[r]? = some x ∧ ltb n x := by
  induction H' generalizing H with
  | nil => exact ⟨Nat.zero_le _, fun r x h => by simp at h⟩
  | cons b H' ih =>
    cases H with
    | nil => exact h.elim
    | cons b' H =>
      obtain ⟨rfl, h2, h3⟩ := h
      obtain ⟨g1, g2⟩ := ih h3
      refine ⟨by simpa using g1, fun r x hr => ?_⟩
      cases r with
      | zero => simp at hr; subst hr; exact ⟨by simp, h2⟩
      | succ r => simpa using g2 r x (by simpa using hr)
theorem Cont_cut {c : Ctx} {n : Nat} {C : Array Value} {cap : Nat} {x : Blk} (hl : ltb n x) (h : Cont c C cap x) : Cont (c.cut n) C cap x := by
  cases x with
  | box cs => exact ⟨h.1, h.2.1, VRs_cut cs _ hl h.2.2⟩
  | arr e m f => exact ⟨h.1, h.2.1, fun i hi => ⟨(h.2.2 i hi).1, (h.2.2 i hi).2.1, VRs_cut _ _ (hl i hi) (h.2.2 i hi).2.2⟩⟩
  | dead => trivial
theorem SR.cut {F : Fr} {c : Ctx} {H H' : Heap} (h : SR F c H) (hF : F.c0.locs.length ≤ H'.length) (hp : hpre (hlen H') H' H) : SR F (c.cut H'.length) H' := by
  rw [hlen_eq] at hp
  obtain ⟨g1, g2⟩ := hpre_get hp
  have hloc : ∀ (r : Nat) l, (c.cut H'.length).locs[r]? = some l → c.locs[r]? = some l := fun r l hl => by
    change (c.locs.take H'.length)[r]? = some l at hl
    rw [List.getElem?_take] at hl
    split at hl
    · exact hl
    · cases hl
  refine ⟨h.fr, ⟨fun r x e => ?_, h.le.I, h.le.heap⟩, ?_, ?_, ?_, h.imm, h.old⟩
  · rw [cut_get (Nat.lt_of_lt_of_le (List.getElem?_eq_some_iff.1 e).1 hF)]
    exact h.le.locs r x e
  · show (c.locs.take H'.length).length = _
    simp [h.len, Nat.min_eq_left g1]
  · intro r x l hr hl
    obtain ⟨k1, k2⟩ := g2 r x hr
    have hb := h.blk r x l k1 (hloc r l hl)
    cases l with
    | none => exact hb
    | some l =>
      obtain ⟨b, m⟩ := l
      intro hlive
      obtain ⟨C, el, e1, e2, e3⟩ := hb hlive
      exact ⟨C, el, e1, Cont_cut k2 e2, e3⟩
  · intro r r' x x' b m m' hr hr' hx hx' hl hl'
    exact h.inj r r' x x' b m m' (g2 r x hr).1 (g2 r' x' hr').1 hx hx' (hloc _ _ hl) (hloc _ _ hl')
theorem evt_top {c : Ctx} {E : Env} {a : Act} (hE : ER c E a) (t : Nat) : VR c (evt E [] t) (tmpOf a t) := by
  unfold evt
  have h1 := hE t
  generalize get E t = g at *
  obtain ⟨s, q, v⟩ := g
  dsimp only at *
  cases q with
  | nil => exact h1.1 trivial
  | cons y q => simp [ppre, VR]
theorem ER_sub {c : Ctx} {n : Nat} {E' E : Env} {a : Act} (hE : ER c E a) (h : subE n E' E) : ER (c.cut n) E' a := by
  intro t
  have key : (get E' t).2.1 = [] ∧ VR (c.cut n) (get E' t).2.2 (tmpOf a t) := by
    induction E' with
    | nil => exact ⟨rfl, by simp [get, VR]⟩
    | cons e r ih =>
      obtain ⟨h1, h2, h3, h4⟩ := h
      rw [get_cons]
      by_cases he : e.t = t
      · rw [if_pos he]
        subst he
        exact ⟨h2, VR_cut _ _ h3 (by rw [← h1]; exact evt_top hE _)⟩
      · rw [if_neg he]
        exact ih h4
  rw [key.1]
  exact ⟨fun _ => key.2, fun h => absurd trivial h⟩
section
variable {P : Program} {n : Nat}
theorem cx_mono {code : Code} {E : Env} {H : Heap} {K K' : X → Env → Heap → Prop} (h : cx P n code E H K) (hk : ∀ x E H, K x E H → K' x E H) : cx P n code E H K' :=
  fun F c a hn hs he ha hok => wp_mono (h F c a hn hs he ha hok) fun e a' w' hq => by
    cases e with
    | normal => obtain ⟨c', E', H', h0, h1, h2, h3, h4⟩ := hq; exact ⟨c', E', H', h0, h1, h2, h3, hk _ _ _ h4⟩
    | exit i => obtain ⟨c', E', H', h0, h1, h2, h3, h4⟩ := hq; exact ⟨c', E', H', h0, h1, h2, h3, hk _ _ _ h4⟩
    | ret => obtain ⟨c', E', H', h0, h1, h2, h3, h4⟩ := hq; exact ⟨c', E', H', h0, h1, h2, h3, hk _ _ _ h4⟩
    | goto l => exact hq.elim
    | panic ch => exact hq.elim
    | outgrown => exact hq.elim
theorem cx_sub {code : Code} {E E' : Env} {H H' : Heap} {K : X → Env → Heap → Prop} (hs : sub E' H' E H) (hn : n ≤ hlen H') (h : cx P n code E' H' K) : cx P n code E H K :=
  fun F c a hF hsr he ha hok => by
    rw [hlen_eq] at hn
    have h1 := hsr.cut (Nat.le_trans hF hn) hs.2
    have h2 := ER_sub he hs.1
    rw [hlen_eq] at h2
    exact h F (c.cut H'.length) a hF h1 h2 ha hok
theorem cx_of_xc {code : Code} {E : Env} {H : Heap} {K : X → Env → Heap → Prop} (h : xc P n code E H K) : cx P n code E H K :=
  fun F c a hF hs he ha hok => xc_sound code E H K F c a hF hs he ha hok h
/-- a loop, by what holds at each round's head -/
theorem loop_rule {σ : Type} (inv : σ → Env) (hv : σ → Heap) (μ : σ → Nat) {b : Code} {K : X → Env → Heap → Prop} (hn : ∀ s, n ≤ hlen (hv s))
    (round : ∀ s, xc P n b (inv s) (hv s) fun x E H => match x with
      | .normal => ∃ s', μ s' < μ s ∧ sub (inv s') (hv s') E H
      | .exit i => K (.exit i) E H
      | .ret => K .ret E H)
    (s : σ) {E : Env} {H : Heap} (h0 : sub (inv s) (hv s) E H) : cx P n (.loop b) E H K := by
  refine cx_sub h0 (hn s) fun F c a hF hs he ha hok => ?_
  refine wp_loop_ghost (fun m a' w' => ∃ s c', μ s = m ∧ c'.w = w' ∧ SR F c' (hv s) ∧ ER c' (inv s) a' ∧ AO F a') (μ s) ⟨s, c, rfl, rfl, hs, he, ha⟩ ?_
  rintro m a' w' ⟨s, c', rfl, rfl, hs, he, ha⟩
  refine wp_mono (xc_sound b _ _ _ F c' a' hF hs he ha hok (round s)) fun e a2 w2 hq => ?_
  cases e with
  | normal =>
    obtain ⟨c2, E2, H2, rfl, h1, h2, h3, s', hlt, hsub⟩ := hq
    refine ⟨μ s', hlt, s', c2.cut (hv s').length, rfl, rfl, ?_, ?_, h3⟩
    · have := hn s'
      rw [hlen_eq] at this
      exact h1.cut (Nat.le_trans hF this) hsub.2
    · have := ER_sub h2 hsub.1
      rw [hlen_eq] at this
      exact this
  | exit i => obtain ⟨c', E', H', h0, h1, h2, h3, h4⟩ := hq; exact ⟨c', E', H', h0, h1, h2, h3, h4⟩
  | ret => obtain ⟨c', E', H', h0, h1, h2, h3, h4⟩ := hq; exact ⟨c', E', H', h0, h1, h2, h3, h4⟩
  | goto l => exact hq.elim
  | panic ch => exact hq.elim
  | outgrown => exact hq.elim
/-- a slice that is nil is one of the call's own, too -/
theorem cx_virt {code : Code} {E : Env} {H : Heap} {K : X → Env → Heap → Prop} (t e : Nat) (f : Nat → List V) (ht : evt E [] t = .nil)
    (h : cx P n code (⟨t, 0, [], .own (some true) (hlen H) e 0 0 .loose⟩ :: E) (hadd H (.arr e 0 f)) K) : cx P n code E H K :=
  fun F c a hF hs he ha hok => by
    obtain ⟨h1, h2⟩ := hs.virt e f
    rw [hlen_eq, hadd_eq] at h
    refine h F { c with locs := c.locs ++ [none] } a hF h1 (fun t' => ?_) ha hok
    rw [get_cons]
    split
    · rename_i htt
      have htt' : t = t' := htt
      subst htt'
      refine ⟨fun _ => ?_, fun h => absurd trivial h⟩
      have hv := evt_top he t
      rw [ht] at hv
      simp only [VR] at hv
      rw [hv]
      simp only [VR]
      refine ⟨none, 0, rfl, ⟨Nat.le_refl _, fun C h => by cases h⟩, (fun h => by cases h), (fun b hb => by cases hb; simp), ?_⟩
      show match (c.locs ++ [none])[H.length]? with | some (some (b, m)) => _ | some none => _ | none => _
      rw [List.getElem?_append_right (by rw [hs.len]; exact Nat.le_refl _)]
      simp [hs.len]
    · exact ER_mono h2 he t'
end
end Go.VM
