import Derived.Test.YtbeimhhhgjaaaaaDoorWV3
section
set_option linter.unusedVariables false
set_option linter.unusedSimpArgs false
namespace Go.VM
def wkT (t t' : Tg) : Prop := t' = .loose ∨ t' = t
def wkN (a b : Option Bool) : Prop := b = none ∨ b = a
mutual
/-- the second one says no more than the first one -/
def wk : V → V → Prop
  | .bad, x => x = .bad
  | .nil, x => (match x with | .bad => True | .nil => True | .lst nl t e n f => n = 0 ∧ wkN (some true) nl ∧ t = .loose | _ => False)
  | .bool b, x => (match x with | .bad => True | .bool b' => b = b' | _ => False)
  | .int k b, x => (match x with | .bad => True | .int k' b' => k = k' ∧ b = b' | _ => False)
  | .str b, x => (match x with | .bad => True | .str b' => b = b' | _ => False)
  | .lst nl t e n f, x => (match x with | .bad => True | .lst nl' t' e' n' f' => n = n' ∧ e = e' ∧ wkN nl nl' ∧ wkT t t' ∧ ∀ i, i < n → wks (f i) (f' i) | _ => False)
  | .own nl r e off n t, x => (match x with | .bad => True | .own nl' r' e' off' n' t' => r = r' ∧ e = e' ∧ off = off' ∧ n = n' ∧ wkN nl nl' ∧ wkT t t' | _ => False)
  | .agg cs, x => (match x with | .bad => True | .agg cs' => wks cs cs' | _ => False)
  | .tup cs, x => (match x with | .bad => True | .tup cs' => wks cs cs' | _ => False)
  | .ptr r off, x => (match x with | .bad => True | .ptr r' off' => r = r' ∧ off = off' | _ => False)
  | .mp r, x => (match x with | .bad => True | .mp r' => r = r' | _ => False)
  | .eptr r e i off, x => (match x with | .bad => True | .eptr r' e' i' off' => r = r' ∧ e = e' ∧ i = i' ∧ off = off' | _ => False)
  | .iptr cs off, x => (match x with | .bad => True | .iptr cs' off' => off = off' ∧ wks cs cs' | _ => False)
  | .fn f a b, x => (match x with | .bad => True | .fn f' a' b' => f = f' ∧ wks a a' ∧ wks b b' | _ => False)
def wks : List V → List V → Prop
  | [], l => l = []
  | v :: vs, l => (match l with | v' :: vs' => wk v v' ∧ wks vs vs' | [] => False)
end
theorem wks_length : ∀ {vs vs' : List V}, wks vs vs' → vs'.length = vs.length
  | [], l, h => by simp only [wks] at h; subst h; rfl
  | v :: vs, [], h => by simp only [wks] at h
  | v :: vs, v' :: vs', h => by simp only [wks] at h; simp [wks_length h.2]
mutual
theorem wk_refl : ∀ v : V, wk v v
  | .bad | .nil | .bool _ | .int _ _ | .str _ | .ptr _ _ | .mp _ | .eptr _ _ _ _ => by simp [wk]
  | .own _ _ _ _ _ _ => by simp [wk, wkN, wkT]
  | .lst nl t e n f => by
    simp only [wk]
    exact ⟨trivial, trivial, .inr rfl, .inr rfl, fun i _ => wks_refl (f i)⟩
  | .agg cs => by simp only [wk]; exact wks_refl cs
  | .tup cs => by simp only [wk]; exact wks_refl cs
  | .iptr cs off => by simp only [wk]; exact ⟨trivial, wks_refl cs⟩
  | .fn f a b => by simp only [wk]; exact ⟨trivial, wks_refl a, wks_refl b⟩
theorem wks_refl : ∀ vs : List V, wks vs vs
  | [] => by simp [wks]
  | v :: vs => by simp only [wks]; exact ⟨wk_refl v, wks_refl vs⟩
end
theorem VR_bad {c : Ctx} {u : Value} : VR c .bad u := by simp only [VR]
theorem Nlr_wk {a b : Option Bool} {A : Option Addr} (h : wkN a b) (hA : Nlr a A) : Nlr b A := by
  rcases h with rfl | rfl
  · intro b hb; cases hb
  · exact hA
mutual
theorem VR_wk {c : Ctx} : ∀ (v v' : V) (u : Value), wk v v' → VR c v u → VR c v' u
  | .bad, v', u, h, _ => by simp only [wk] at h; subst h; exact VR_bad
  | .nil, v', u, h, H => by
    cases v' <;> simp only [wk] at h <;> first | exact VR_bad | exact H | exact h.elim | skip
    simp only [VR] at H ⊢
    subst H
    obtain ⟨rfl, h2, rfl⟩ := h
    refine ⟨none, 0, rfl, Nat.le_refl _, (fun _ => rfl), Nlr_wk h2 (fun b hb => by cases hb; simp), (fun _ => rfl), fun i hi => by omega⟩
  | .bool _, v', u, h, H => by cases v' <;> simp only [wk] at h <;> first | exact VR_bad | (subst h; exact H) | exact h.elim
  | .int _ _, v', u, h, H => by cases v' <;> simp only [wk] at h <;> first | exact VR_bad | (obtain ⟨rfl, rfl⟩ := h; exact H) | exact h.elim
  | .str _, v', u, h, H => by cases v' <;> simp only [wk] at h <;> first | exact VR_bad | (subst h; exact H) | exact h.elim
  | .ptr _ _, v', u, h, H => by cases v' <;> simp only [wk] at h <;> first | exact VR_bad | (obtain ⟨rfl, rfl⟩ := h; exact H) | exact h.elim
  | .mp _, v', u, h, H => by cases v' <;> simp only [wk] at h <;> first | exact VR_bad | (subst h; exact H) | exact h.elim
  | .eptr _ _ _ _, v', u, h, H => by cases v' <;> simp only [wk] at h <;> first | exact VR_bad | (obtain ⟨rfl, rfl, rfl, rfl⟩ := h; exact H) | exact h.elim
  | .own nl r e off n t, v', u, h, H => by
    cases v' <;> simp only [wk] at h <;> first | exact VR_bad | exact h.elim | skip
    obtain ⟨rfl, rfl, rfl, rfl, h1, h2⟩ := h
    simp only [VR] at H ⊢
    obtain ⟨A, cap, e1, ⟨e2, e3⟩, e4, e5, e6⟩ := H
    refine ⟨A, cap, e1, ⟨e2, fun C hC => ?_⟩, fun hC => ?_, Nlr_wk h1 e5, e6⟩
    · rcases h2 with rfl | rfl
      · cases hC
      · exact e3 C hC
    · rcases h2 with rfl | rfl
      · cases hC
      · exact e4 hC
  | .lst nl t e n f, v', u, h, H => by
    cases v' <;> simp only [wk] at h <;> first | exact VR_bad | exact h.elim | skip
    rename_i nl' t' e' n' f'
    obtain ⟨rfl, rfl, h1, h2, h3⟩ := h
    simp only [VR] at H ⊢
    obtain ⟨A, cap, e1, e2, e3, e4, e5, e6⟩ := H
    refine ⟨A, cap, e1, e2, fun hC => ?_, Nlr_wk h1 e4, e5, fun i hi => ?_⟩
    · rcases h2 with rfl | rfl
      · cases hC
      · exact e3 hC
    · obtain ⟨a, g1, g2, g3, g4, g5⟩ := e6 i hi
      exact ⟨a, g1, g2, (wks_length (h3 i hi)).trans g3, g4, VRs_wk (f i) (f' i) _ (h3 i hi) g5⟩
  | .agg cs, v', u, h, H => by
    cases v' <;> simp only [wk] at h <;> first | exact VR_bad | exact h.elim | skip
    simp only [VR] at H ⊢
    obtain ⟨us, e1, e2, e0, e3⟩ := H
    exact ⟨us, e1, by rw [wks_length h]; exact e2, by rw [wks_length h]; exact e0, VRs_wk cs _ _ h e3⟩
  | .tup cs, v', u, h, H => by
    cases v' <;> simp only [wk] at h <;> first | exact VR_bad | exact h.elim | skip
    simp only [VR] at H ⊢
    obtain ⟨us, e1, e2, e3⟩ := H
    exact ⟨us, e1, by rw [wks_length h]; exact e2, VRs_wk cs _ _ h e3⟩
  | .iptr cs off, v', u, h, H => by
    cases v' <;> simp only [wk] at h <;> first | exact VR_bad | exact h.elim | skip
    obtain ⟨rfl, h⟩ := h
    simp only [VR] at H ⊢
    obtain ⟨b, o, e1, e2, e0, e3⟩ := H
    exact ⟨b, o, e1, e2, by rw [wks_length h]; exact e0, VRs_wk cs _ _ h e3⟩
  | .fn f a b, v', u, h, H => by
    cases v' <;> simp only [wk] at h <;> first | exact VR_bad | exact h.elim | skip
    obtain ⟨rfl, h1, h2⟩ := h
    simp only [VR] at H ⊢
    obtain ⟨us, ws, e1, e2, e3, e4, e5⟩ := H
    exact ⟨us, ws, e1, by rw [wks_length h1]; exact e2, by rw [wks_length h2]; exact e3, VRs_wk a _ _ h1 e4, VRs_wk b _ _ h2 e5⟩
theorem VRs_wk {c : Ctx} : ∀ (vs vs' : List V) (g : Nat → Option Value), wks vs vs' → VRs c vs g → VRs c vs' g
  | [], l, g, h, H => by simp only [wks] at h; subst h; simp only [VRs]
  | v :: vs, [], g, h, H => by simp only [wks] at h
  | v :: vs, v' :: vs', g, h, H => by
    simp only [wks] at h
    simp only [VRs] at H ⊢
    obtain ⟨⟨u, e1, e2⟩, e3⟩ := H
    exact ⟨⟨u, e1, VR_wk v v' u h.1 e2⟩, VRs_wk vs vs' _ h.2 e3⟩
end
/-- likewise of blocks -/
def wkB : Blk → Blk → Prop
  | .box cs, x => (match x with | .dead => True | .box cs' => wks cs cs' | _ => False)
  | .arr e n f, x => (match x with | .dead => True | .arr e' n' f' => e = e' ∧ n' ≤ n ∧ ∀ i, i < n' → wks (f i) (f' i) | _ => False)
  | .mp es, x => (match x with | .dead => True | .mp es' => es = es' | _ => False)
  | .dead, x => x = .dead
def wkH : Heap → Heap → Prop
  | [], H => H = []
  | b :: H, l => (match l with | b' :: H' => wkB b b' ∧ wkH H H' | [] => False)
theorem wkB_refl (b : Blk) : wkB b b := by
  cases b with
  | box cs => exact wks_refl cs
  | arr e n f => exact ⟨rfl, Nat.le_refl _, fun i _ => wks_refl _⟩
  | mp es => exact (rfl : es = es)
  | dead => rfl
theorem wkH_refl : ∀ H : Heap, wkH H H
  | [] => rfl
  | b :: H => ⟨wkB_refl b, wkH_refl H⟩
theorem wkH_get : ∀ {H H' : Heap}, wkH H H' → H'.length = H.length ∧ ∀ (r : Nat) x', H'[r]? = some x' → ∃ x, H[r]? = some x ∧ wkB x x'
  | [], H', h => by simp only [wkH] at h; subst h; exact ⟨rfl, fun r x h => by simp at h⟩
  | b :: H, [], h => by simp only [wkH] at h
  | b :: H, b' :: H', h => by
    simp only [wkH] at h
    obtain ⟨g1, g2⟩ := wkH_get h.2
    refine ⟨by simp [g1], fun r x' hr => ?_⟩
    cases r with
    | zero => simp at hr; subst hr; exact ⟨b, rfl, h.1⟩
    | succ r => simpa using g2 r x' (by simpa using hr)
theorem wkB_live {x x' : Blk} (h : wkB x x') (hl : Live x') : Live x := by
  cases x <;> cases x' <;> simp_all [wkB, Live]
theorem Cont_wk {c : Ctx} {C : Obj} {cap : Nat} {x x' : Blk} (h : wkB x x') (H : Live x' → Cont c C cap x) : Cont c C cap x' := by
  cases x' with
  | dead => trivial
  | box cs' =>
    cases x with
    | dead => cases h
    | arr e n f => exact h.elim
    | mp es => exact h.elim
    | box cs =>
    have h : wks cs cs' := h
    obtain ⟨_, _, rfl, g1, g2, g3⟩ := H trivial
    exact ⟨_, _, rfl, by rw [wks_length h]; exact g1, by rw [wks_length h]; exact g2, VRs_wk _ _ _ h g3⟩
  | arr e' n' f' =>
    cases x with
    | dead => cases h
    | box cs => exact h.elim
    | mp es => exact h.elim
    | arr e n f =>
    obtain ⟨rfl, h2, h3⟩ := h
    obtain ⟨_, _, rfl, g1, g2, g3⟩ := H trivial
    refine ⟨_, _, rfl, g1, by omega, fun i hi => ?_⟩
    obtain ⟨k1, k2, k3⟩ := g3 i (by omega)
    exact ⟨(wks_length (h3 i hi)).trans k1, k2, VRs_wk _ _ _ (h3 i hi) k3⟩
  | mp es' =>
    cases x with
    | dead => cases h
    | box cs => exact h.elim
    | arr e n f => exact h.elim
    | mp es =>
    have h : es = es' := h
    subst h
    exact H trivial
theorem SR.wk {F : Fr} {c : Ctx} {H H' : Heap} (h : SR F c H) (hw : wkH H H') : SR F c H' := by
  obtain ⟨g1, g2⟩ := wkH_get hw
  refine ⟨h.fr, h.le, by rw [h.len, g1], fun r b l hr hl => ?_, fun r r' x x' b m m' hr hr' hx hx' hl hl' => ?_, h.imm, h.old⟩
  · obtain ⟨x, k1, k2⟩ := g2 r b hr
    have hb := h.blk r x l k1 hl
    cases l with
    | none =>
      cases b with
      | dead => trivial
      | box cs => cases x with
        | dead => cases k2
        | arr e n f => exact k2.elim
        | mp es => exact k2.elim
        | box cs => exact hb.elim
      | mp es => cases x with
        | dead => cases k2
        | arr e n f => exact k2.elim
        | mp es => exact hb.elim
        | box cs => exact k2.elim
      | arr e n f =>
        cases x with
        | dead => cases k2
        | box cs => exact k2.elim
        | mp es => exact k2.elim
        | arr e' m f' =>
          have h1 : m = 0 := hb
          have h2 : n ≤ m := k2.2.1
          show n = 0
          omega
    | some l =>
      obtain ⟨bb, m⟩ := l
      intro hlive
      obtain ⟨C, e1, e2, e3⟩ := hb (wkB_live k2 hlive)
      exact ⟨C, e1, Cont_wk k2 (fun _ => e2), e3⟩
  · obtain ⟨y, k1, k2⟩ := g2 r x hr
    obtain ⟨y', k1', k2'⟩ := g2 r' x' hr'
    exact h.inj r r' y y' b m m' k1 k1' (wkB_live k2 hx) (wkB_live k2' hx') hl hl'
/-- an environment that says no more -/
def wkE : Env → Env → Prop
  | [], _ => True
  | e :: r, E => wk (evt E [] e.t) e.v ∧ e.p = [] ∧ wkE r E
section
variable {P : Program} {n : Nat} {E : Env} {H : Heap} {K : X → Env → Heap → Prop}
theorem cw_wk {f : Nat} {args : List V} {K : V → Heap → Prop} (args' : List V) (H' : Heap) (h1 : wks args args') (h2 : wkH H H') (h : cw P f args' H' K) : cw P f args H K :=
  fun F c gt hs us hsz hus => h F c gt (hs.wk h2) us (by rw [wks_length h1]; exact hsz) (VRs_wk _ _ _ h1 hus)
theorem cwE_wk {f : Nat} {args : List V} {K : V → Heap → Prop} (args' : List V) (H' : Heap) (h1 : wks args args') (h2 : wkH H H') (h : cwE P f args' H' K) : cwE P f args H K :=
  ⟨h.1, fun F c gt hs us hsz hus => h.2 F c gt (hs.wk h2) us (by rw [wks_length h1]; exact hsz) (VRs_wk _ _ _ h1 hus)⟩
theorem Meets.wk {f : Nat} {args args' : List V} {v v' : V} {H1 H1' : Heap} (h : Meets P f args' v H1) (h1 : wks args args') (h2 : VM.wk v v') (h3 : wkH H1 H1') : Meets P f args v' H1' := by
  refine ⟨h.1, fun w I gt hI us hsz hus => Calls.mono (h.2 w I gt hI us (by rw [wks_length h1]; exact hsz) (VRs_wk _ _ _ h1 hus)) ?_⟩
  rintro e w' ⟨c', u, e1, e2, e3, e4⟩
  exact ⟨c', u, e1, e2, e3.wk h3, VR_wk _ _ _ h2 e4⟩
/-- a call's end: the results, and which of its blocks are kept -/
def finw (d : Nat) (σ : List Nat) (v : V) (H1 : Heap) (x : V) (H : Heap) : Prop :=
  okσ (hlen H) σ = true ∧ okH d σ H σ ∧ okW (okD σ H d) σ H x ∧ wk (frV d σ H x) v ∧ wkH (frH d σ H σ) H1
/-- what a loop's head says, a state says, too: of some first blocks -/
def hprew (n : Nat) : Heap → Heap → Prop
  | [], _ => True
  | b' :: H', l => (match l with | b :: H => wkB b b' ∧ ltb n b' ∧ hprew n H' H | [] => False)
def subEw (n : Nat) : Env → Env → Prop
  | [], _ => True
  | e :: r, E => wk (evt E [] e.t) e.v ∧ e.p = [] ∧ ltr n e.v = true ∧ subEw n r E
def subw (E' : Env) (H' : Heap) (E : Env) (H : Heap) : Prop := subEw (hlen H') E' E ∧ hprew (hlen H') H' H
theorem hprew_split {n : Nat} : ∀ {H' H : Heap}, hprew n H' H → ∃ H2, wkH H H2 ∧ hpre n H' H2
  | [], H, _ => ⟨H, wkH_refl H, trivial⟩
  | b' :: H', [], h => h.elim
  | b' :: H', b :: H, h => by
    obtain ⟨h1, h2, h3⟩ := h
    obtain ⟨H2, k1, k2⟩ := hprew_split h3
    exact ⟨b' :: H2, ⟨h1, k1⟩, rfl, h2, k2⟩
/-- an environment of values with blocks ahead of the n-th, alone, is kept by a cut -/
theorem ER_cutw {c : Ctx} {n : Nat} {E' E : Env} {a : Act} (hE : ER c E a) (h : subEw n E' E) : ER (c.cut n) E' a := by
  intro t
  have key : (get E' t).2.1 = [] ∧ VR (c.cut n) (get E' t).2.2 (tmpOf a t) := by
    induction E' with
    | nil => exact ⟨rfl, by simp [get, VR]⟩
    | cons e r ih =>
      obtain ⟨h1, h2, h3, h4⟩ := h
      rw [get_cons]
      by_cases he : e.t = t
      · rw [if_pos he]
        subst he
        exact ⟨h2, VR_cut _ _ h3 (VR_wk _ _ _ h1 (evt_top hE _))⟩
      · rw [if_neg he]
        exact ih h4
  rw [key.1]
  exact ⟨fun _ => key.2, fun h => absurd trivial h⟩
/-- a test whose value is known by name -/
theorem cx_if {c : Operand} {t e : Code} (b : Bool) (hb : ev (clean E) [] c = .bool b) (h1 : b = true → cx P n t E H K) (h2 : b = false → cx P n e E H K) : cx P n (.cond c t e) E H K :=
  cx_cond (by rw [hb]; exact ⟨h1, h2⟩)
end
end Go.VM
end
section
set_option linter.unusedVariables false
set_option linter.unusedSimpArgs false
namespace Go.VM
section
variable (g : Nat → Option Nat)
mutual
/-- blocks under other numbers; what has none is not known -/
def rnV : V → V
  | .own nl r e off n t => (match g r with | some i => .own nl i e off n t | none => .bad)
  | .ptr r off => (match g r with | some i => .ptr i off | none => .bad)
  | .eptr r e i off => (match g r with | some j => .eptr j e i off | none => .bad)
  | .mp r => (match g r with | some i => .mp i | none => .bad)
  | .agg cs => .agg (rnVs cs)
  | .tup cs => .tup (rnVs cs)
  | .fn f a b => .fn f (rnVs a) (rnVs b)
  | v => v
def rnVs : List V → List V
  | [] => []
  | v :: vs => rnV v :: rnVs vs
end
def rnB : Blk → Blk
  | .box cs => .box (rnVs g cs)
  | .arr e n f => .arr e n fun i => rnVs g (f i)
  | .mp es => .mp (mMap (rnV g) es)
  | .dead => .dead
def rnH : Heap → Heap
  | [] => []
  | b :: H => rnB g b :: rnH H
end
theorem rnVs_length (g : Nat → Option Nat) (vs : List V) : (rnVs g vs).length = vs.length := by
  induction vs with
  | nil => simp [rnVs]
  | cons v vs ih => simp [rnVs, ih]
theorem rnH_get (g : Nat → Option Nat) (H : Heap) (r : Nat) : (rnH g H)[r]? = (H[r]?).map (rnB g) := by
  induction H generalizing r with
  | nil => simp [rnH]
  | cons b H ih => cases r <;> simp [rnH, ih]
theorem rnH_length (g : Nat → Option Nat) (H : Heap) : (rnH g H).length = H.length := by
  induction H with
  | nil => simp [rnH]
  | cons b H ih => simp [rnH, ih]
theorem Live_rn {g : Nat → Option Nat} {x : Blk} : Live (rnB g x) ↔ Live x := by cases x <;> simp [rnB, Live]
section
variable {c : Ctx} {g : Nat → Option Nat} {I : Nat → Prop} {L : List (Option (Nat × Nat))}
mutual
theorem VR_rn (hI : ∀ b, c.I b → I b) (hL : ∀ (r i : Nat) (l : Option (Nat × Nat)), g r = some i → c.locs[r]? = some l → L[i]? = some l) : ∀ (v : V) (u : Value), VR c v u → VR ⟨c.w, I, L⟩ (rnV g v) u
  | .bad, _, _ => by simp only [rnV, VR]
  | .nil, _, h => by simpa only [rnV, VR] using h
  | .bool _, _, h => by simpa only [rnV, VR] using h
  | .int _ _, _, h => by simpa only [rnV, VR] using h
  | .str _, _, h => by simpa only [rnV, VR] using h
  | .lst nl t e m f, u, h => by
    simp only [rnV]
    exact VR_mono (c := ⟨c.w, c.I, []⟩) (c' := ⟨c.w, I, L⟩) ⟨fun r x e => by simp at e, hI, fun _ _ => rfl⟩ _ _ (by simpa only [VR] using h)
  | .iptr cs off, u, h => by
    simp only [rnV]
    exact VR_mono (c := ⟨c.w, c.I, []⟩) (c' := ⟨c.w, I, L⟩) ⟨fun r x e => by simp at e, hI, fun _ _ => rfl⟩ _ _ (by simpa only [VR] using h)
  | .own nl r e off n t, u, h => by
    simp only [rnV]
    cases hg : g r with
    | none => simp only [VR]
    | some i =>
      simp only [VR] at h ⊢
      obtain ⟨A, cap, e1, e2, e3, e4, e5⟩ := h
      refine ⟨A, cap, e1, e2, e3, e4, ?_⟩
      cases hr : c.locs[r]? with
      | none => rw [hr] at e5; exact e5.elim
      | some l => rw [hL r i l hg hr]; rw [hr] at e5; exact e5
  | .ptr r off, u, h => by
    simp only [rnV]
    cases hg : g r with
    | none => simp only [VR]
    | some i =>
      simp only [VR] at h ⊢
      cases hr : c.locs[r]? with
      | none => rw [hr] at h; exact h.elim
      | some l => rw [hL r i l hg hr]; rw [hr] at h; exact h
  | .mp r, u, h => by
    simp only [rnV]
    cases hg : g r with
    | none => simp only [VR]
    | some i =>
      simp only [VR] at h ⊢
      cases hr : c.locs[r]? with
      | none => rw [hr] at h; exact h.elim
      | some l => rw [hL r i l hg hr]; rw [hr] at h; exact h
  | .eptr r e j off, u, h => by
    simp only [rnV]
    cases hg : g r with
    | none => simp only [VR]
    | some i =>
      simp only [VR] at h ⊢
      cases hr : c.locs[r]? with
      | none => rw [hr] at h; exact h.elim
      | some l => rw [hL r i l hg hr]; rw [hr] at h; exact h
  | .agg cs, u, h => by
    simp only [rnV, VR] at h ⊢
    obtain ⟨us, e1, e2, e0, e3⟩ := h
    exact ⟨us, e1, by rw [rnVs_length]; exact e2, by rw [rnVs_length]; exact e0, VRs_rn hI hL cs _ e3⟩
  | .tup cs, u, h => by
    simp only [rnV, VR] at h ⊢
    obtain ⟨us, e1, e2, e3⟩ := h
    exact ⟨us, e1, by rw [rnVs_length]; exact e2, VRs_rn hI hL cs _ e3⟩
  | .fn f a b, u, h => by
    simp only [rnV, VR] at h ⊢
    obtain ⟨us, ws, e1, e2, e3, e4, e5⟩ := h
    exact ⟨us, ws, e1, by rw [rnVs_length]; exact e2, by rw [rnVs_length]; exact e3, VRs_rn hI hL a _ e4, VRs_rn hI hL b _ e5⟩
theorem VRs_rn (hI : ∀ b, c.I b → I b) (hL : ∀ (r i : Nat) (l : Option (Nat × Nat)), g r = some i → c.locs[r]? = some l → L[i]? = some l) : ∀ (vs : List V) (gt : Nat → Option Value), VRs c vs gt → VRs ⟨c.w, I, L⟩ (rnVs g vs) gt
  | [], _, _ => by simp only [rnVs, VRs]
  | v :: vs, gt, h => by
    simp only [rnVs, VRs] at h ⊢
    obtain ⟨⟨u, e1, e2⟩, e3⟩ := h
    exact ⟨⟨u, e1, VR_rn hI hL v u e2⟩, VRs_rn hI hL vs _ e3⟩
end
theorem Cont_rn (hI : ∀ b, c.I b → I b) (hL : ∀ (r i : Nat) (l : Option (Nat × Nat)), g r = some i → c.locs[r]? = some l → L[i]? = some l) {C : Obj} {cap : Nat} {x : Blk} (h : Cont c C cap x) : Cont ⟨c.w, I, L⟩ C cap (rnB g x) := by
  cases x with
  | box cs => obtain ⟨_, _, rfl, h⟩ := h; exact ⟨_, _, rfl, by rw [rnVs_length]; exact h.1, by rw [rnVs_length]; exact h.2.1, VRs_rn hI hL _ _ h.2.2⟩
  | arr e m f => obtain ⟨_, _, rfl, h⟩ := h; exact ⟨_, _, rfl, h.1, h.2.1, fun i hi => ⟨by rw [rnVs_length]; exact (h.2.2 i hi).1, (h.2.2 i hi).2.1, VRs_rn hI hL _ _ (h.2.2 i hi).2.2⟩⟩
  | mp es => obtain ⟨A, k, rfl, h⟩ := h; exact ⟨A, k, rfl, h.mapM fun x _ u hu => VR_rn hI hL x.2 u hu⟩
  | dead => trivial
end
/-- some blocks alone, in this order -/
def selH (τ : List Nat) (H : Heap) : List Nat → Heap
  | [] => []
  | r :: l => rnB (idx τ) (hget H r) :: selH τ H l
abbrev Ctx.sel (c : Ctx) (τ : List Nat) : Ctx := ⟨c.w, c.I, τ.map fun r => (match c.locs[r]? with | some l => l | none => none)⟩
theorem selH_get {τ : List Nat} {H : Heap} (l : List Nat) (i : Nat) : (selH τ H l)[i]? = (l[i]?).map fun r => rnB (idx τ) (hget H r) := by
  induction l generalizing i with
  | nil => simp [selH]
  | cons r l ih => cases i <;> simp [selH, ih]
theorem selH_length {τ : List Nat} {H : Heap} (l : List Nat) : (selH τ H l).length = l.length := by
  induction l with
  | nil => simp [selH]
  | cons r l ih => simp [selH, ih]
theorem idx_get {σ : List Nat} (hnd : σ.Nodup) {i r : Nat} (h : σ[i]? = some r) : idx σ r = some i := by
  cases hi : idx σ r with
  | none => exact absurd (List.mem_of_getElem? h) (idx_none hi)
  | some j =>
    have := idx_some hi
    rw [(List.getElem?_inj (List.getElem?_eq_some_iff.1 this).1 hnd).1 (this.trans h.symm)]
section
variable {F : Fr} {c : Ctx} {H : Heap} {τ : List Nat}
theorem sel_loc (hs : SR F c H) (hτ : okσ H.length τ = true) : (∀ (i : Nat) (l : Option (Nat × Nat)), (c.sel τ).locs[i]? = some l → ∃ r, τ[i]? = some r ∧ c.locs[r]? = some l) ∧
    (∀ (r i : Nat) (l : Option (Nat × Nat)), idx τ r = some i → c.locs[r]? = some l → (c.sel τ).locs[i]? = some l) := by
  obtain ⟨hnd, hlt⟩ := okσ_spec hτ
  constructor
  · intro i l hl
    simp only [List.getElem?_map, Option.map_eq_some_iff] at hl
    obtain ⟨r, hr, hl⟩ := hl
    refine ⟨r, hr, ?_⟩
    have : r < c.locs.length := by rw [hs.len]; exact hlt r (List.mem_of_getElem? hr)
    rw [List.getElem?_eq_getElem this] at hl ⊢
    simp only at hl
    rw [hl]
  · intro r i l hi hl
    simp only [List.getElem?_map, idx_some hi, Option.map_some, hl]
/-- where the call began, of some blocks alone -/
theorem SR.sel (hs : SR F c H) (hτ : okσ H.length τ = true) (h0 : ∀ (r : Nat) (x : Option (Nat × Nat)), F.c0.locs[r]? = some x → (c.sel τ).locs[r]? = some x) : SR F (c.sel τ) (selH τ H τ) := by
  obtain ⟨hnd, hlt⟩ := okσ_spec hτ
  obtain ⟨hl1, hl2⟩ := sel_loc hs hτ
  refine ⟨hs.fr, ⟨h0, hs.le.I, hs.le.heap⟩, by simp [selH_length], fun i x l hi hl => ?_, fun i i' x x' b m m' hi hi' hx hx' hl hl' => ?_, hs.imm, hs.old⟩
  · rw [selH_get] at hi
    obtain ⟨r, hr, hlr⟩ := hl1 i l hl
    rw [hr] at hi
    simp only [Option.map_some, Option.some.injEq] at hi
    subst hi
    obtain ⟨g1, g2⟩ := hs.get hlr
    cases l with
    | none =>
      cases hx : hget H r with
      | box cs => rw [hx] at g2; exact g2.elim
      | arr e n f => rw [hx] at g2; exact g2
      | mp es => rw [hx] at g2; exact g2.elim
      | dead => trivial
    | some l =>
      obtain ⟨b, m⟩ := l
      intro hlive
      obtain ⟨C, k1, k2, k3, k4⟩ := g2 (Live_rn.1 hlive)
      exact ⟨C, k1, Cont_rn (fun _ h => h) hl2 k2, k3, k4⟩
  · obtain ⟨r, hr, hlr⟩ := hl1 i _ hl
    obtain ⟨r', hr', hlr'⟩ := hl1 i' _ hl'
    rw [selH_get, hr] at hi
    rw [selH_get, hr'] at hi'
    simp only [Option.map_some, Option.some.injEq] at hi hi'
    subst hi hi'
    have := hs.inj r r' _ _ b m m' (hs.get hlr).1 (hs.get hlr').1 (Live_rn.1 hx) (Live_rn.1 hx') hlr hlr'
    subst this
    exact (List.getElem?_inj (List.getElem?_eq_some_iff.1 hr).1 hnd).1 (hr.trans hr'.symm)
/-- the frame of a call that may write these blocks -/
abbrev Fr.sel (c : Ctx) (H : Heap) (τ : List Nat) : Fr := ⟨c.sel τ, fun b => ∃ r m x, r ∈ τ ∧ H[r]? = some x ∧ Live x ∧ c.locs[r]? = some (some (b, m)), 0, none, []⟩
theorem SR.sel_here (hs : SR F c H) (hτ : okσ H.length τ = true) : SR (Fr.sel c H τ) (c.sel τ) (selH τ H τ) := by
  obtain ⟨hnd, hlt⟩ := okσ_spec hτ
  obtain ⟨hl1, hl2⟩ := sel_loc hs hτ
  refine ⟨⟨rfl, rfl, rfl, Nat.le_refl _, fun _ _ _ => rfl⟩, Le.refl _, by simp [selH_length], fun i x l hi hl => ?_, fun i i' x x' b m m' hi hi' hx hx' hl hl' => ?_, hs.imm, fun b h => .inl h⟩
  · rw [selH_get] at hi
    obtain ⟨r, hr, hlr⟩ := hl1 i l hl
    rw [hr] at hi
    simp only [Option.map_some, Option.some.injEq] at hi
    subst hi
    obtain ⟨g1, g2⟩ := hs.get hlr
    cases l with
    | none =>
      cases hx : hget H r with
      | box cs => rw [hx] at g2; exact g2.elim
      | arr e n f => rw [hx] at g2; exact g2
      | mp es => rw [hx] at g2; exact g2.elim
      | dead => trivial
    | some l =>
      obtain ⟨b, m⟩ := l
      intro hlive
      obtain ⟨C, k1, k2, k3, k4⟩ := g2 (Live_rn.1 hlive)
      exact ⟨C, k1, Cont_rn (fun _ h => h) hl2 k2, k3, .inr ⟨r, m, _, List.mem_of_getElem? hr, g1, Live_rn.1 hlive, hlr⟩⟩
  · obtain ⟨r, hr, hlr⟩ := hl1 i _ hl
    obtain ⟨r', hr', hlr'⟩ := hl1 i' _ hl'
    rw [selH_get, hr] at hi
    rw [selH_get, hr'] at hi'
    simp only [Option.map_some, Option.some.injEq] at hi hi'
    subst hi hi'
    have := hs.inj r r' _ _ b m m' (hs.get hlr).1 (hs.get hlr').1 (Live_rn.1 hx) (Live_rn.1 hx') hlr hlr'
    subst this
    exact (List.getElem?_inj (List.getElem?_eq_some_iff.1 hr).1 hnd).1 (hr.trans hr'.symm)
end
/-- blocks back under the caller's numbers: the first ones are these, others come behind -/
def bkf : List Nat → Nat → Nat → Nat
  | [], n, i => n + i
  | r :: _, _, 0 => r
  | _ :: ρ, n, i + 1 => bkf ρ n i
/-- the caller's blocks behind the call -/
def updH : Heap → List Nat → Heap → Heap
  | H, [], l => happ H l
  | H, r :: ρ, l => (match l with | b :: l => updH (hset H r b) ρ l | [] => H)
theorem bkf_lt : ∀ (ρ : List Nat) (n i : Nat), i < ρ.length → ρ[i]? = some (bkf ρ n i)
  | [], _, _, h => by simp at h
  | r :: ρ, n, 0, _ => by simp [bkf]
  | r :: ρ, n, i + 1, h => by simpa [bkf] using bkf_lt ρ n i (by simpa using h)
theorem bkf_ge : ∀ (ρ : List Nat) (n i : Nat), ρ.length ≤ i → bkf ρ n i = n + (i - ρ.length)
  | [], _, _, _ => by simp [bkf]
  | r :: ρ, n, 0, h => by simp at h
  | r :: ρ, n, i + 1, h => by
    have := bkf_ge ρ n i (by simpa using h)
    simp only [bkf, this, List.length_cons]
    omega
theorem updH_spec : ∀ (ρ : List Nat) (H l : Heap), ρ.Nodup → (∀ r ∈ ρ, r < H.length) → ρ.length ≤ l.length →
    (updH H ρ l).length = H.length + (l.length - ρ.length) ∧ (∀ (i r : Nat), ρ[i]? = some r → (updH H ρ l)[r]? = l[i]?) ∧ (∀ r : Nat, r < H.length → r ∉ ρ → (updH H ρ l)[r]? = H[r]?) ∧
    (∀ r : Nat, H.length ≤ r → (updH H ρ l)[r]? = l[ρ.length + (r - H.length)]?)
  | [], H, l, _, _, _ => by
    simp only [updH, happ_eq]
    refine ⟨by simp, fun i r h => by simp at h, fun r hr _ => List.getElem?_append_left hr, fun r hr => ?_⟩
    rw [List.getElem?_append_right hr]
    simp
  | r0 :: ρ, H, [], _, _, h => by simp at h
  | r0 :: ρ, H, b :: l, hnd, hlt, hle => by
    obtain ⟨h1, h2⟩ := List.nodup_cons.1 hnd
    have hr0 := hlt r0 (by simp)
    obtain ⟨k1, k2, k3, k4⟩ := updH_spec ρ (hset H r0 b) l h2 (fun r hr => by rw [hset_length]; exact hlt r (by simp [hr])) (by simpa using hle)
    rw [hset_length] at k1 k3 k4
    simp only [updH]
    refine ⟨by rw [k1]; simp, fun i r hi => ?_, fun r hr hn => ?_, fun r hr => ?_⟩
    · cases i with
      | zero =>
        simp only [List.getElem?_cons_zero, Option.some.injEq] at hi
        subst hi
        rw [k3 _ hr0 h1, hset_get, if_pos ⟨rfl, hr0⟩]
        simp
      | succ i => simpa using k2 i r (by simpa using hi)
    · simp only [List.mem_cons, not_or] at hn
      rw [k3 r hr hn.2, hset_get, if_neg (by rintro ⟨rfl, _⟩; exact hn.1 rfl)]
    · rw [k4 r hr]
      have : (r0 :: ρ).length + (r - H.length) = ρ.length + (r - H.length) + 1 := by simp; omega
      rw [this, List.getElem?_cons_succ]
section
variable {F : Fr} {c : Ctx} {H : Heap} {ρ : List Nat}
/-- THE STATE BEHIND A CALL THAT MAY WRITE THESE BLOCKS. -/
theorem SR.frame (hs : SR F c H) (hρ : okσ H.length ρ = true) {c3 : Ctx} {H1 : Heap} (h3 : SR (Fr.sel c H ρ) c3 H1) (hle : ρ.length ≤ H1.length) :
    SR F ⟨c3.w, c3.I, c.locs ++ c3.locs.drop ρ.length⟩ (updH H ρ (rnH (fun i => some (bkf ρ H.length i)) H1)) ∧ Le c ⟨c3.w, c3.I, c.locs ++ c3.locs.drop ρ.length⟩ ∧
    ∀ v u, VR c3 v u → VR ⟨c3.w, c3.I, c.locs ++ c3.locs.drop ρ.length⟩ (rnV (fun i => some (bkf ρ H.length i)) v) u := by
  obtain ⟨hnd, hlt⟩ := okσ_spec hρ
  have hlen := hs.len
  have hlen3 := h3.len
  obtain ⟨u1, u2, u3, u4⟩ := updH_spec ρ H (rnH (fun i => some (bkf ρ H.length i)) H1) hnd hlt (by rw [rnH_length]; exact hle)
  -- places of the blocks
  have hl2 := (sel_loc hs hρ).2
  have hloc3 : ∀ (i r : Nat) (l : Option (Nat × Nat)), ρ[i]? = some r → c.locs[r]? = some l → c3.locs[i]? = some l := fun i r l hi hl => h3.le.locs i l (hl2 r i l (idx_get hnd hi) hl)
  have hlocs : ∀ (i : Nat) (l : Option (Nat × Nat)), c3.locs[i]? = some l → (c.locs ++ c3.locs.drop ρ.length)[bkf ρ H.length i]? = some l := by
    intro i l hl
    by_cases hi : i < ρ.length
    · have hr := bkf_lt ρ H.length i hi
      have hrl := hlt _ (List.mem_of_getElem? hr)
      rw [List.getElem?_append_left (by omega)]
      have h1 : c.locs[bkf ρ H.length i]? = some (c.locs[bkf ρ H.length i]'(by omega)) := List.getElem?_eq_getElem (by omega)
      have := hloc3 i _ _ hr h1
      rw [hl] at this
      rw [h1, ← Option.some.inj this]
    · rw [bkf_ge ρ _ i (by omega), List.getElem?_append_right (by omega), List.getElem?_drop]
      rw [show ρ.length + (H.length + (i - ρ.length) - c.locs.length) = i from by omega]
      exact hl
  have hbk : ∀ (r i : Nat) (l : Option (Nat × Nat)), (fun i => some (bkf ρ H.length i)) r = some i → c3.locs[r]? = some l → (c.locs ++ c3.locs.drop ρ.length)[i]? = some l := by
    intro r i l h hl
    simp only [Option.some.injEq] at h
    subst h
    exact hlocs r l hl
  -- blocks that were there
  have hX : ∀ b, (Fr.sel c H ρ).X b → ¬ c.I b ∧ Wr F b ∧ b < c.w.heap.size := by
    rintro b ⟨r, m, x, h1, h2, h3, h4⟩
    obtain ⟨C, k1, _, k3, k4⟩ := hs.blk r x _ h2 h4 h3
    exact ⟨k3, k4, (Array.getElem?_eq_some_iff.1 k1).1⟩
  have hsame : ∀ b, b < c.w.heap.size → ¬ (Fr.sel c H ρ).X b → c3.w.heap[b]? = c.w.heap[b]? := fun b hb hx => h3.fr.block b hb hx
  have hsz : c.w.heap.size ≤ c3.w.heap.size := h3.fr.size
  have hJ1 : ∀ b, c3.I b → c.I b ∨ c.w.heap.size ≤ b := h3.old
  have hle' : Le c ⟨c3.w, c3.I, c.locs ++ c3.locs.drop ρ.length⟩ :=
    ⟨fun r x e => by rw [List.getElem?_append_left (List.getElem?_eq_some_iff.1 e).1]; exact e, h3.le.I, fun b hb => hsame b (hs.imm b hb) fun hx => (hX b hx).1 hb⟩
  have hWr : ∀ b, Wr (Fr.sel c H ρ) b → Wr F b := by
    rintro b (hb | hb)
    · exact .inl (Nat.le_trans hs.fr.size hb)
    · exact (hX b hb).2.1
  have key : ∀ (r : Nat) (y : Blk) (l : Option (Nat × Nat)), (updH H ρ (rnH (fun i => some (bkf ρ H.length i)) H1))[r]? = some y → (c.locs ++ c3.locs.drop ρ.length)[r]? = some l →
      (r ∉ ρ ∧ H[r]? = some y ∧ c.locs[r]? = some l) ∨ (∃ i x, r = bkf ρ H.length i ∧ H1[i]? = some x ∧ y = rnB (fun i => some (bkf ρ H.length i)) x ∧ c3.locs[i]? = some l) := by
    intro r y l hr hl
    by_cases hlt' : r < H.length
    · rw [List.getElem?_append_left (by omega)] at hl
      by_cases hm : r ∈ ρ
      · obtain ⟨i, hi, hri⟩ := List.getElem_of_mem hm
        have hi' : ρ[i]? = some r := by rw [List.getElem?_eq_getElem hi, hri]
        rw [u2 i r hi', rnH_get] at hr
        cases hx : H1[i]? with
        | none => rw [hx] at hr; cases hr
        | some x =>
          rw [hx] at hr
          simp only [Option.map_some, Option.some.injEq] at hr
          have hb := bkf_lt ρ H.length i hi
          rw [hi'] at hb
          exact .inr ⟨i, x, Option.some.inj hb, hx, hr.symm, hloc3 i r l hi' hl⟩
      · rw [u3 r hlt' hm] at hr
        exact .inl ⟨hm, hr, hl⟩
    · rw [u4 r (by omega), rnH_get] at hr
      rw [List.getElem?_append_right (by omega), List.getElem?_drop] at hl
      cases hx : H1[ρ.length + (r - H.length)]? with
      | none => rw [hx] at hr; cases hr
      | some x =>
        rw [hx] at hr
        simp only [Option.map_some, Option.some.injEq] at hr
        refine .inr ⟨ρ.length + (r - H.length), x, ?_, hx, hr.symm, ?_⟩
        · rw [bkf_ge _ _ _ (by omega)]; omega
        · rw [hlen] at hl; exact hl
  refine ⟨⟨?_, hs.le.trans hle', ?_, ?_, ?_, h3.imm, ?_⟩, hle', fun v u h => VR_rn (fun _ h => h) hbk v u h⟩
  · refine ⟨h3.fr.os.trans hs.fr.os, h3.fr.tape.trans hs.fr.tape, h3.fr.output.trans hs.fr.output, Nat.le_trans hs.fr.size hsz, fun k hk hx => ?_⟩
    show c3.w.heap[k]? = _
    rw [hsame k (Nat.lt_of_lt_of_le hk hs.fr.size) fun hx' => ?_]
    · exact hs.fr.block k hk hx
    · rcases (hX k hx').2.1 with h | h
      · omega
      · exact hx h
  · rw [u1, rnH_length]
    simp [hlen, hlen3]
  · intro r y l hr hl
    rcases key r y l hr hl with ⟨a0, a1, a2⟩ | ⟨i, x, rfl, a2, rfl, a4⟩
    · refine (hs.blk r y l a1 a2).mono hle' fun b m e hlive => ?_
      subst e
      obtain ⟨O', g1, _, g3, _⟩ := hs.blk r y _ a1 a2 hlive
      have hb : b < c.w.heap.size := (Array.getElem?_eq_some_iff.1 g1).1
      refine ⟨hsame b hb ?_, fun hj => ?_⟩
      · rintro ⟨r', m', x', h1, h2, h4, h5⟩
        have := hs.inj r r' y x' b m m' a1 h2 hlive h4 a2 h5
        subst this
        exact a0 h1
      · rcases hJ1 b hj with h | h
        · exact g3 h
        · omega
    · have hb := h3.blk i x l a2 a4
      cases l with
      | none => cases x <;> first | exact hb | exact hb.elim
      | some l =>
        obtain ⟨b, m⟩ := l
        intro hlive
        obtain ⟨C, g1, g2, g3, g4⟩ := hb (Live_rn.1 hlive)
        exact ⟨C, g1, Cont_rn (c := c3) (I := c3.I) (fun _ h => h) hbk g2, g3, hWr b g4⟩
  · intro r r' y y' b m m' hr hr' hy hy' hl hl'
    have hnew : ∀ (i : Nat) (x : Blk), H1[i]? = some x → Live x → c3.locs[i]? = some (some (b, m)) → ∀ (q : Nat) (z : Blk) (m2 : Nat), q ∉ ρ → H[q]? = some z → Live z → c.locs[q]? = some (some (b, m2)) → False := by
      intro i x hx hlx hlc q z m2 hq hz hlz hlq
      obtain ⟨C, k1, _, _, _⟩ := hs.blk q z _ hz hlq hlz
      have hbs : b < c.w.heap.size := (Array.getElem?_eq_some_iff.1 k1).1
      obtain ⟨O', _, _, _, h4 | h4⟩ := h3.blk i x _ hx hlc hlx
      · have : c.w.heap.size ≤ b := h4
        omega
      · obtain ⟨r', m', x', h1, h2, h5, h6⟩ := h4
        have := hs.inj q r' z x' b m2 m' hz h2 hlz h5 hlq h6
        subst this
        exact hq h1
    have hnew' : ∀ (i : Nat) (x : Blk), H1[i]? = some x → Live x → c3.locs[i]? = some (some (b, m')) → ∀ (q : Nat) (z : Blk) (m2 : Nat), q ∉ ρ → H[q]? = some z → Live z → c.locs[q]? = some (some (b, m2)) → False := by
      intro i x hx hlx hlc q z m2 hq hz hlz hlq
      obtain ⟨C, k1, _, _, _⟩ := hs.blk q z _ hz hlq hlz
      have hbs : b < c.w.heap.size := (Array.getElem?_eq_some_iff.1 k1).1
      obtain ⟨O', _, _, _, h4 | h4⟩ := h3.blk i x _ hx hlc hlx
      · have : c.w.heap.size ≤ b := h4
        omega
      · obtain ⟨r', m', x', h1, h2, h5, h6⟩ := h4
        have := hs.inj q r' z x' b m2 m' hz h2 hlz h5 hlq h6
        subst this
        exact hq h1
    rcases key r y _ hr hl with ⟨a0, a1, a2⟩ | ⟨i, x, rfl, a2, rfl, a4⟩ <;> rcases key r' y' _ hr' hl' with ⟨b0, b1, b2⟩ | ⟨i', x', rfl, b2, rfl, b4⟩
    · exact hs.inj r r' y y' b m m' a1 b1 hy hy' a2 b2
    · exact (hnew' i' x' b2 (Live_rn.1 hy') b4 r y m a0 a1 hy a2).elim
    · exact (hnew i x a2 (Live_rn.1 hy) a4 r' y' m' b0 b1 hy' b2).elim
    · rw [h3.inj i i' x x' b m m' a2 b2 (Live_rn.1 hy) (Live_rn.1 hy') a4 b4]
  · intro b hb
    rcases hJ1 b hb with h | h
    · exact hs.old b h
    · exact .inr (Nat.le_trans hs.fr.size h)
end
/-- the first n numbers, in order, and others behind them -/
def preσ : Nat → Nat → List Nat → Bool
  | _, 0, _ => true
  | _, _ + 1, [] => false
  | k, n + 1, r :: l => band (Nat.beq r k) (preσ (k + 1) n l)
theorem preσ_get : ∀ (n k : Nat) (l : List Nat), preσ k n l = true → ∀ i, i < n → l[i]? = some (k + i)
  | 0, _, _, _, i, h => by omega
  | n + 1, _, [], h, _, _ => by simp [preσ] at h
  | n + 1, k, r :: l, h, i, hi => by
    simp only [preσ] at h
    obtain ⟨h1, h2⟩ := band_true h
    cases i with
    | zero => simp [beq_nat h1]
    | succ i =>
      have := preσ_get n (k + 1) l h2 i (by omega)
      simp only [List.getElem?_cons_succ, this]
      congr 1
      omega
/-- what a call over some blocks alone comes to: they, under their numbers, and others behind them (`τ`: which ones are kept) -/
def Ends (n : Nat) (v : V) (H1 : Heap) (x : V) (H : Heap) : Prop := ∃ τ, okσ (hlen H) τ = true ∧ preσ 0 n τ = true ∧ wk (rnV (idx τ) x) v ∧ wkH (selH τ H τ) H1
/-- THE CONTRACT OF A CALL THAT MAY WRITE BLOCKS OF ITS CALLER'S. -/
def Does (P : Program) (f : Nat) (args : List V) (H0 : Heap) (v : V) (H1 : Heap) : Prop := cw P f args H0 (Ends (hlen H0) v H1)
theorem wkH_length {H H' : Heap} (h : wkH H H') : H'.length = H.length := (wkH_get h).1
/-- a call by such a contract: `ρ` tells which blocks of the caller's are the contract's first ones -/
theorem cw_does {P : Program} {f : Nat} {args args' : List V} {H0 H1 H : Heap} {v : V} (h : Does P f args' H0 v H1) (ρ : List Nat) (hρ : okσ (hlen H) ρ = true)
    (ha : wks (rnVs (idx ρ) args) args') (hH : wkH (selH ρ H ρ) H0) {K : V → Heap → Prop} (hk : K (rnV (fun i => some (bkf ρ (hlen H) i)) v) (updH H ρ (rnH (fun i => some (bkf ρ (hlen H) i)) H1))) : cw P f args H K := by
  rw [hlen_eq] at hρ
  rw [hlen_eq] at hk
  refine fun F c gt hs us hsz hus => ?_
  have gt2 : GF P (Fr.sel c H ρ) := fun c3 H3 h3 => by
    have hl : ρ.length ≤ H3.length := by
      rcases Nat.lt_or_ge H3.length ρ.length with hlt | hge
      · have h0 : (Fr.sel c H ρ).c0.locs.length = ρ.length := by show (c.sel ρ).locs.length = _; simp
        have hg : (Fr.sel c H ρ).c0.locs[H3.length]? = some ((Fr.sel c H ρ).c0.locs[H3.length]'(by omega)) := List.getElem?_eq_getElem _
        have h1 := h3.le.locs _ _ hg
        have h2 := (List.getElem?_eq_some_iff.1 h1).1
        rw [h3.len] at h2
        omega
      · exact hge
    have k := gt _ _ (hs.frame hρ h3 hl).1
    exact k
  have h2 := (hs.sel_here hρ).wk hH
  have hl2 := (sel_loc hs hρ).2
  have hargs : VRs (c.sel ρ) args' fun j => us[j]? := VRs_wk _ _ _ ha (VRs_rn (c := c) (I := c.I) (L := (c.sel ρ).locs) (fun _ h => h) hl2 args _ hus)
  have hcall := h _ _ gt2 h2 us (by rw [wks_length ha, rnVs_length]; exact hsz) hargs
  refine CX.mono hcall ?_
  rintro e w' ⟨c', u, v', H', rfl, rfl, hle, h3, h4, τ, t1, t2, t3, t4⟩
  rw [hlen_eq] at t1
  have h0 : H0.length = ρ.length := by rw [wkH_length hH, selH_length]
  have hpre : ∀ (r : Nat) (x : Option (Nat × Nat)), (Fr.sel c H ρ).c0.locs[r]? = some x → (c'.sel τ).locs[r]? = some x := by
    intro r x hx
    have hr : r < H0.length := by
      rw [h0]
      have := (List.getElem?_eq_some_iff.1 hx).1
      simpa using this
    rw [hlen_eq] at t2
    have hτ := preσ_get _ _ _ t2 r hr
    have hx' : c'.locs[r]? = some x := hle.locs r x hx
    simp only [Nat.zero_add] at hτ
    simp only [List.getElem?_map, hτ, Option.map_some, hx']
  have h5 := (h3.sel t1 hpre).wk t4
  have h6 : VR (c'.sel τ) v u := VR_wk _ _ _ t3 (VR_rn (c := c') (I := c'.I) (L := (c'.sel τ).locs) (fun _ h => h) (sel_loc h3 t1).2 v' u h4)
  have hle1 : ρ.length ≤ H1.length := by
    rw [wkH_length t4, selH_length, ← h0]
    rw [hlen_eq] at t2
    rcases Nat.lt_or_ge τ.length H0.length with h | h
    · have := preσ_get _ _ _ t2 τ.length h
      simp at this
    · exact h
  obtain ⟨k1, k2, k3⟩ := hs.frame hρ h5 hle1
  exact ⟨⟨c'.w, c'.I, c.locs ++ (c'.sel τ).locs.drop ρ.length⟩, u, _, _, rfl, rfl, k2, k1, k3 v u h6, hk⟩
/-- such a contract, from a walk of the body -/
theorem does_cx {P : Program} {f : Nat} {fn : Func} {body : Code} {args : List V} {H0 : Heap} {v : V} {H1 : Heap} (hf : P.funcs[f]? = some fn) (hb : fn.body = some body) (hname : fbody P f = true)
    (hok : okc fn.ntmps body = true) (hnt : args.length ≤ fn.ntmps) (h : cx P (hlen H0) body (argE 0 args) H0 (retK P fn.results.toList (Ends (hlen H0) v H1))) : Does P f args H0 v H1 :=
  cw_cx hf hb hname hok hnt h
end Go.VM
end
section
set_option linter.unusedVariables false
set_option linter.unusedSimpArgs false
namespace Go.VM
/-- the elements of a list, each as its cells -/
def En {α : Type} (enc : α → List V) (d : α) (l : List α) : Nat → List V := fun i => enc (l.getD i d)
theorem blt_false {a b : Nat} (h : Nat.blt a b = false) : b ≤ a := by
  rcases Nat.lt_or_ge a b with h' | h'
  · have : Nat.blt a b = true := by rw [Nat.blt_eq]; exact h'
    rw [this] at h; cases h
  · exact h'
section
variable {α : Type} {enc : α → List V} {d : α} {l l' : List α}
theorem nth_En {i k : Nat} : nth (En enc d l i) k = nth (enc (l.getD i d)) k := rfl
theorem len_En {i : Nat} : len (En enc d l i) = len (enc (l.getD i d)) := rfl
theorem dr_En {i k : Nat} : dr k (En enc d l i) = dr k (enc (l.getD i d)) := rfl
theorem tk_En {i k : Nat} : tk k (En enc d l i) = tk k (enc (l.getD i d)) := rfl
theorem En_join : join l.length (En enc d l) (En enc d l') = En enc d (l ++ l') := by
  funext i
  simp only [join, En]
  cases h : Nat.blt i l.length with
  | true =>
    have hi : i < l.length := by simpa using h
    simp [List.getElem?_append_left hi]
  | false =>
    have hi : l.length ≤ i := blt_false h
    simp [List.getElem?_append_right hi]
theorem over_lt {i m q : Nat} {g f : Nat → List V} (h : q < i) : over i m g f q = f q := by
  unfold over; rw [if_neg (by omega)]
theorem wks_En_snoc {x : α} {cs : List V} (hc : wks cs (enc x)) {i : Nat} (h : i < l.length + 1) : wks (join l.length (En enc d l) (fun _ => cs) i) (En enc d (l ++ [x]) i) := by
  simp only [join, En]
  cases hb : Nat.blt i l.length with
  | true =>
    have hi : i < l.length := by simpa using hb
    simp [List.getElem?_append_left hi, wks_refl]
  | false =>
    have hi : i = l.length := by
      have : l.length ≤ i := blt_false hb
      omega
    subst hi
    simpa using hc
end
/-- a slice that nobody writes any more -/
abbrev lstV {α : Type} (e : Nat) (enc : α → List V) (d : α) (l : List α) : V := .lst none .loose e l.length (En enc d l)
section
variable {P : Program} {n : Nat} {E : Env} {H : Heap} {K : X → Env → Heap → Prop}
theorem cw_m {f : Nat} {args0 args : List V} {v : V} {H1 : Heap} {K : V → Heap → Prop} (h : Meets P f args v H1) (ha : wks args0 args) (hnr : ltrs 0 args = true) (hk : K (shV (hlen H) v) (happ H (shH (hlen H) H1))) : cw P f args0 H K :=
  cw_wk args H ha (wkH_refl H) (cw_meets h hnr hk)
theorem cwE_m {f : Nat} {args0 args : List V} {v : V} {H1 : Heap} {K : V → Heap → Prop} (h : Meets P f args v H1) (ha : wks args0 args) (hnr : ltrs 0 args = true) (hk : K (shV (hlen H) v) (happ H (shH (hlen H) H1))) : cwE P f args0 H K :=
  cwE_wk args H ha (wkH_refl H) (cwE_meets h hnr hk)
theorem cw_v (d : Nat) {f : Nat} {args0 args : List V} {v : V} {H1 : Heap} {K : V → Heap → Prop} (h : Meets P f args v H1) (ha : wks (frWs true (frD [] H d) [] H args0) args) (hok : okWs (okD [] H d) [] H args0) (hv : flat v = true) (hk : K v H) : cw P f args0 H K :=
  cw_view d (h.wk ha (wk_refl _) (wkH_refl _)) hv hok hk
theorem side_d {p : Path} {q K : Prop} (h : Sd p q) (k : K) : Sd p q ∧ K := ⟨h, k⟩
theorem side_q {q K : Prop} (h : Sq q) (k : K) : Sq q ∧ K := ⟨h, k⟩
/-- what a loop's head says of some blocks under other numbers (`τ`: which ones), a state says, too -/
def subEr (τ : List Nat) : Env → Env → Prop
  | [], _ => True
  | e :: r, E => wk (rnV (idx τ) (evt E [] e.t)) e.v ∧ e.p = [] ∧ subEr τ r E
def subr (n : Nat) (τ : List Nat) (E' : Env) (H' : Heap) (E : Env) (H : Heap) : Prop := okσ (hlen H) τ = true ∧ preσ 0 n τ = true ∧ subEr τ E' E ∧ wkH (selH τ H τ) H'
theorem subr_ok {F : Fr} {c : Ctx} {E E' : Env} {H H' : Heap} {a : Act} {τ : List Nat} (hn : F.c0.locs.length ≤ n) (hs : SR F c H) (he : ER c E a) (h : subr n τ E' H' E H) : SR F (c.sel τ) H' ∧ ER (c.sel τ) E' a := by
  obtain ⟨h1, h2, h3, h4⟩ := h
  rw [hlen_eq] at h1
  refine ⟨(hs.sel h1 fun r x hx => ?_).wk h4, fun t => ?_⟩
  · have hr : r < n := Nat.lt_of_lt_of_le (List.getElem?_eq_some_iff.1 hx).1 hn
    have hτ := preσ_get _ _ _ h2 r hr
    have hx' := hs.le.locs r x hx
    simp only [Nat.zero_add] at hτ
    simp only [List.getElem?_map, hτ, Option.map_some, hx']
  · have hl2 := (sel_loc hs h1).2
    have key : (get E' t).2.1 = [] ∧ VR (c.sel τ) (get E' t).2.2 (tmpOf a t) := by
      clear h4
      induction E' with
      | nil => exact ⟨rfl, by simp [get, VR]⟩
      | cons e r ih =>
        obtain ⟨k1, k2, k3⟩ := h3
        rw [get_cons]
        by_cases het : e.t = t
        · rw [if_pos het]
          subst het
          exact ⟨k2, VR_wk _ _ _ k1 (VR_rn (c := c) (I := c.I) (L := (c.sel τ).locs) (fun _ h => h) hl2 _ _ (evt_top he _))⟩
        · rw [if_neg het]
          exact ih k3
    rw [key.1]
    exact ⟨fun _ => key.2, fun h => absurd trivial h⟩
theorem subw_ok {F : Fr} {c : Ctx} {E E' : Env} {H H' : Heap} {a : Act} (hn : F.c0.locs.length ≤ n) (hn' : n ≤ hlen H') (hs : SR F c H) (he : ER c E a) (h : subw E' H' E H) : ∃ c', c'.w = c.w ∧ SR F c' H' ∧ ER c' E' a := by
  rw [hlen_eq] at hn'
  obtain ⟨H2, k1, k2⟩ := hprew_split h.2
  have h1 := (hs.wk k1).cut (Nat.le_trans hn hn') k2
  have h2 := ER_cutw he h.1
  rw [hlen_eq] at h2
  exact ⟨c.cut H'.length, rfl, h1, h2⟩
def subv (n : Nat) (E' : Env) (H' : Heap) (E : Env) (H : Heap) : Prop := subw E' H' E H ∨ ∃ τ, subr n τ E' H' E H
theorem subv_ok {F : Fr} {c : Ctx} {E E' : Env} {H H' : Heap} {a : Act} (hn : F.c0.locs.length ≤ n) (hn' : n ≤ hlen H') (hs : SR F c H) (he : ER c E a) (h : subv n E' H' E H) : ∃ c', c'.w = c.w ∧ SR F c' H' ∧ ER c' E' a := by
  rcases h with h | ⟨τ, h⟩
  · exact subw_ok hn hn' hs he h
  · obtain ⟨k1, k2⟩ := subr_ok hn hs he h
    exact ⟨c.sel τ, rfl, k1, k2⟩
/-- what a round of a loop comes to -/
def rnd {σ : Type} (n : Nat) (I : σ → Prop) (inv : σ → Env) (hv : σ → Heap) (μ : σ → Nat) (s : σ) (K : X → Env → Heap → Prop) : X → Env → Heap → Prop
  | .normal, E, H => ∃ s', I s' ∧ μ s' < μ s ∧ subv n (inv s') (hv s') E H
  | .exit i, E, H => K (.exit i) E H
  | .ret, E, H => K .ret E H
/-- a loop, by what holds at each round's head -/
theorem cx_loopv {σ : Type} (I : σ → Prop) (inv : σ → Env) (hv : σ → Heap) (μ : σ → Nat) {b : Code} (hn : ∀ s, n ≤ hlen (hv s))
    (s : σ) (hI : I s) (h0 : subv n (inv s) (hv s) E H)
    (round : ∀ s, I s → cx P n b (inv s) (hv s) (rnd n I inv hv μ s K)) : cx P n (.loop b) E H K := by
  intro F c a hF hs he ha hok
  obtain ⟨c1, g1, g2, g3⟩ := subv_ok hF.le (hn s) hs he h0
  rw [← g1]
  refine wpIn_loop_ghost (fun m a' w' => ∃ s F' c', Fx F F' ∧ I s ∧ μ s = m ∧ c'.w = w' ∧ SR F' c' (hv s) ∧ ER c' (inv s) a' ∧ AO F' a') (μ s) ⟨s, F, c1, .refl F, hI, rfl, rfl, g2, g3, ha⟩ ?_
  rintro m a' w' ⟨s, F1, c', fx1, hI, rfl, rfl, hs, he, ha⟩
  refine wpIn_mono (cx.go (round s hI) fx1 hF hs he ha hok) fun e a2 w2 hq => ?_
  obtain ⟨F', fx, hq⟩ := hq
  cases e with
  | normal =>
    obtain ⟨c2, E2, H2, rfl, h1, h2, h3, s', hI', hlt, hsub⟩ := hq
    obtain ⟨c3, k1, k2, k3⟩ := subv_ok (hF.fx fx).le (hn s') h1 h2 hsub
    exact ⟨μ s', hlt, s', F', c3, fx, hI', rfl, k1, k2, k3, h3⟩
  | exit i => obtain ⟨c', E', H', h0, h1, h2, h3, h4⟩ := hq; exact ⟨F', fx, c', E', H', h0, h1, h2, h3, h4⟩
  | ret => obtain ⟨c', E', H', h0, h1, h2, h3, h4⟩ := hq; exact ⟨F', fx, c', E', H', h0, h1, h2, h3, h4⟩
  | goto l => exact hq.elim
  | panic ch => exact hq.elim
  | outgrown => exact hq.elim
theorem rnd_exit {σ : Type} {I : σ → Prop} {inv : σ → Env} {hv : σ → Heap} {μ : σ → Nat} {s : σ} {i : Nat} : rnd n I inv hv μ s K (.exit i) E H = K (.exit i) E H := rfl
theorem rnd_ret {σ : Type} {I : σ → Prop} {inv : σ → Env} {hv : σ → Heap} {μ : σ → Nat} {s : σ} : rnd n I inv hv μ s K .ret E H = K .ret E H := rfl
theorem rnd_next {σ : Type} {I : σ → Prop} {inv : σ → Env} {hv : σ → Heap} {μ : σ → Nat} {s : σ} (s' : σ) (h1 : I s') (h2 : μ s' < μ s) (h3 : subw (inv s') (hv s') E H) : rnd n I inv hv μ s K .normal E H := ⟨s', h1, h2, .inl h3⟩
theorem rnd_nextr {σ : Type} {I : σ → Prop} {inv : σ → Env} {hv : σ → Heap} {μ : σ → Nat} {s : σ} (s' : σ) (τ : List Nat) (h1 : I s') (h2 : μ s' < μ s) (h3 : subr n τ (inv s') (hv s') E H) : rnd n I inv hv μ s K .normal E H := ⟨s', h1, h2, .inr ⟨τ, h3⟩⟩
/-- one environment ahead of another one -/
def happE : Env → Env → Env
  | [], l => l
  | e :: r, l => e :: happE r l
/-- a loop, by what holds at each round's head: of some temporaries (`ch`) what changes, others (`ts`) are as they were -/
theorem cx_loopk {σ : Type} (I : σ → Prop) (ch : σ → Env) (ts : List Nat) (hv : σ → Heap) (μ : σ → Nat) (s : σ) {b : Code} (hs : I s) (hn : ∀ s, n ≤ hlen (hv s))
    (h0 : subw (happE (ch s) (keep ts E)) (hv s) E H)
    (round : ∀ s, I s → cx P n b (happE (ch s) (keep ts E)) (hv s) (rnd n I (fun s => happE (ch s) (keep ts E)) hv μ s K)) : cx P n (.loop b) E H K :=
  cx_loopv I (fun s => happE (ch s) (keep ts E)) hv μ hn s hs (.inl h0) round
/-- likewise where the loop's head finds the blocks as they were -/
theorem cx_loop0 {σ : Type} (I : σ → Prop) (ch : σ → Env) (ts : List Nat) (μ : σ → Nat) (s : σ) {b : Code} (hs : I s) (hn : n ≤ hlen H)
    (h0 : subw (happE (ch s) (keep ts E)) H E H)
    (round : ∀ s, I s → cx P n b (happE (ch s) (keep ts E)) H (rnd n I (fun s => happE (ch s) (keep ts E)) (fun _ => H) μ s K)) : cx P n (.loop b) E H K :=
  cx_loopk I ch ts (fun _ => H) μ s hs (fun _ => hn) h0 round
/-- what is known of a slice's being nil is made good by both ways -/
theorem cx_nil {code : Code} (t : Nat) {tg : Tg} {e m : Nat} {f : Nat → List V} (ht : evt E [] t = .lst none tg e m f)
    (h : ∀ b : Bool, (b = true → m = 0) → cx P n code (⟨t, 0, [], .lst (some b) tg e m f⟩ :: E) H K) : cx P n code E H K := by
  intro F c a hn hs he ha hok
  have hv := evt_top he t
  rw [ht] at hv
  simp only [VR] at hv
  obtain ⟨A, cap, e1, e2, e3, e4, e5, e6⟩ := hv
  refine h A.isNone (fun hA => ?_) F c a hn hs (fun t' => ?_) ha hok
  · have : A = none := by cases A <;> simp at hA ⊢
    have := e5 this
    omega
  · rw [get_cons]
    split
    · rename_i htt
      have htt' : t = t' := htt
      subst htt'
      refine ⟨fun _ => ?_, fun h => absurd trivial h⟩
      rw [e1]
      simp only [VR]
      exact ⟨A, cap, rfl, e2, e3, (fun b hb => by cases hb; cases A <;> simp), e5, e6⟩
    · exact he t'
/-- a call's end -/
def finx (v : V) (H1 : Heap) (x : V) (H : Heap) : Prop := ∃ x2 H2 d σ, wk x x2 ∧ wkH H H2 ∧ finw d σ v H1 x2 H2
theorem finx_of {v x : V} {H1 H : Heap} (d : Nat) (σ : List Nat) (h1 : okσ (hlen H) σ = true) (h2 : okH d σ H σ) (h3 : okW (okD σ H d) σ H x) (h4 : wk (frV d σ H x) v) (h5 : wkH (frH d σ H σ) H1) : finx v H1 x H :=
  ⟨x, H, d, σ, wk_refl _, wkH_refl _, h1, h2, h3, h4, h5⟩
theorem finw_flat {v x : V} {H : Heap} (hf : flat x = true) (h : wk x v) : finx v [] x H :=
  finx_of 0 [] rfl trivial (okW_flat _ _ _ _ hf) (by rw [show frV 0 [] H x = x from frW_flat _ _ _ _ _ hf]; exact h) rfl
theorem finw_int {a b : Int} {k : IntKind} {H : Heap} (h : a = b) : finx (.int k b) [] (.int k a) H := finw_flat rfl (by rw [h]; exact wk_refl _)
theorem finw_bool {a b : Bool} {H : Heap} (h : a = b) : finx (.bool b) [] (.bool a) H := finw_flat rfl (by rw [h]; exact wk_refl _)
theorem meets_x {f : Nat} {fn : Func} {body : Code} {args : List V} {v : V} {H1 : Heap} (hf : P.funcs[f]? = some fn) (hb : fn.body = some body) (hname : fbody P f = true)
    (hok : okc fn.ntmps body = true) (hnt : args.length ≤ fn.ntmps) (h : cx P 0 body (argE 0 args) [] (retK P fn.results.toList (finx v H1))) : Meets P f args v H1 := by
  refine ⟨hname, fun w I gt hI us hsz hus => calls_of_marks hf hb ?_⟩
  have hs : SR ⟨⟨w, I, []⟩, fun _ => False, fn.ntmps, none, []⟩ ⟨w, I, []⟩ [] :=
    ⟨⟨rfl, rfl, rfl, Nat.le_refl _, fun _ _ _ => rfl⟩, Le.refl _, rfl, fun r b l h => by simp at h, fun r r' x x' b m m' h => by simp at h, hI, fun b h => .inl h⟩
  have he : ER ⟨w, I, []⟩ (argE 0 args) { tmps := us ++ Array.replicate (fn.ntmps - us.size) undef, defers := [] } := argE_ER hus
  have ha : AO ⟨⟨w, I, []⟩, fun _ => False, fn.ntmps, none, []⟩ { tmps := us ++ Array.replicate (fn.ntmps - us.size) undef, defers := [] } := ⟨rfl, by simp; omega⟩
  have hw := h ⟨⟨w, I, []⟩, fun _ => False, fn.ntmps, none, []⟩ ⟨w, I, []⟩ _ (FN.start gt) hs he ha hok
  refine wpIn_mono hw fun e a' w' hq => ?_
  have key : ∀ c E H, SR ⟨⟨w, I, []⟩, fun _ => False, fn.ntmps, none, []⟩ c H → ER c E a' → (resV P E H fn.results.toList [] fun vs => finx v H1 (one vs) H) →
      ∃ u, (results fn a'.tmps).run P c.w = .ok u c.w ∧ ∃ c' u', Ending.returned u = .returned u' ∧ c'.w = c.w ∧ SR ⟨⟨w, I, []⟩, fun _ => False, 0, none, []⟩ c' H1 ∧ VR c' v u' := by
    intro c E H h1 h2 h3
    obtain ⟨x0, u, k1, k2, x, H, d, σ, w1, w2, k3⟩ := results_ok (K := finx v H1) h1 h2 h3
    obtain ⟨f1, f2, f3, f4, f5⟩ := k3
    have h1 := h1.wk w2
    have k2 := VR_wk _ _ _ w1 k2
    rw [hlen_eq] at f1
    obtain ⟨s1, s2⟩ := h1.fz rfl (fun _ h => h) f1 f2
    have s3 := VR_wk _ _ _ f4 (s2 x u f3 k2)
    have s1 := s1.wk f5
    exact ⟨u, k1, c.fz σ H, u, rfl, rfl, ⟨⟨s1.fr.os, s1.fr.tape, s1.fr.output, s1.fr.size, s1.fr.block⟩, s1.le, s1.len, s1.blk, s1.inj, s1.imm, s1.old⟩, s3⟩
  obtain ⟨F', fx, hq⟩ := hq
  cases e with
  | normal =>
    obtain ⟨c, E, H, rfl, h1, h2, h3, h4⟩ := hq
    exact marks_end rfl fx h1 h3 fun c' s le => key c' E H s (ER_mono le h2) h4
  | ret =>
    obtain ⟨c, E, H, rfl, h1, h2, h3, h4⟩ := hq
    exact marks_end rfl fx h1 h3 fun c' s le => key c' E H s (ER_mono le h2) h4
  | exit i => obtain ⟨c, E, H, rfl, h1, h2, h3, h4⟩ := hq; exact h4.elim
  | goto l => exact hq.elim
  | panic ch => exact hq.elim
  | outgrown => exact hq.elim
end
end Go.VM

namespace Go.VM
theorem wk_self (v : V) : wk v v ↔ True := iff_true_intro (wk_refl v)
theorem wks_self (v : List V) : wks v v ↔ True := iff_true_intro (wks_refl v)
theorem wkB_self (v : Blk) : wkB v v ↔ True := iff_true_intro (wkB_refl v)
theorem wkH_self (v : Heap) : wkH v v ↔ True := iff_true_intro (wkH_refl v)
theorem wkN_none (a : Option Bool) : wkN a none ↔ True := iff_true_intro (.inl rfl)
theorem wkN_self (a : Option Bool) : wkN a a ↔ True := iff_true_intro (.inr rfl)
theorem wkT_loose (a : Tg) : wkT a .loose ↔ True := iff_true_intro (.inl rfl)
theorem wkT_self (a : Tg) : wkT a a ↔ True := iff_true_intro (.inr rfl)
/-- the sum of two whole numbers that stay in their bounds -/
theorem w64 {t x : Int} (h : t = IntKind.i64.wrap x) (h1 : -9223372036854775808 ≤ x) (h2 : x ≤ 9223372036854775807) : t = x := by rw [h, wrap64 h1 h2]
/-- not by computing alone -/
theorem nr {a b : Prop} (h : a = b) : a = b := h
theorem nq {α : Type} {a b : α} (h : a = b) : a = b := h
section
variable {P : Program} {ops : List Oper} {k i : Nat} {o : Oper} {os : List Oper} {K : Env → Heap → Prop} {E E' : Env} {H H' : Heap} {p p' : Path} {late : List Nat} {s t : Plan}
/-- an operation under a guard that is known -/
def xg (g : Option Path) (F : Path → Prop) : Prop :=
  match g with
  | some p => F p
  | none => False
theorem xg_some {F : Path → Prop} : xg (some p) F = F p := nr rfl
@[congr] theorem xg_congr {g g' : Option Path} {F : Path → Prop} (h : g = g') : xg g F = xg g' F := by rw [h]
@[congr] theorem rkv_congr {r r' : R} {K : V → Prop} (h : r = r') : rkv p r K = rkv p r' K := by rw [h]
@[congr] theorem rk_congr {r r' : R} {K : V → Prop} (h : r = r') : rk p r K = rk p r' K := by rw [h]
@[congr] theorem xs_congr (h1 : E = E') (h2 : H = H') : xs P ops k os K E H = xs P ops k os K E' H' := by rw [h1, h2]
@[congr] theorem xd_congr (h1 : E = E') (h2 : H = H') : xd P ops late s k K E H = xd P ops late s k K E' H' := by rw [h1, h2]
@[congr] theorem xo_congr (h : p = p') : xo P k o p E H K = xo P k o p' E H K := by rw [h]
@[congr] theorem xe_congr (h : p = p') : xe P k o p E H K = xe P k o p' E H K := by rw [h]
@[congr] theorem xb_congr {b : Builtin} {ts : List Nat} {xs' xs'' : List V} {K : V → Heap → Prop} (h : xs' = xs'') : xb P b ts xs' p H K = xb P b ts xs'' p H K := by rw [h]
@[congr] theorem storeV_congr {T T' : TI} {a a' x x' : V} {K : Heap → Prop} (h1 : T = T') (h2 : a = a') (h3 : x = x') : storeV T H a x K = storeV T' H a' x' K := by rw [h1, h2, h3]
@[congr] theorem appendV_congr {e e' b b' : Nat} {a a' x x' : V} {K : V → Heap → Prop} (h0 : e = e') (h1 : b = b') (h2 : a = a') (h3 : x = x') : appendV e b H a x K = appendV e' b' H a' x' K := by rw [h0, h1, h2, h3]
@[congr] theorem buildSliceV_congr {e e' n : Nat} {z z' : Option (List V)} {a a' : List (Nat × V)} {K : V → Heap → Prop} (h0 : e = e') (h1 : z = z') (h2 : a = a') : buildSliceV e z n a H K = buildSliceV e' z' n a' H K := by rw [h0, h1, h2]
@[congr] theorem clearV_congr {e e' : Nat} {z z' : List V} {a a' : V} {K : Heap → Prop} (h0 : e = e') (h1 : z = z') (h2 : a = a') : clearV e z H a K = clearV e' z' H a' K := by rw [h0, h1, h2]
@[congr] theorem copyV_congr {e e' : Nat} {a a' x x' : V} {K : Nat → Heap → Prop} (h0 : e = e') (h1 : a = a') (h2 : x = x') : copyV e H a x K = copyV e' H a' x' K := by rw [h0, h1, h2]
@[congr] theorem rv_congr {v v' : V} {K : V → Prop} (h : v = v') : rv v K = rv v' K := by rw [h]
@[congr] theorem resV_congr {rs rs' : List ResultVar} {acc acc' : List V} {K : List V → Prop} (h0 : rs = rs') (h : acc = acc') : resV P E H rs acc K = resV P E H rs' acc' K := by rw [h0, h]
theorem xs_nil : xs P ops k [] K E H = K E H := nr rfl
theorem xs_cons : xs P ops k (o :: os) K E H = xg (gp ops E o.guard) fun p => xo P k o p E H (xs P ops (k + 1) os K) := nr (by unfold xs xg; rfl)
theorem xd_done : xd P ops late .done k K E H = K E H := nr rfl
/-- an operation of a plan -/
def xp (P : Program) (ops : List Oper) (late : Bool) (i k : Nat) (o : Option Oper) (E : Env) (H : Heap) (K : Env → Heap → Prop) : Prop :=
  match o with
  | some o => xg (gpd ops E o.guard) fun p => (match late with | true => xo P k o p E H K | false => xe P k o p E H K)
  | none => False
@[congr] theorem xp_congr {l l' : Bool} {q q' : Option Oper} (h : l = l') (h' : q = q') : xp P ops l i k q E H K = xp P ops l' i k q' E H K := by rw [h, h']
theorem xp_true : xp P ops true i k (some o) E H K = xg (gpd ops E o.guard) fun p => xo P k o p E H K := nr rfl
theorem xp_false : xp P ops false i k (some o) E H K = xg (gpd ops E o.guard) fun p => xe P k o p E H K := nr rfl
theorem xd_first : xd P ops late (.first i s) k K E H = xp P ops true i k (onth ops i) E H (xd P ops late s (k + 1) K) := nr (by
  unfold xp xg; conv => lhs; unfold xd
  cases onth ops i <;> rfl)
theorem xd_one : xd P ops late (.one i s) k K E H = xp P ops (mem i late) i k (onth ops i) E H (xd P ops late s (k + 1) K) := nr (by
  unfold xp xg; conv => lhs; unfold xd
  cases onth ops i <;> rfl)
theorem xd_alt : xd P ops late (.alt i s t) k K E H = (xp P ops (mem i late) i k (onth ops i) E H (xd P ops late s (k + 1) K) ∧ xd P ops late t k K E H) := nr (by
  unfold xp xg; conv => lhs; unfold xd
  cases onth ops i <;> rfl)
end
section
variable {P : Program} {k : Nat} {K : Env → Heap → Prop} {E : Env} {H : Heap} {p : Path} {d : Option Nat} {ty : TypeId} {pos : String} {aft : Array Edge} {g : Option (Nat × Bool)}
/-- a call of a function value -/
def xf (P : Program) (f : V) (args : List V) (p : Path) (k : Nat) (d : Option Nat) (E : Env) (H : Heap) (K : Env → Heap → Prop) : Prop :=
  match f with
  | .fn g first caps => (match p with
    | [] => cw P g (app first (app args caps)) H (kp K E d k [])
    | y :: q => cg P g (app first (app args caps)) H (y :: q) (kq K E d k (y :: q) H))
  | _ => False
def xfE (P : Program) (f : V) (args : List V) (p : Path) (k : Nat) (d : Option Nat) (E : Env) (H : Heap) (K : Env → Heap → Prop) : Prop :=
  match f with
  | .fn g first caps => (match p with
    | [] => cwE P g (app first (app args caps)) H (kp K E d k [])
    | y :: q => cgE P g (app first (app args caps)) H (y :: q) (kq K E d k (y :: q) H))
  | _ => False
@[congr] theorem xf_congr {f f' : V} {a a' : List V} (h1 : f = f') (h2 : a = a') : xf P f a p k d E H K = xf P f' a' p k d E H K := by rw [h1, h2]
@[congr] theorem xfE_congr {f f' : V} {a a' : List V} (h1 : f = f') (h2 : a = a') : xfE P f a p k d E H K = xfE P f' a' p k d E H K := by rw [h1, h2]
theorem xf_nil {f : Nat} {a b c : List V} : xf P (.fn f a c) b [] k d E H K = cw P f (app a (app b c)) H (kp K E d k []) := nr rfl
theorem xf_cons {f : Nat} {a b c : List V} {y : Nat × Bool × Bool} {q : Path} : xf P (.fn f a c) b (y :: q) k d E H K = cg P f (app a (app b c)) H (y :: q) (kq K E d k (y :: q) H) := nr rfl
theorem xfE_nil {f : Nat} {a b c : List V} : xfE P (.fn f a c) b [] k d E H K = cwE P f (app a (app b c)) H (kp K E d k []) := nr rfl
theorem xfE_cons {f : Nat} {a b c : List V} {y : Nat × Bool × Bool} {q : Path} : xfE P (.fn f a c) b (y :: q) k d E H K = cgE P f (app a (app b c)) H (y :: q) (kq K E d k (y :: q) H) := nr rfl
/-- what holds an operation's temporary, for what follows -/
def kv (K : Env → Heap → Prop) (E : Env) (d : Option Nat) (k : Nat) (p : Path) (H : Heap) (v : V) : Prop := K (put E d (k + 1) p v) H
def kh (K : Env → Heap → Prop) (E : Env) (d : Option Nat) (k : Nat) (p : Path) (v : V) (H : Heap) : Prop := K (put E d (k + 1) p v) H
theorem xo_move {x : Operand} : xo P k ⟨d, .move x, ty, pos, aft, g⟩ p E H K = K (put E d (k + 1) p (ev E p x)) H := nr rfl
theorem xo_assign {x : Operand} : xo P k ⟨d, .assign x, ty, pos, aft, g⟩ p E H K = K (put E d (k + 1) p (ev E p x)) H := nr rfl
theorem xo_pick {c a b : Operand} : xo P k ⟨d, .pick c a b, ty, pos, aft, g⟩ p E H K = rkv p (pickV (ev E p c) (ev E (pk E p c true) a) (ev E (pk E p c false) b)) (kv K E d k p H) := nr rfl
theorem xo_binOp {op : BinOp} {T yt : Nat} {x y : Operand} : xo P k ⟨d, .binOp op T x y yt, ty, pos, aft, g⟩ p E H K = rkv p (bin op (tkind P T) (ev E p x) (ev E p y)) (kv K E d k p H) := nr rfl
theorem xo_unOp {op : UnOp} {T : Nat} {x : Operand} : xo P k ⟨d, .unOp op T x, ty, pos, aft, g⟩ p E H K = rkv p (un op (ev E p x)) (kv K E d k p H) := nr rfl
theorem xo_extract {i : Nat} {x : Operand} : xo P k ⟨d, .extract x i, ty, pos, aft, g⟩ p E H K = rk p (extractV (ev E p x) i) (kv K E d k p H) := nr rfl
def nilV (v : V) : R := match v with | .ptr r off => .ok (.ptr r off) | .eptr r e i off => .ok (.eptr r e i off) | .iptr cs off => .ok (.iptr cs off) | _ => .no
theorem xo_nilCheck {x : Operand} : xo P k ⟨d, .nilCheck x, ty, pos, aft, g⟩ p E H K = rk p (nilV (ev E p x)) (kv K E d k p H) := nr (by unfold xo nilV rk kv; dsimp only; cases ev E p x <;> rfl)
theorem xo_fieldAddr {T f : Nat} {x : Operand} : xo P k ⟨d, .fieldAddr T x f, ty, pos, aft, g⟩ p E H K = rk p (fieldAddr (tfield P T f) (ev E p x)) (kv K E d k p H) := nr rfl
theorem xo_index {T : Nat} {x i : Operand} : xo P k ⟨d, .index T x i, ty, pos, aft, g⟩ p E H K = rkv p (indexS (tkind P T) (ev E p x) (ev E p i)) (kv K E d k p H) := nr rfl
def indexA (P : Program) (e : Option Nat) (x i : V) : R := match e with | some e => indexAddr (tsize P e) x i | none => .no
theorem xo_indexAddr {T : Nat} {x i : Operand} : xo P k ⟨d, .indexAddr T x i, ty, pos, aft, g⟩ p E H K = rk p (indexA P (telem P T) (ev E p x) (ev E p i)) (kv K E d k p H) := nr (by unfold xo indexA rk kv; dsimp only; cases telem P T <;> rfl)
theorem xo_load {T : Nat} {x : Operand} : xo P k ⟨d, .load T x, ty, pos, aft, g⟩ p E H K = rk p (load (ti P T) H (ev E p x)) (kv K E d k p H) := nr rfl
theorem xo_slice {T : Nat} {x : Operand} {lo hi mx : Option Operand} : xo P k ⟨d, .slice T x lo hi mx, ty, pos, aft, g⟩ p E H K = rk p (sliceV (tkind P T) (tesize P T) (ev E p x) (evo E p lo) (evo E p hi) (evo E p mx)) (kv K E d k p H) := nr rfl
theorem xo_convert {S D : Nat} {x : Operand} : xo P k ⟨d, .convert S D x, ty, pos, aft, g⟩ p E H K = rkv p (convH (tbyte P S) (tkind P S) (tkind P D) H (ev E p x)) (kv K E d k p H) := nr rfl
theorem convH_false {S D : TK} {x : V} : convH false S D H x = convV S D x := nq (by cases D <;> rfl)
def cvB (o : Option (Prop × Nat × (Nat → List V))) : R := match o with | some (q, n, f) => .chk (q ∧ ∀ i, i < n → isCh (f i)) (.str ((List.range n).map fun i => chV (f i))) | none => .no
theorem convH_true {S : TK} {x : V} : convH true S .str H x = cvB (view 1 H x) := nq rfl
theorem cvB_some {q : Prop} {n : Nat} {f : Nat → List V} : cvB (some (q, n, f)) = .chk (q ∧ ∀ i, i < n → isCh (f i)) (.str ((List.range n).map fun i => chV (f i))) := nq rfl
def fieldX (P : Program) (o : Option (Nat × Nat)) (x : V) : R := match o with | some (k', t) => fieldV (some (k', t)) (ti P t) x | none => .no
theorem xo_field {T f : Nat} {x : Operand} : xo P k ⟨d, .field T x f, ty, pos, aft, g⟩ p E H K = rk p (fieldX P (tfield P T f) (ev E p x)) (kv K E d k p H) := nr (by unfold xo fieldX rk kv; dsimp only; cases tfield P T f <;> rfl)
theorem xo_makeFunc {f : Nat} {first caps : Array Operand} : xo P k ⟨d, .makeFunc (.func f) first caps, ty, pos, aft, g⟩ p E H K = K (put E d (k + 1) p (.fn f (evs E p first.toList) (evs E p caps.toList))) H := nr rfl
/-- a new variable -/
def newV (z : Option (List V)) (H : Heap) (K : V → Heap → Prop) : Prop := match z with | some z => K (.ptr (hlen H) 0) (hadd H (.box z)) | none => False
@[congr] theorem newV_congr {z z' : Option (List V)} {K : V → Heap → Prop} (h : z = z') : newV z H K = newV z' H K := by rw [h]
theorem newV_some {z : List V} {K : V → Heap → Prop} : newV (some z) H K = K (.ptr (hlen H) 0) (hadd H (.box z)) := nr rfl
theorem xo_alloc {T : Nat} : xo P k ⟨d, .alloc T, ty, pos, aft, g⟩ [] E H K = newV (tzero P T) H (kh K E d k []) := nr (by unfold xo newV kh; dsimp only; cases tzero P T <;> rfl)
theorem xo_box {T : Nat} {x : Operand} : xo P k ⟨d, .box T x, ty, pos, aft, g⟩ [] E H K = newV (boxV (ti P T) (ev E [] x)) H (kh K E d k []) := nr (by unfold xo newV kh; dsimp only; cases boxV (ti P T) (ev E [] x) <;> rfl)
theorem xe_alloc {T : Nat} : xe P k ⟨d, .alloc T, ty, pos, aft, g⟩ [] E H K = newV (tzero P T) H (kh K E d k []) := nr (by unfold xe newV kh; dsimp only; cases tzero P T <;> rfl)
theorem xe_box {T : Nat} {x : Operand} : xe P k ⟨d, .box T x, ty, pos, aft, g⟩ [] E H K = newV (boxV (ti P T) (ev E [] x)) H (kh K E d k []) := nr (by unfold xe newV kh; dsimp only; cases boxV (ti P T) (ev E [] x) <;> rfl)
theorem xo_store {T : Nat} {a x : Operand} : xo P k ⟨d, .store T a x, ty, pos, aft, g⟩ [] E H K = storeV (ti P T) H (ev E [] a) (ev E [] x) (kh K E d k [] .bad) := nr rfl
def buildSl (P : Program) (e : Option Nat) (n : Nat) (parts : List (Nat × V)) (H : Heap) (K : V → Heap → Prop) : Prop := match e with | some e => buildSliceV (tsize P e) (tzero P e) n parts H K | none => False
@[congr] theorem buildSl_congr {e e' : Option Nat} {n : Nat} {a a' : List (Nat × V)} {K : V → Heap → Prop} (h0 : e = e') (h : a = a') : buildSl P e n a H K = buildSl P e' n a' H K := by rw [h0, h]
theorem buildSl_some {e n : Nat} {a : List (Nat × V)} {K : V → Heap → Prop} : buildSl P (some e) n a H K = buildSliceV (tsize P e) (tzero P e) n a H K := nr rfl
theorem xo_buildSlice {T n : Nat} {parts : Array (Nat × Operand)} : xo P k ⟨d, .buildSlice T n parts, ty, pos, aft, g⟩ [] E H K = buildSl P (telem P T) n (evp E [] parts.toList) H (kh K E d k []) := nr (by unfold xo buildSl kh; dsimp only; cases telem P T <;> rfl)
theorem xe_buildSlice {T n : Nat} {parts : Array (Nat × Operand)} : xe P k ⟨d, .buildSlice T n parts, ty, pos, aft, g⟩ [] E H K = buildSl P (telem P T) n (evp E [] parts.toList) H (kh K E d k []) := nr (by unfold xe buildSl kh; dsimp only; cases telem P T <;> rfl)
def buildX (z : Option (List V)) (pl : Option (List (Nat × Nat))) (parts : List (Nat × V)) : R :=
  match z, pl with
  | some z, some pl => (match fillV (pnth pl) z parts with | some cs => .ok (.agg cs) | none => .no)
  | _, _ => .no
theorem xo_build {T : Nat} {parts : Array (Nat × Operand)} : xo P k ⟨d, .build T parts, ty, pos, aft, g⟩ p E H K = rk p (buildX (tzero P T) (tplaces P T) (evp E p parts.toList)) (kv K E d k p H) := nr (by
  unfold xo buildX rk kv; dsimp only
  cases tzero P T with
  | none => cases tplaces P T <;> rfl
  | some z => cases tplaces P T with
    | none => rfl
    | some pl => dsimp only; cases fillV (pnth pl) z (evp E p parts.toList) <;> rfl)
theorem xo_builtin {b : Builtin} {args : Array Operand} {ts : Array Nat} : xo P k ⟨d, .call ⟨.builtin b, args, ts⟩, ty, pos, aft, g⟩ p E H K = xb P b ts.toList (evs E p args.toList) p H (kh K E d k p) := nr rfl
theorem xo_call {f : Operand} {args : Array Operand} {ts : Array Nat} : xo P k ⟨d, .call ⟨.value f, args, ts⟩, ty, pos, aft, g⟩ p E H K = xf P (ev E p f) (evs E p args.toList) p k d E H K := nr (by
  unfold xo xf; dsimp only
  cases p <;> cases ev E _ f <;> rfl)
theorem xe_call {f : Operand} {args : Array Operand} {ts : Array Nat} : xe P k ⟨d, .call ⟨.value f, args, ts⟩, ty, pos, aft, g⟩ p E H K = xfE P (ev E p f) (evs E p args.toList) p k d E H K := nr (by
  unfold xe xfE; dsimp only
  cases p <;> cases ev E _ f <;> rfl)
def stQ (q : Bool) (K : Prop) : Prop := bif q then K else False
@[congr] theorem stQ_congr {q q' : Bool} {K : Prop} (h : q = q') : stQ q K = stQ q' K := by rw [h]
theorem stQ_true {K : Prop} : stQ true K = K := nr rfl
/-- clear and copy -/
def clX (P : Program) (e : Option Nat) (H : Heap) (x : V) (K : Heap → Prop) : Prop :=
  match e with
  | some e => (match tzero P e with
    | some z => clearV (tsize P e) z H x K
    | none => False)
  | none => False
def clB (b : Blk) (e r e' off n : Nat) (z : List V) (H : Heap) (K : Heap → Prop) : Prop :=
  match b with
  | .arr e'' n' f => bif band (Nat.beq e e') (Nat.beq e e'') then Sq (off ≤ n') ∧ K (hset H r (.arr e (max n' (off + n)) (over off n (fun _ => z) f))) else False
  | _ => False
@[congr] theorem clX_congr {e e' : Option Nat} {a a' : V} {K : Heap → Prop} (h : e = e') (h' : a = a') : clX P e H a K = clX P e' H a' K := by rw [h, h']
@[congr] theorem clB_congr {b b' : Blk} {e r e' off n : Nat} {z : List V} {K : Heap → Prop} (h : b = b') : clB b e r e' off n z H K = clB b' e r e' off n z H K := by rw [h]
theorem clearV_nil {e : Nat} {z : List V} {K : Heap → Prop} : clearV e z H .nil K = K H := nr rfl
theorem clearV_own {e r e' off n : Nat} {nl : Option Bool} {t : Tg} {z : List V} {K : Heap → Prop} : clearV e z H (.own nl r e' off n t) K = clB (hget H r) e r e' off n z H K := nr rfl
theorem clB_arr {e r e' e'' off n n' : Nat} {f : Nat → List V} {z : List V} {K : Heap → Prop} : clB (.arr e'' n' f) e r e' off n z H K = stQ (band (Nat.beq e e') (Nat.beq e e'')) (Sq (off ≤ n') ∧ K (hset H r (.arr e (max n' (off + n)) (over off n (fun _ => z) f)))) := nr rfl
def cpX (P : Program) (e : Option Nat) (H : Heap) (d x : V) (K : Nat → Heap → Prop) : Prop :=
  match e with
  | some e => copyV (tsize P e) H d x K
  | none => False
def cpV (o : Option ((Nat → Prop) × Nat × (Nat → List V))) (e : Nat) (H : Heap) (d : V) (K : Nat → Heap → Prop) : Prop :=
  match o with
  | some (q, m, g) => (match d with
    | .nil => Sq (q 0) ∧ K 0 H
    | .own nl r e' off n t => (match hget H r with
      | .arr e'' n' f => bif band (Nat.beq e e') (Nat.beq e e'') then Sq (q (min m n) ∧ off ≤ n') ∧ K (min m n) (hset H r (.arr e (max n' (off + min m n)) (over off (min m n) g f))) else False
      | _ => False)
    | _ => False)
  | none => False
def cpB (b : Blk) (q : Prop) (m e r e' off n : Nat) (g : Nat → List V) (H : Heap) (K : Nat → Heap → Prop) : Prop :=
  match b with
  | .arr e'' n' f => bif band (Nat.beq e e') (Nat.beq e e'') then Sq (q ∧ off ≤ n') ∧ K (min m n) (hset H r (.arr e (max n' (off + min m n)) (over off (min m n) g f))) else False
  | _ => False
@[congr] theorem cpX_congr {e e' : Option Nat} {a a' x x' : V} {K : Nat → Heap → Prop} (h : e = e') (h' : a = a') (h2 : x = x') : cpX P e H a x K = cpX P e' H a' x' K := by rw [h, h', h2]
@[congr] theorem cpV_congr {o o' : Option ((Nat → Prop) × Nat × (Nat → List V))} {e : Nat} {a a' : V} {K : Nat → Heap → Prop} (h : o = o') (h' : a = a') : cpV o e H a K = cpV o' e H a' K := by rw [h, h']
@[congr] theorem cpB_congr {b b' : Blk} {q : Prop} {m e r e' off n : Nat} {g : Nat → List V} {K : Nat → Heap → Prop} (h : b = b') : cpB b q m e r e' off n g H K = cpB b' q m e r e' off n g H K := by rw [h]
theorem copyV_eq {e : Nat} {d x : V} {K : Nat → Heap → Prop} : copyV e H d x K = cpV (viewC e H x) e H d K := nr (by unfold copyV cpV; rfl)
theorem cpV_nil {q : Nat → Prop} {m e : Nat} {g : Nat → List V} {K : Nat → Heap → Prop} : cpV (some (q, m, g)) e H .nil K = (Sq (q 0) ∧ K 0 H) := nr rfl
theorem cpV_own {q : Nat → Prop} {m e r e' off n : Nat} {nl : Option Bool} {t : Tg} {g : Nat → List V} {K : Nat → Heap → Prop} : cpV (some (q, m, g)) e H (.own nl r e' off n t) K = cpB (hget H r) (q (min m n)) m e r e' off n g H K := nr rfl
theorem cpB_arr {q : Prop} {m e r e' e'' off n n' : Nat} {f g : Nat → List V} {K : Nat → Heap → Prop} : cpB (.arr e'' n' f) q m e r e' off n g H K = stQ (band (Nat.beq e e') (Nat.beq e e'')) (Sq (q ∧ off ≤ n') ∧ K (min m n) (hset H r (.arr e (max n' (off + min m n)) (over off (min m n) g f)))) := nr rfl
/-- an append -/
def appX (P : Program) (q : Bool) (e : Option Nat) (H : Heap) (s x : V) (K : V → Heap → Prop) : Prop :=
  match q, e with
  | true, some e => (match tzero P e with
    | some _ => bif Nat.beq (tbytes P e) 0 then False else appendV (tsize P e) (tbytes P e) H s x K
    | none => False)
  | _, _ => False
@[congr] theorem appX_congr {q q' : Bool} {e e' : Option Nat} {a a' x x' : V} {K : V → Heap → Prop} (h0 : q = q') (h1 : e = e') (h2 : a = a') (h3 : x = x') : appX P q e H a x K = appX P q' e' H a' x' K := by rw [h0, h1, h2, h3]
/-- from some element on -/
def shF (f : Nat → List V) (k : Nat) : Nat → List V := fun i => f (k + i)
/-- likewise, or one of so many zeros -/
def appY (P : Program) (q q' : Bool) (e : Option Nat) (H : Heap) (s x : V) (K : V → Heap → Prop) : Prop :=
  match q with
  | true => appX P true e H s x K
  | false => (match q', e with
    | true, some e => (match tzero P e with
      | some z => bif Nat.beq (tbytes P e) 0 then False else appendZ (tsize P e) (tbytes P e) z H s x K
      | none => False)
    | _, _ => False)
@[congr] theorem appY_congr {q q' q2 q2' : Bool} {e e' : Option Nat} {a a' x x' : V} {K : V → Heap → Prop} (h0 : q = q') (h4 : q2 = q2') (h1 : e = e') (h2 : a = a') (h3 : x = x') : appY P q q2 e H a x K = appY P q' q2' e' H a' x' K := by rw [h0, h1, h2, h3, h4]
theorem appY_true {q' : Bool} {e : Option Nat} {s x : V} {K : V → Heap → Prop} : appY P true q' e H s x K = appX P true e H s x K := nr rfl
def appW (o : Option (List V)) (b : Bool) (e bytes : Nat) (H : Heap) (s x : V) (K : V → Heap → Prop) : Prop :=
  match o with
  | some z => (match b with | true => False | false => appendZ e bytes z H s x K)
  | none => False
@[congr] theorem appW_congr {o o' : Option (List V)} {b b' : Bool} {e e' y y' : Nat} {a a' x x' : V} {K : V → Heap → Prop} (h0 : o = o') (h1 : b = b') (h2 : e = e') (h3 : y = y') (h4 : a = a') (h5 : x = x') : appW o b e y H a x K = appW o' b' e' y' H a' x' K := by rw [h0, h1, h2, h3, h4, h5]
theorem appY_false {e : Nat} {s x : V} {K : V → Heap → Prop} : appY P false true (some e) H s x K = appW (tzero P e) (Nat.beq (tbytes P e) 0) (tsize P e) (tbytes P e) H s x K := nr (by
  unfold appY appW; dsimp only
  cases tzero P e <;> cases Nat.beq (tbytes P e) 0 <;> rfl)
theorem appW_some {z : List V} {e y : Nat} {s x : V} {K : V → Heap → Prop} : appW (some z) false e y H s x K = appendZ e y z H s x K := nr rfl
def azB (b : Blk) (nl : Option Bool) (e e' off n C y : Nat) (z : List V) (k : Int) (H : Heap) (K : V → Heap → Prop) : Prop :=
  match b with
  | .arr e'' n' f => bif band (Nat.beq e e') (Nat.beq e e'') then
      Sq (0 ≤ k ∧ off + n ≤ n' ∧ C < n + k.toNat ∧ (n + k.toNat) * y ≤ 140737488355328) ∧
      K (.own (napp nl k.toNat) (hlen H) e 0 (n + k.toNat) .loose) (hadd H (.arr e (n + k.toNat) (join n (shF f off) fun _ => z))) else False
  | _ => False
@[congr] theorem azB_congr {b b' : Blk} {nl : Option Bool} {e e' off n C y : Nat} {z : List V} {k : Int} {K : V → Heap → Prop} (h : b = b') : azB b nl e e' off n C y z k H K = azB b' nl e e' off n C y z k H K := by rw [h]
@[congr] theorem appendZ_congr {e y : Nat} {z : List V} {a a' x x' : V} {K : V → Heap → Prop} (h4 : a = a') (h5 : x = x') : appendZ e y z H a x K = appendZ e y z H a' x' K := by rw [h4, h5]
theorem appendZ_own {e y r e' off n C : Nat} {nl : Option Bool} {z : List V} {kk : IntKind} {k : Int} {K : V → Heap → Prop} : appendZ e y z H (.own nl r e' off n (.exact C)) (.int kk k) K = azB (hget H r) nl e e' off n C y z k H K := nr (by
  unfold appendZ azB; rfl)
theorem azB_arr {e e' e'' n' off n C y : Nat} {f : Nat → List V} {nl : Option Bool} {z : List V} {k : Int} {K : V → Heap → Prop} : azB (.arr e'' n' f) nl e e' off n C y z k H K = stQ (band (Nat.beq e e') (Nat.beq e e'')) (Sq (0 ≤ k ∧ off + n ≤ n' ∧ C < n + k.toNat ∧ (n + k.toNat) * y ≤ 140737488355328) ∧
      K (.own (napp nl k.toNat) (hlen H) e 0 (n + k.toNat) .loose) (hadd H (.arr e (n + k.toNat) (join n (shF f off) fun _ => z)))) := nr rfl
theorem xb_append {t u : Nat} {s x : V} {K : V → Heap → Prop} : xb P .append [t, u] [s, x] [] H K = appY P (Nat.beq t u) (tint P u) (telem P t) H s x K := nr (by
  unfold xb appY appX; dsimp only
  cases Nat.beq t u <;> cases tint P u <;> cases telem P t <;> rfl)
/-- maps -/
def mapB (o : Option Nat) (b : Blk) (K : List (List UInt8 × V) → Prop) : Prop := match o, b with | some _, .mp es => K es | _, _ => False
@[congr] theorem mapB_congr {o o' : Option Nat} {b b' : Blk} {K : List (List UInt8 × V) → Prop} (h : o = o') (h' : b = b') : mapB o b K = mapB o' b' K := by rw [h, h']
theorem mapB_some {e : Nat} {es : List (List UInt8 × V)} {K : List (List UInt8 × V) → Prop} : mapB (some e) (.mp es) K = K es := nr rfl
def mapU (o : Option Nat) (m x y : V) (H : Heap) (K : Heap → Prop) : Prop :=
  match m, x with
  | .mp r, .str s => mapB o (hget H r) fun es => K (hset H r (.mp (mSet es s y)))
  | _, _ => False
@[congr] theorem mapU_congr {o o' : Option Nat} {m m' x x' y y' : V} {K : Heap → Prop} (h : o = o') (h1 : m = m') (h2 : x = x') (h3 : y = y') : mapU o m x y H K = mapU o' m' x' y' H K := by rw [h, h1, h2, h3]
theorem mapU_mp {o : Option Nat} {r : Nat} {s : List UInt8} {y : V} {K : Heap → Prop} : mapU o (.mp r) (.str s) y H K = mapB o (hget H r) fun es => K (hset H r (.mp (mSet es s y))) := nr rfl
theorem xo_makeMap {T : Nat} : xo P k ⟨d, .makeMap T none, ty, pos, aft, g⟩ [] E H K = kh K E d k [] (.mp (hlen H)) (hadd H (.mp [])) := nr rfl
theorem xo_mapUpdate {T : Nat} {m x y : Operand} : xo P k ⟨d, .mapUpdate T m x y, ty, pos, aft, g⟩ [] E H K = mapU (tmap P T) (ev E [] m) (ev E [] x) (ev E [] y) H (kh K E d k [] .bad) := nr (by
  unfold xo mapU mapB kh; dsimp only
  cases tmap P T <;> cases ev E [] m <;> cases ev E [] x <;> first | rfl | (rename_i r s; dsimp only; generalize hget H r = bb; cases bb <;> rfl))
theorem xo_insert {T : Nat} {m x y : Operand} : xo P k ⟨d, .insert T m x y, ty, pos, aft, g⟩ [] E H K = mapU (tmap P T) (ev E [] m) (ev E [] x) (ev E [] y) H (kh K E d k [] .bad) := nr (by
  unfold xo mapU mapB kh; dsimp only
  cases tmap P T <;> cases ev E [] m <;> cases ev E [] x <;> first | rfl | (rename_i r s; dsimp only; generalize hget H r = bb; cases bb <;> rfl))
/-- a map's reading -/
def mapL (o : Option V) (m x : V) (b : Bool) (H : Heap) : R :=
  match o, m, x with
  | some z, .mp r, .str s => (match hget H r with | .mp es => .ok (lookV b z es s) | _ => .no)
  | _, _, _ => .no
def mapZ (P : Program) (o : Option Nat) : Option V := match o with | some e => tzv P e | none => none
theorem mapZ_some {e : Nat} : mapZ P (some e) = tzv P e := nq rfl
def mapR (b : Blk) (z : V) (c : Bool) (s : List UInt8) : R := match b with | .mp es => .ok (lookV c z es s) | _ => .no
theorem mapL_mp {z : V} {r : Nat} {s : List UInt8} {b : Bool} : mapL (some z) (.mp r) (.str s) b H = mapR (hget H r) z b s := nq rfl
theorem mapR_mp {es : List (List UInt8 × V)} {z : V} {c : Bool} {s : List UInt8} : mapR (.mp es) z c s = .ok (lookV c z es s) := nq rfl
theorem xo_lookup {T : Nat} {m x : Operand} {b : Bool} : xo P k ⟨d, .lookup T m x b, ty, pos, aft, g⟩ p E H K = rk p (mapL (mapZ P (tmap P T)) (ev E p m) (ev E p x) b H) (kv K E d k p H) := nr (by
  unfold xo mapL mapZ rk kv; dsimp only
  cases tmap P T with
  | none => rfl
  | some e =>
    dsimp only
    cases ev E p m <;> cases ev E p x <;> (try (cases tzv P e <;> rfl))
    rename_i r s
    dsimp only
    cases tzv P e with
    | none => cases hget H r <;> rfl
    | some z => dsimp only; cases hget H r <;> rfl)
theorem xb_delete {t u : Nat} {r : Nat} {s : List UInt8} {K : V → Heap → Prop} : xb P .delete [t, u] [.mp r, .str s] [] H K = mapB (tmap P t) (hget H r) fun es => K (.tup []) (hset H r (.mp (mDel es s))) := nr (by
  unfold xb mapB; dsimp only
  cases tmap P t <;> cases hget H r <;> rfl)
theorem xe_append {t u : Nat} {a b : Operand} : xe P k ⟨d, .call ⟨.builtin .append, #[a, b], #[t, u]⟩, ty, pos, aft, g⟩ [] E H K = appX P (band (stayB (ev E [] a)) (Nat.beq t u)) (telem P t) H (ev E [] a) (ev E [] b) (kh K E d k []) := nr (by
  unfold xe appX kh; dsimp only [evs]
  show (bif band (stayB (ev E [] a)) (Nat.beq t u) then _ else False) = _
  cases band (stayB (ev E [] a)) (Nat.beq t u) <;> cases telem P t <;> rfl)
theorem xb_len {t : Nat} {x : V} {K : V → Heap → Prop} : xb P .len [t] [x] p H K = rk p (lenV (tkind P t) (tmap P t) H x) fun v => K v H := nr rfl
theorem lenV_str {T : TK} {o : Option Nat} {s : List UInt8} : lenV T o H (.str s) = vlen T (.str s) := nq rfl
theorem lenV_lst {T : TK} {o : Option Nat} {nl : Option Bool} {t : Tg} {e n : Nat} {f : Nat → List V} : lenV T o H (.lst nl t e n f) = vlen T (.lst nl t e n f) := nq rfl
theorem lenV_own {T : TK} {o : Option Nat} {nl : Option Bool} {t : Tg} {r e off n : Nat} : lenV T o H (.own nl r e off n t) = vlen T (.own nl r e off n t) := nq rfl
theorem lenV_nil {T : TK} {o : Option Nat} : lenV T o H .nil = vlen T .nil := nq rfl
def lenM (o : Option Nat) (b : Blk) : R := match o, b with | some _, .mp es => .ok (.int .i64 (es.length : Int)) | _, _ => .no
theorem lenV_mp {T : TK} {o : Option Nat} {r : Nat} : lenV T o H (.mp r) = lenM o (hget H r) := nq rfl
theorem lenM_mp {e : Nat} {es : List (List UInt8 × V)} : lenM (some e) (.mp es) = .ok (.int .i64 (es.length : Int)) := nq rfl
theorem xb_cap {t : Nat} {x : V} {K : V → Heap → Prop} : xb P .cap [t] [x] p H K = rk p (capV (tkind P t) x) fun v => K v H := nr rfl
theorem xb_clear {t : Nat} {x : V} {K : V → Heap → Prop} : xb P .clear [t] [x] [] H K = clX P (telem P t) H x (K (.tup [])) := nr (by
  unfold xb clX; dsimp only
  cases telem P t <;> rfl)
theorem xb_copy {t u : Nat} {d x : V} {K : V → Heap → Prop} : xb P .copy [t, u] [d, x] [] H K = cpX P (telem P t) H d x fun k H => K (.int .i64 (k : Int)) H := nr (by
  unfold xb cpX; dsimp only
  cases telem P t <;> rfl)
theorem xb_max {ts : List Nat} {x y : V} {K : V → Heap → Prop} : xb P .max ts [x, y] p H K = rk p (maxV x y) fun v => K v H := nr (by unfold xb; rfl)
theorem xb_min {ts : List Nat} {x y : V} {K : V → Heap → Prop} : xb P .min ts [x, y] p H K = rk p (minV x y) fun v => K v H := nr (by unfold xb; rfl)
theorem rkv_bool {b : Bool} {K : V → Prop} : rkv p (.ok (.bool b)) K = ∀ x, x = b → K (.bool x) := nr rfl
theorem rkv_int {n : Int} {k : IntKind} {K : V → Prop} : rkv p (.ok (.int k n)) K = ∀ x, x = n → K (.int k x) := nr rfl
theorem rkv_str {s : List UInt8} {K : V → Prop} : rkv p (.ok (.str s)) K = K (.str s) := nr rfl
theorem rkv_bad {K : V → Prop} : rkv p (.ok .bad) K = K .bad := nr rfl
theorem rkv_chk {q : Prop} {v : V} {K : V → Prop} : rkv p (.chk q v) K = (Sd p q ∧ rv v K) := nr rfl
theorem rv_bool {b : Bool} {K : V → Prop} : rv (.bool b) K = ∀ x, x = b → K (.bool x) := nr rfl
theorem rv_int {n : Int} {k : IntKind} {K : V → Prop} : rv (.int k n) K = ∀ x, x = n → K (.int k x) := nr rfl
theorem rv_str {s : List UInt8} {K : V → Prop} : rv (.str s) K = K (.str s) := nr rfl
theorem rk_ok {v : V} {K : V → Prop} : rk p (.ok v) K = K v := nr rfl
theorem rk_chk {q : Prop} {v : V} {K : V → Prop} : rk p (.chk q v) K = (Sd p q ∧ K v) := nr rfl
theorem kv_eq {v : V} : kv K E d k p H v = K (put E d (k + 1) p v) H := nr rfl
theorem kh_eq {v : V} : kh K E d k p v H = K (put E d (k + 1) p v) H := nr rfl
theorem kp_eq {v : V} : kp K E d k p v H = K (put E d (k + 1) p v) H := nr rfl
theorem kq_eq {v : V} : kq K E d k p H v = K (put E d (k + 1) p v) H := nr rfl
end
/-- one element, written to -/
def stF (f : Nat → List V) (i off : Nat) (vs : List V) : Nat → List V := fun j => bif Nat.beq j i then spl (f j) off vs else f j
/-- each element under a function -/
def mpF (g : List V → List V) (f : Nat → List V) : Nat → List V := fun i => g (f i)
section
variable {P : Program} {H : Heap} {p : Path}
def stX (o : Option (List V)) (H : Heap) (a : V) (K : Heap → Prop) : Prop :=
  match o with
  | some vs => (match a with
    | .ptr r off => (match hget H r with
      | .box cs => bif Nat.ble (off + len vs) (len cs) then K (hset H r (.box (spl cs off vs))) else False
      | _ => False)
    | .eptr r e i off => (match hget H r with
      | .arr e' n f => bif band (Nat.beq e e') (Nat.ble (off + len vs) e) then Sq (i < n) ∧ K (hset H r (.arr e n fun j => bif Nat.beq j i then spl (f j) off vs else f j)) else False
      | _ => False)
    | _ => False)
  | none => False
@[congr] theorem stX_congr {o o' : Option (List V)} {a a' : V} {K : Heap → Prop} (h : o = o') (h' : a = a') : stX o H a K = stX o' H a' K := by rw [h, h']
theorem storeV_eq {T : TI} {a x : V} {K : Heap → Prop} : storeV T H a x K = stX (boxV T x) H a K := nr rfl
def stP (vs : List V) (b : Blk) (off : Nat) (r : Nat) (H : Heap) (K : Heap → Prop) : Prop :=
  match b with
  | .box cs => bif Nat.ble (off + len vs) (len cs) then K (hset H r (.box (spl cs off vs))) else False
  | _ => False
@[congr] theorem stP_congr {vs : List V} {b b' : Blk} {off r : Nat} {K : Heap → Prop} (h : b = b') : stP vs b off r H K = stP vs b' off r H K := by rw [h]
theorem stX_ptr {vs : List V} {r off : Nat} {K : Heap → Prop} : stX (some vs) H (.ptr r off) K = stP vs (hget H r) off r H K := nr rfl
theorem stP_box {vs cs : List V} {r off : Nat} {K : Heap → Prop} : stP vs (.box cs) off r H K = stQ (Nat.ble (off + len vs) (len cs)) (K (hset H r (.box (spl cs off vs)))) := nr rfl
def stE (vs : List V) (b : Blk) (r e i off : Nat) (H : Heap) (K : Heap → Prop) : Prop :=
  match b with
  | .arr e' n f => bif band (Nat.beq e e') (Nat.ble (off + len vs) e) then Sq (i < n) ∧ K (hset H r (.arr e n (stF f i off vs))) else False
  | _ => False
@[congr] theorem stE_congr {vs : List V} {b b' : Blk} {r e i off : Nat} {K : Heap → Prop} (h : b = b') : stE vs b r e i off H K = stE vs b' r e i off H K := by rw [h]
theorem stX_eptr {vs : List V} {r e i off : Nat} {K : Heap → Prop} : stX (some vs) H (.eptr r e i off) K = stE vs (hget H r) r e i off H K := nr rfl
theorem stE_arr {vs : List V} {r e e' n i off : Nat} {f : Nat → List V} {K : Heap → Prop} : stE vs (.arr e' n f) r e i off H K = stQ (band (Nat.beq e e') (Nat.ble (off + len vs) e)) (Sq (i < n) ∧ K (hset H r (.arr e n (stF f i off vs)))) := nr rfl
/-- a slice's elements -/
def viewB (e e' off n : Nat) (b : Blk) : Option (Prop × Nat × (Nat → List V)) :=
  match b with
  | .arr e'' m f => bif band (Nat.beq e e') (Nat.beq e e'') then some (off + n ≤ m, n, shF f off) else none
  | _ => none
def viewD (e e' off n : Nat) (b : Blk) : Option ((Nat → Prop) × Nat × (Nat → List V)) :=
  match b with
  | .arr e'' m f => bif band (Nat.beq e e') (Nat.beq e e'') then some (fun k => off + k ≤ m, n, shF f off) else none
  | _ => none
theorem viewC_nil {e : Nat} : viewC e H .nil = some (fun _ => True, 0, fun _ => []) := nq rfl
theorem viewC_lst {e e' n : Nat} {nl : Option Bool} {t : Tg} {f : Nat → List V} : viewC e H (.lst nl t e' n f) = bif Nat.beq e e' then some (fun _ => True, n, f) else none := nq rfl
theorem viewC_own {e e' n r off : Nat} {nl : Option Bool} {t : Tg} : viewC e H (.own nl r e' off n t) = viewD e e' off n (hget H r) := nq rfl
theorem viewD_arr {e e' e'' off n m : Nat} {f : Nat → List V} : viewD e e' off n (.arr e'' m f) = bif band (Nat.beq e e') (Nat.beq e e'') then some (fun k => off + k ≤ m, n, shF f off) else none := nq rfl
theorem view_nil {e : Nat} : view e H .nil = some (True, 0, fun _ => []) := nq rfl
theorem view_lst {e e' n : Nat} {nl : Option Bool} {t : Tg} {f : Nat → List V} : view e H (.lst nl t e' n f) = bif Nat.beq e e' then some (True, n, f) else none := nq rfl
theorem view_own {e e' n r off : Nat} {nl : Option Bool} {t : Tg} : view e H (.own nl r e' off n t) = viewB e e' off n (hget H r) := nq rfl
/-- an append, with what is appended -/
def apV (o : Option (Prop × Nat × (Nat → List V))) (e bytes : Nat) (H : Heap) (s : V) (K : V → Heap → Prop) : Prop :=
  match o with
  | some (q, m, g) => (match s with
    | .nil => Sq (q ∧ m * bytes ≤ 140737488355328) ∧ K (.own (napp (some true) m) (hlen H) e 0 m .loose) (hadd H (.arr e m g))
    | .lst nl (.cut b) e' n f => bif Nat.beq e e' then
        Sq (q ∧ b = true ∧ (n = 0 ∨ 0 < m) ∧ (n + m) * bytes ≤ 140737488355328) ∧ K (.own (napp nl m) (hlen H) e 0 (n + m) .loose) (hadd H (.arr e (n + m) (join n f g))) else False
    | .own nl r e' off n (.cut b) => (match view e H s with
      | some (q', _, f) => Sq (q ∧ q' ∧ b = true ∧ (n = 0 ∨ 0 < m) ∧ (n + m) * bytes ≤ 140737488355328) ∧ K (.own (napp nl m) (hlen H) e 0 (n + m) .loose) (hadd H (.arr e (n + m) (join n f g)))
      | none => False)
    | .own nl r e' off n .loose => (match hget H r with
      | .arr e'' n' f => bif band (Nat.beq e e') (Nat.beq e e'') then
        Sq (q ∧ off = 0 ∧ n = n' ∧ (n + m) * bytes ≤ 140737488355328) ∧ K (.own (napp nl m) (hlen H) e 0 (n + m) .loose) (hadd (hset H r .dead) (.arr e (n + m) (join n f g))) else False
      | _ => False)
    | .own nl r e' off n (.exact C) => (match hget H r with
      | .arr e'' n' f => bif band (Nat.beq e e') (Nat.beq e e'') then
        Sq (q ∧ off + n ≤ n' ∧ (n + m) * bytes ≤ 140737488355328) ∧
        (n + m ≤ C → K (.own nl r e off (n + m) (.exact C)) (hset H r (.arr e (max n' (off + n + m)) (over (off + n) m g f)))) ∧
        (C < n + m → K (.own (napp nl m) (hlen H) e 0 (n + m) .loose) (hadd H (.arr e (n + m) (join n (fun i => f (off + i)) g)))) else False
      | _ => False)
    | _ => False)
  | none => False
theorem appendV_eq {e bytes : Nat} {s x : V} {K : V → Heap → Prop} : appendV e bytes H s x K = apV (view e H x) e bytes H s K := nr (by
  unfold appendV apV; rfl)
@[congr] theorem apV_congr {o o' : Option (Prop × Nat × (Nat → List V))} {e bytes : Nat} {s : V} {K : V → Heap → Prop} (h : o = o') : apV o e bytes H s K = apV o' e bytes H s K := by rw [h]
theorem apV_nil {q : Prop} {m e bytes : Nat} {g : Nat → List V} {K : V → Heap → Prop} : apV (some (q, m, g)) e bytes H .nil K = (Sq (q ∧ m * bytes ≤ 140737488355328) ∧ K (.own (napp (some true) m) (hlen H) e 0 m .loose) (hadd H (.arr e m g))) := nr rfl
theorem apV_lst {q : Prop} {m e e' n bytes : Nat} {nl : Option Bool} {b : Bool} {f g : Nat → List V} {K : V → Heap → Prop} : apV (some (q, m, g)) e bytes H (.lst nl (.cut b) e' n f) K = stQ (Nat.beq e e') (Sq (q ∧ b = true ∧ (n = 0 ∨ 0 < m) ∧ (n + m) * bytes ≤ 140737488355328) ∧ K (.own (napp nl m) (hlen H) e 0 (n + m) .loose) (hadd H (.arr e (n + m) (join n f g)))) := nr rfl
def apC (o : Option (Prop × Nat × (Nat → List V))) (q : Prop) (m n e bytes : Nat) (nl : Option Bool) (b : Bool) (g : Nat → List V) (H : Heap) (K : V → Heap → Prop) : Prop :=
  match o with
  | some (q', _, f) => Sq (q ∧ q' ∧ b = true ∧ (n = 0 ∨ 0 < m) ∧ (n + m) * bytes ≤ 140737488355328) ∧ K (.own (napp nl m) (hlen H) e 0 (n + m) .loose) (hadd H (.arr e (n + m) (join n f g)))
  | none => False
@[congr] theorem apC_congr {o o' : Option (Prop × Nat × (Nat → List V))} {q : Prop} {m n e bytes : Nat} {nl : Option Bool} {b : Bool} {g : Nat → List V} {K : V → Heap → Prop} (h : o = o') : apC o q m n e bytes nl b g H K = apC o' q m n e bytes nl b g H K := by rw [h]
theorem apC_some {q q' : Prop} {n' m n e bytes : Nat} {nl : Option Bool} {b : Bool} {f g : Nat → List V} {K : V → Heap → Prop} : apC (some (q', n', f)) q m n e bytes nl b g H K = (Sq (q ∧ q' ∧ b = true ∧ (n = 0 ∨ 0 < m) ∧ (n + m) * bytes ≤ 140737488355328) ∧ K (.own (napp nl m) (hlen H) e 0 (n + m) .loose) (hadd H (.arr e (n + m) (join n f g)))) := nr rfl
theorem apV_cut {q : Prop} {m e e' n r off bytes : Nat} {nl : Option Bool} {b : Bool} {g : Nat → List V} {K : V → Heap → Prop} : apV (some (q, m, g)) e bytes H (.own nl r e' off n (.cut b)) K = apC (viewB e e' off n (hget H r)) q m n e bytes nl b g H K := nr rfl
def apL (b : Blk) (q : Prop) (m n r e e' off bytes : Nat) (nl : Option Bool) (g : Nat → List V) (H : Heap) (K : V → Heap → Prop) : Prop :=
  match b with
  | .arr e'' n' f => bif band (Nat.beq e e') (Nat.beq e e'') then
        Sq (q ∧ off = 0 ∧ n = n' ∧ (n + m) * bytes ≤ 140737488355328) ∧ K (.own (napp nl m) (hlen H) e 0 (n + m) .loose) (hadd (hset H r .dead) (.arr e (n + m) (join n f g))) else False
  | _ => False
@[congr] theorem apL_congr {b b' : Blk} {q : Prop} {m n r e e' off bytes : Nat} {nl : Option Bool} {g : Nat → List V} {K : V → Heap → Prop} (h : b = b') : apL b q m n r e e' off bytes nl g H K = apL b' q m n r e e' off bytes nl g H K := by rw [h]
theorem apL_arr {q : Prop} {m n n' r e e' e'' off bytes : Nat} {nl : Option Bool} {f g : Nat → List V} {K : V → Heap → Prop} : apL (.arr e'' n' f) q m n r e e' off bytes nl g H K = stQ (band (Nat.beq e e') (Nat.beq e e'')) (Sq (q ∧ off = 0 ∧ n = n' ∧ (n + m) * bytes ≤ 140737488355328) ∧ K (.own (napp nl m) (hlen H) e 0 (n + m) .loose) (hadd (hset H r .dead) (.arr e (n + m) (join n f g)))) := nr rfl
theorem apV_loose {q : Prop} {m e e' n r off bytes : Nat} {nl : Option Bool} {g : Nat → List V} {K : V → Heap → Prop} : apV (some (q, m, g)) e bytes H (.own nl r e' off n .loose) K = apL (hget H r) q m n r e e' off bytes nl g H K := nr rfl
def apE (b : Blk) (q : Prop) (m n r e e' off C bytes : Nat) (nl : Option Bool) (g : Nat → List V) (H : Heap) (K : V → Heap → Prop) : Prop :=
  match b with
  | .arr e'' n' f => bif band (Nat.beq e e') (Nat.beq e e'') then
        Sq (q ∧ off + n ≤ n' ∧ (n + m) * bytes ≤ 140737488355328) ∧
        (n + m ≤ C → K (.own nl r e off (n + m) (.exact C)) (hset H r (.arr e (max n' (off + n + m)) (over (off + n) m g f)))) ∧
        (C < n + m → K (.own (napp nl m) (hlen H) e 0 (n + m) .loose) (hadd H (.arr e (n + m) (join n (fun i => f (off + i)) g)))) else False
  | _ => False
@[congr] theorem apE_congr {b b' : Blk} {q : Prop} {m n r e e' off C bytes : Nat} {nl : Option Bool} {g : Nat → List V} {K : V → Heap → Prop} (h : b = b') : apE b q m n r e e' off C bytes nl g H K = apE b' q m n r e e' off C bytes nl g H K := by rw [h]
theorem apE_arr {q : Prop} {m n n' r e e' e'' off C bytes : Nat} {nl : Option Bool} {f g : Nat → List V} {K : V → Heap → Prop} : apE (.arr e'' n' f) q m n r e e' off C bytes nl g H K = stQ (band (Nat.beq e e') (Nat.beq e e'')) (Sq (q ∧ off + n ≤ n' ∧ (n + m) * bytes ≤ 140737488355328) ∧
        (n + m ≤ C → K (.own nl r e off (n + m) (.exact C)) (hset H r (.arr e (max n' (off + n + m)) (over (off + n) m g f)))) ∧
        (C < n + m → K (.own (napp nl m) (hlen H) e 0 (n + m) .loose) (hadd H (.arr e (n + m) (join n (shF f off) g))))) := nr rfl
theorem apV_exact {q : Prop} {m e e' n r off C bytes : Nat} {nl : Option Bool} {g : Nat → List V} {K : V → Heap → Prop} : apV (some (q, m, g)) e bytes H (.own nl r e' off n (.exact C)) K = apE (hget H r) q m n r e e' off C bytes nl g H K := nr rfl
/-- a literal slice -/
def bsX (o : Option (List V)) (e n : Nat) (H : Heap) (K : V → Heap → Prop) : Prop :=
  match o with
  | some cs => bif Nat.ble (n * e) 16777216 then K (.own (some false) (hlen H) e 0 n (bif Nat.beq n 0 then .cut true else .exact n)) (hadd H (.arr e n (mkArr e n cs))) else False
  | none => False
def fillX (z : Option (List V)) (e n : Nat) (parts : List (Nat × V)) : Option (List V) :=
  match z with
  | some z => fillV (fun i => some (i * e, e)) (rep n z) parts
  | none => none
@[congr] theorem bsX_congr {o o' : Option (List V)} {e n : Nat} {K : V → Heap → Prop} (h : o = o') : bsX o e n H K = bsX o' e n H K := by rw [h]
theorem bsX_some {cs : List V} {e n : Nat} {K : V → Heap → Prop} : bsX (some cs) e n H K = stQ (Nat.ble (n * e) 16777216) (K (.own (some false) (hlen H) e 0 n (bif Nat.beq n 0 then .cut true else .exact n)) (hadd H (.arr e n (mkArr e n cs)))) := nr rfl
theorem buildSliceV_eq {e n : Nat} {z : Option (List V)} {parts : List (Nat × V)} {K : V → Heap → Prop} : buildSliceV e z n parts H K = bsX (fillX z e n parts) e n H K := nr (by
  unfold buildSliceV bsX fillX
  cases z with
  | none => rfl
  | some z => rfl)
/-- a cut of a slice -/
def slL (c : Cut) (nl : Option Bool) (e : Nat) (f : Nat → List V) : R := match c with | .cut l h t q => .chk q (.lst nl t e (h - l) (shF f l)) | .no => .no
def slO (c : Cut) (nl : Option Bool) (r e off : Nat) : R := match c with | .cut l h t q => .chk q (.own nl r e (off + l) (h - l) t) | .no => .no
theorem sliceV_str {e : Nat} {s : List UInt8} {lo hi : Option V} : sliceV .str e (.str s) lo hi none = sliceS s lo hi := nq rfl
theorem sliceV_lst {e e' n : Nat} {nl : Option Bool} {t : Tg} {f : Nat → List V} {lo hi mx : Option V} : sliceV .slice (e + 1) (.lst nl t e' n f) lo hi mx = bif Nat.beq (e + 1) e' then slL (cutV n n (unx t) lo hi mx) nl (e + 1) f else .no := nq (by
  unfold sliceV slL; rfl)
theorem sliceV_own {e e' n r off : Nat} {nl : Option Bool} {t : Tg} {lo hi mx : Option V} : sliceV .slice (e + 1) (.own nl r e' off n t) lo hi mx = bif Nat.beq (e + 1) e' then slO (cutV n (cpT t n) t lo hi mx) nl r (e + 1) off else .no := nq (by
  unfold sliceV slO; rfl)
/-- what a frozen slice of the call's own holds -/
def frO (g : List V → List V) (nl : Option Bool) (t : Tg) (e off n : Nat) (b : Blk) : V := match b with | .arr e' m f => bif Nat.beq e e' then .lst nl t e n (mpF g (shF f off)) else .bad | _ => .bad
theorem frW_own {top : Bool} {g : List V → List V} {σ : List Nat} {nl : Option Bool} {r e off n : Nat} {t : Tg} : frW top g σ H (.own nl r e off n t) = match idx σ r with | some i => (match top with | true => .own nl i e off n t | false => .bad) | none => frO g nl t e off n (hget H r) := nq (by
  simp only [frW]; cases idx σ r <;> rfl)
theorem frB_arr {top : Bool} {g : List V → List V} {σ : List Nat} {e n : Nat} {f : Nat → List V} : frB top g σ H (.arr e n f) = .arr e n (mpF (frWs top g σ H) f) := nq rfl
theorem rnB_arr {g : Nat → Option Nat} {e n : Nat} {f : Nat → List V} : rnB g (.arr e n f) = .arr e n (mpF (rnVs g) f) := nq rfl
theorem rnB_dead {g : Nat → Option Nat} : rnB g .dead = .dead := nq rfl
theorem rnB_box {g : Nat → Option Nat} {cs : List V} : rnB g (.box cs) = .box (rnVs g cs) := nq rfl
theorem frB_box {top : Bool} {g : List V → List V} {σ : List Nat} {cs : List V} : frB top g σ H (.box cs) = .box (frWs top g σ H cs) := nq rfl
theorem frB_dead {top : Bool} {g : List V → List V} {σ : List Nat} : frB top g σ H .dead = .dead := nq rfl
end
mutual
theorem frW_no {top : Bool} {g : List V → List V} {σ : List Nat} {H : Heap} : ∀ v : V, ltr 0 v = true → frW top g σ H v = v
  | .bool _, _ | .int _ _, _ | .str _, _ | .nil, _ | .bad, _ | .lst _ _ _ _ _, _ | .iptr _ _, _ => by simp only [frW]
  | .agg cs, h => by simp only [frW, frWs_no cs (by simpa [ltr] using h)]
  | .tup cs, h => by simp only [frW, frWs_no cs (by simpa [ltr] using h)]
  | .fn f a b, h => by
    simp only [ltr] at h
    simp only [frW, frWs_no a (band_true h).1, frWs_no b (band_true h).2]
  | .own _ r _ _ _ _, h | .ptr r _, h | .mp r, h | .eptr r _ _ _, h => by simp [ltr, Nat.blt] at h
theorem frWs_no {top : Bool} {g : List V → List V} {σ : List Nat} {H : Heap} : ∀ vs : List V, ltrs 0 vs = true → frWs top g σ H vs = vs
  | [], _ => by simp only [frWs]
  | v :: vs, h => by
    simp only [ltrs] at h
    simp only [frWs, frW_no v (band_true h).1, frWs_no vs (band_true h).2]
end
mutual
theorem okW_no {g : List V → Prop} {σ : List Nat} {H : Heap} : ∀ v : V, ltr 0 v = true → okW g σ H v
  | .bool _, _ | .int _ _, _ | .str _, _ | .nil, _ | .bad, _ | .lst _ _ _ _ _, _ | .iptr _ _, _ => by simp only [okW]
  | .agg cs, h => by simp only [okW]; exact okWs_no cs (by simpa [ltr] using h)
  | .tup cs, h => by simp only [okW]; exact okWs_no cs (by simpa [ltr] using h)
  | .fn f a b, h => by
    simp only [ltr] at h
    simp only [okW]; exact ⟨okWs_no a (band_true h).1, okWs_no b (band_true h).2⟩
  | .own _ r _ _ _ _, h | .ptr r _, h | .mp r, h | .eptr r _ _ _, h => by simp [ltr, Nat.blt] at h
theorem okWs_no {g : List V → Prop} {σ : List Nat} {H : Heap} : ∀ vs : List V, ltrs 0 vs = true → okWs g σ H vs
  | [], _ => by simp only [okWs]
  | v :: vs, h => by
    simp only [ltrs] at h
    simp only [okWs]; exact ⟨okW_no v (band_true h).1, okWs_no vs (band_true h).2⟩
end
mutual
theorem shV_no {n : Nat} : ∀ v : V, ltr 0 v = true → shV n v = v
  | .bool _, _ | .int _ _, _ | .str _, _ | .nil, _ | .bad, _ | .lst _ _ _ _ _, _ | .iptr _ _, _ => by simp only [shV]
  | .agg cs, h => by simp only [shV, shVs_no cs (by simpa [ltr] using h)]
  | .tup cs, h => by simp only [shV, shVs_no cs (by simpa [ltr] using h)]
  | .fn f a b, h => by
    simp only [ltr] at h
    simp only [shV, shVs_no a (band_true h).1, shVs_no b (band_true h).2]
  | .own _ r _ _ _ _, h | .ptr r _, h | .mp r, h | .eptr r _ _ _, h => by simp [ltr, Nat.blt] at h
theorem shVs_no {n : Nat} : ∀ vs : List V, ltrs 0 vs = true → shVs n vs = vs
  | [], _ => by simp only [shVs]
  | v :: vs, h => by
    simp only [ltrs] at h
    simp only [shVs, shV_no v (band_true h).1, shVs_no vs (band_true h).2]
end
theorem shH_nil {n : Nat} : shH n [] = [] := nq rfl
theorem shH_box {n : Nat} {cs : List V} {H : Heap} : shH n (.box cs :: H) = .box (shVs n cs) :: shH n H := nq rfl
theorem shH_arr {n e m : Nat} {f : Nat → List V} {H : Heap} : shH n (.arr e m f :: H) = .arr e m (mpF (shVs n) f) :: shH n H := nq rfl
theorem shH_dead {n : Nat} {H : Heap} : shH n (.dead :: H) = .dead :: shH n H := nq rfl
mutual
theorem rnV_no {g : Nat → Option Nat} : ∀ v : V, ltr 0 v = true → rnV g v = v
  | .bool _, _ | .int _ _, _ | .str _, _ | .nil, _ | .bad, _ | .lst _ _ _ _ _, _ | .iptr _ _, _ => by simp only [rnV]
  | .agg cs, h => by simp only [rnV, rnVs_no cs (by simpa [ltr] using h)]
  | .tup cs, h => by simp only [rnV, rnVs_no cs (by simpa [ltr] using h)]
  | .fn f a b, h => by
    simp only [ltr] at h
    simp only [rnV, rnVs_no a (band_true h).1, rnVs_no b (band_true h).2]
  | .own _ r _ _ _ _, h | .ptr r _, h | .mp r, h | .eptr r _ _ _, h => by simp [ltr, Nat.blt] at h
theorem rnVs_no {g : Nat → Option Nat} : ∀ vs : List V, ltrs 0 vs = true → rnVs g vs = vs
  | [], _ => by simp only [rnVs]
  | v :: vs, h => by
    simp only [ltrs] at h
    simp only [rnVs, rnV_no v (band_true h).1, rnVs_no vs (band_true h).2]
end
mutual
theorem ltr_of0 {n : Nat} : ∀ v : V, ltr 0 v = true → ltr n v = true
  | .bool _, _ | .int _ _, _ | .str _, _ | .nil, _ | .bad, _ | .lst _ _ _ _ _, _ | .iptr _ _, _ => by simp only [ltr]
  | .agg cs, h => by simp only [ltr]; exact ltrs_of0' cs (by simpa [ltr] using h)
  | .tup cs, h => by simp only [ltr]; exact ltrs_of0' cs (by simpa [ltr] using h)
  | .fn f a b, h => by
    simp only [ltr] at h ⊢
    rw [ltrs_of0' a (band_true h).1, ltrs_of0' b (band_true h).2]; rfl
  | .own _ r _ _ _ _, h | .ptr r _, h | .mp r, h | .eptr r _ _ _, h => by simp [ltr, Nat.blt] at h
theorem ltrs_of0' {n : Nat} : ∀ vs : List V, ltrs 0 vs = true → ltrs n vs = true
  | [], _ => by simp only [ltrs]
  | v :: vs, h => by
    simp only [ltrs] at h ⊢
    rw [ltr_of0 v (band_true h).1, ltrs_of0' vs (band_true h).2]; rfl
end
theorem ltrs_of0 {n : Nat} {vs : List V} (h : ltrs 0 vs = true) : ltrs (n + 1) vs = true := ltrs_of0' vs h
theorem ltrs_En {α : Type} {enc : α → List V} {d : α} {l : List α} (h : ∀ x, ltrs 0 (enc x) = true) {n i : Nat} : ltrs n (En enc d l i) = true := ltrs_of0' _ (h _)
section
variable {α : Type} {enc : α → List V} {d : α} {l l' : List α}
theorem stF_self {f : Nat → List V} {i off : Nat} {vs : List V} : stF f i off vs i = spl (f i) off vs := by simp [stF]
theorem spl_En {i k : Nat} {vs : List V} : spl (En enc d l i) k vs = spl (enc (l.getD i d)) k vs := rfl
theorem shF_zero {f : Nat → List V} : shF f 0 = f := by funext i; simp [shF]
theorem shF_En {k : Nat} : shF (En enc d l) k = En enc d (l.drop k) := by funext i; simp [shF, En]
theorem mpF_frD (h : ∀ x, ltrs 0 (enc x) = true) {σ : List Nat} {H : Heap} {k : Nat} : mpF (frD σ H (k + 1)) (En enc d l) = En enc d l := by
  funext i; simp only [mpF, En, frD]; exact frWs_no _ (h _)
theorem mpF_frWs (h : ∀ x, ltrs 0 (enc x) = true) {top : Bool} {g : List V → List V} {σ : List Nat} {H : Heap} : mpF (frWs top g σ H) (En enc d l) = En enc d l := by
  funext i; simp only [mpF, En]; exact frWs_no _ (h _)
theorem mpF_rnVs (h : ∀ x, ltrs 0 (enc x) = true) {g : Nat → Option Nat} : mpF (rnVs g) (En enc d l) = En enc d l := by
  funext i; simp only [mpF, En]; exact rnVs_no _ (h _)
theorem wks_mp_over (h : ∀ x, ltrs 0 (enc x) = true) {g : Nat → Option Nat} {z : Nat → List V} {i m q : Nat} (hq : q < i) (he : l.getD q d = l'.getD q d) : wks (mpF (rnVs g) (over i m z (En enc d l)) q) (En enc d l' q) := by
  simp only [mpF, over_lt hq, En, rnVs_no _ (h _), he]; exact wks_refl _
theorem mpF_shVs (h : ∀ x, ltrs 0 (enc x) = true) {n : Nat} : mpF (shVs n) (En enc d l) = En enc d l := by
  funext i; simp only [mpF, En]; exact shVs_no _ (h _)
theorem wks_mp_snoc {g : List V → List V} (hg : ∀ x, g (enc x) = enc x) {x : α} {cs : List V} (hc : cs = enc x) {i : Nat} (h : i < l.length + 1) : wks (mpF g (join l.length (En enc d l) (fun _ => cs)) i) (En enc d (l ++ [x]) i) := by
  subst hc
  have : mpF g (join l.length (En enc d l) (fun _ => enc x)) i = join l.length (En enc d l) (fun _ => enc x) i := by
    simp only [mpF, join]
    cases Nat.blt i l.length <;> simp only [cond, En, hg]
  rw [this]
  exact wks_En_snoc (wks_refl _) h
theorem okD_En (h : ∀ x, ltrs 0 (enc x) = true) {σ : List Nat} {H : Heap} {k i : Nat} : okD σ H k (En enc d l i) ↔ True := by
  refine iff_true_intro ?_
  cases k with
  | zero => trivial
  | succ k => exact okWs_no _ (h _)
theorem okWs_En (h : ∀ x, ltrs 0 (enc x) = true) {g : List V → Prop} {σ : List Nat} {H : Heap} {i : Nat} : okWs g σ H (En enc d l i) ↔ True := iff_true_intro (okWs_no _ (h _))
theorem wks_stF {x : α} {k off : Nat} {vs : List V} (hk : k < l.length) (hx : wks (spl (enc (l.getD k d)) off vs) (enc x)) (i : Nat) : wks (stF (En enc d l) k off vs i) (En enc d (l.set k x) i) := by
  unfold stF
  cases hb : Nat.beq i k with
  | true =>
    obtain rfl := beq_nat hb
    simpa [En, hk] using hx
  | false =>
    have : k ≠ i := by rintro rfl; simp at hb
    simp [En, List.getElem?_set_ne this, wks_refl]
end
section
variable {top : Bool} {g : List V → List V} {σ : List Nat} {H : Heap} {ok : List V → Prop}
theorem frW_bad : frW top g σ H .bad = .bad := nq rfl
theorem frW_nil : frW top g σ H .nil = .nil := nq rfl
theorem frW_bool {b : Bool} : frW top g σ H (.bool b) = .bool b := nq rfl
theorem frW_int {k : IntKind} {n : Int} : frW top g σ H (.int k n) = .int k n := nq rfl
theorem frW_str {s : List UInt8} : frW top g σ H (.str s) = .str s := nq rfl
theorem frW_lst {nl : Option Bool} {t : Tg} {e n : Nat} {f : Nat → List V} : frW top g σ H (.lst nl t e n f) = .lst nl t e n f := nq rfl
theorem frW_iptr {cs : List V} {off : Nat} : frW top g σ H (.iptr cs off) = .iptr cs off := nq rfl
theorem frW_agg {cs : List V} : frW top g σ H (.agg cs) = .agg (frWs top g σ H cs) := nq rfl
theorem frW_tup {cs : List V} : frW top g σ H (.tup cs) = .tup (frWs top g σ H cs) := nq rfl
theorem frW_fn {f : Nat} {a b : List V} : frW top g σ H (.fn f a b) = .fn f (frWs top g σ H a) (frWs top g σ H b) := nq rfl
theorem frWs_nil : frWs top g σ H [] = [] := nq rfl
theorem frWs_cons {v : V} {vs : List V} : frWs top g σ H (v :: vs) = frW top g σ H v :: frWs top g σ H vs := nq rfl
def frP (g : List V → List V) (off : Nat) (b : Blk) : V := match b with | .box cs => .iptr (g cs) off | _ => .bad
def frE (g : List V → List V) (e i off : Nat) (b : Blk) : V := match b with | .arr e' m f => bif Nat.beq e e' then .iptr (g (f i)) off else .bad | _ => .bad
theorem frW_ptr {r off : Nat} : frW top g σ H (.ptr r off) = match idx σ r with | some i => (match top with | true => .ptr i off | false => .bad) | none => frP g off (hget H r) := nq (by
  simp only [frW]; cases idx σ r <;> rfl)
theorem okW_bad : okW ok σ H .bad ↔ True := Iff.rfl
theorem okW_nil' : okW ok σ H .nil ↔ True := Iff.rfl
theorem okW_bool {b : Bool} : okW ok σ H (.bool b) ↔ True := Iff.rfl
theorem okW_int {k : IntKind} {n : Int} : okW ok σ H (.int k n) ↔ True := Iff.rfl
theorem okW_str {s : List UInt8} : okW ok σ H (.str s) ↔ True := Iff.rfl
theorem okW_lst {nl : Option Bool} {t : Tg} {e n : Nat} {f : Nat → List V} : okW ok σ H (.lst nl t e n f) ↔ True := Iff.rfl
theorem okW_iptr {cs : List V} {off : Nat} : okW ok σ H (.iptr cs off) ↔ True := Iff.rfl
theorem okWs_no_iff {vs : List V} (h : ltrs 0 vs = true) : okWs ok σ H vs ↔ True := iff_true_intro (okWs_no _ h)
theorem okWs_nil : okWs ok σ H [] ↔ True := iff_true_intro trivial
theorem okWs_cons {v : V} {vs : List V} : okWs ok σ H (v :: vs) ↔ okW ok σ H v ∧ okWs ok σ H vs := Iff.rfl
theorem okW_agg {cs : List V} : okW ok σ H (.agg cs) ↔ okWs ok σ H cs := Iff.rfl
theorem okW_tup {cs : List V} : okW ok σ H (.tup cs) ↔ okWs ok σ H cs := Iff.rfl
theorem okW_fn {f : Nat} {a b : List V} : okW ok σ H (.fn f a b) ↔ okWs ok σ H a ∧ okWs ok σ H b := Iff.rfl
def okO (ok : List V → Prop) (off n : Nat) (b : Blk) : Prop := match b with | .arr e' m f => off + n ≤ m ∧ ∀ i, i < n → ok (shF f off i) | _ => True
theorem okW_own {nl : Option Bool} {r e off n : Nat} {t : Tg} : okW ok σ H (.own nl r e off n t) ↔ match idx σ r with | some _ => True | none => okO ok off n (hget H r) := by
  simp only [okW]; cases idx σ r <;> exact Iff.rfl
def okP (ok : List V → Prop) (b : Blk) : Prop := match b with | .box cs => ok cs | _ => True
theorem okW_ptr {r off : Nat} : okW ok σ H (.ptr r off) ↔ match idx σ r with | some _ => True | none => okP ok (hget H r) := by
  simp only [okW]; cases idx σ r <;> exact Iff.rfl
theorem okB_arr {e n : Nat} {f : Nat → List V} : okB ok σ H (.arr e n f) ↔ ∀ i, i < n → okWs ok σ H (f i) := Iff.rfl
theorem okB_box {cs : List V} : okB ok σ H (.box cs) ↔ okWs ok σ H cs := Iff.rfl
theorem okB_dead : okB ok σ H .dead ↔ True := Iff.rfl
theorem okD_zero {cs : List V} : okD σ H 0 cs ↔ True := Iff.rfl
theorem okD_succ {k : Nat} {cs : List V} : okD σ H (k + 1) cs ↔ okWs (okD σ H k) σ H cs := Iff.rfl
theorem frD_succ {k : Nat} {cs : List V} : frD σ H (k + 1) cs = frWs false (frD σ H k) σ H cs := nq rfl
end
attribute [go_sem] convH_false convH_true cvB_some appY_true appY_false appW_some appendZ_own azB_arr mapB_some mapU_mp xo_makeMap xo_mapUpdate xo_insert mapZ_some mapL_mp mapR_mp xo_lookup xb_delete lenV_str lenV_lst lenV_own lenV_nil lenV_mp lenM_mp viewC_nil viewC_lst viewC_own viewD_arr xs_nil xs_cons xd_done xd_first xd_one xd_alt xg_some xp_true xp_false xf_nil xf_cons xfE_nil xfE_cons xo_move xo_assign xo_pick xo_binOp xo_unOp xo_extract xo_nilCheck xo_fieldAddr xo_index xo_indexAddr xo_load xo_slice xo_convert xo_field xo_makeFunc xo_alloc xo_box xo_store xo_buildSlice xe_buildSlice xe_alloc xe_box xo_build xo_builtin xo_call xe_call xb_append xe_append xb_len xb_cap rkv_bool rkv_int rkv_str rkv_bad rkv_chk rv_bool rv_int rv_str rk_ok rk_chk kv_eq kh_eq kp_eq kq_eq newV_some buildSl_some nilV indexA fieldX buildX appX gp gpd onth get beqB band ppre evt ofV ev evs pc padd put clean boxV storeV_eq stX_ptr stP_box stQ_true stX_eptr stE_arr view_nil view_lst view_own viewB appendV_eq apV_nil apV_lst apC_some apV_cut apL_arr apV_loose apE_arr apV_exact bsX_some buildSliceV_eq fillX sliceV_str sliceV_lst sliceV_own slL slO shF_zero shF_En rnV rnVs rnB_arr rnB_box rnB_dead rnH selH idx updH bkf xb_clear xb_copy xb_max xb_min clX clearV_nil clearV_own clB_arr cpX copyV_eq cpV_nil cpV_own cpB_arr frW_bad frW_nil frW_bool frW_int frW_str frW_lst frW_iptr frW_agg frW_tup frW_fn frWs_nil frWs_cons frW_own frW_ptr frP frO frE frV frH frB_arr frB_box frB_dead frD_succ mpF_frD mpF_frWs mpF_rnVs okH okW_bad okW_nil' okW_bool okW_int okW_str okW_lst okW_iptr okWs_nil okWs_cons okW_agg okW_tup okW_fn okW_own okO okW_ptr okP okB_arr okB_box okB_dead okD_zero okD_succ okD_En okWs_En frWs_no okWs_no_iff rnVs_no ltrs_of0 ltrs_En join_zero Nat.zero_add Nat.add_zero Nat.sub_zero true_or or_true Nat.le_refl Nat.zero_le implies_true capV maxV minV mkArr evp evo pk app tesize mem mem.bor bin un vlen pickV indexS indexAddr sliceS shT hiT cpT unx cutV extractV fieldAddr fieldV loadV load fillV convV eq1 eqs nth dr tk spl len cellsOf hget hset hlen hadd pnth ikn rep rep.aps shV shVs shVs_no shH_nil shH_box shH_arr shH_dead mpF_shVs happ argE resV one retK keep happE stayB fgE fgH ltb ltr ltrs ofBlock andThen_normal andThen_ret andThen_exit rnd_exit rnd_ret cond Nat.beq Nat.ble Nat.blt Nat.add Option.getD Array.toList List.getElem?_cons_zero List.getElem?_cons_succ true_and and_true forall_const decide_eq_true_eq decide_eq_false_iff_not and_self nth_En len_En dr_En tk_En stF_self spl_En En_join wk_self wks_self wkB_self wkH_self wkN_none wkN_self wkT_loose wkT_self Int.toNat_natCast Bool.and_eq_true Bool.or_eq_true Bool.not_eq_true' Bool.not_eq_false' Bool.and_eq_false_iff Bool.or_eq_false_iff
end Go.VM
end
section
set_option linter.unusedVariables false
set_option linter.unusedSimpArgs false
namespace Go.VM
/-- a map's entries, each as its value -/
def mE {α : Type} (enc : α → V) (l : List (List UInt8 × α)) : List (List UInt8 × V) := l.map fun x => (x.1, enc x.2)
def aSet {α : Type} : List (List UInt8 × α) → List UInt8 → α → List (List UInt8 × α)
  | [], k, v => [(k, v)]
  | x :: es, k, v => bif keq x.1 k then (k, v) :: es else x :: aSet es k v
def aDel {α : Type} : List (List UInt8 × α) → List UInt8 → List (List UInt8 × α)
  | [], _ => []
  | x :: es, k => bif keq x.1 k then es else x :: aDel es k
section
variable {α : Type} {enc : α → V} {l : List (List UInt8 × α)} {k : List UInt8} {d v : α}
theorem mSet_mE : mSet (mE enc l) k (enc v) = mE enc (aSet l k v) := by
  induction l with
  | nil => rfl
  | cons x l ih =>
    simp only [mE, List.map_cons, mSet, aSet] at ih ⊢
    cases keq x.1 k
    · simpa [mE] using ih
    · rfl
theorem mDel_mE : mDel (mE enc l) k = mE enc (aDel l k) := by
  induction l with
  | nil => rfl
  | cons x l ih =>
    simp only [mE, List.map_cons, mDel, aDel] at ih ⊢
    cases keq x.1 k
    · simpa [mE] using ih
    · rfl
theorem mE_length : (mE enc l).length = l.length := by simp [mE]
theorem mE_nil : mE enc [] = [] := rfl
theorem mMap_of {g : V → V} (h : ∀ x, g (enc x) = enc x) : mMap g (mE enc l) = mE enc l := by
  unfold mMap mE; rw [List.map_map]; congr 1; funext x; simp [h]
theorem mMap_frW {top : Bool} {g : List V → List V} {σ : List Nat} {H : Heap} (h : ∀ x, ltr 0 (enc x) = true) : mMap (frW top g σ H) (mE enc l) = mE enc l := mMap_of fun x => frW_no _ (h x)
theorem mMap_rnV {g : Nat → Option Nat} (h : ∀ x, ltr 0 (enc x) = true) : mMap (rnV g) (mE enc l) = mE enc l := mMap_of fun x => rnV_no _ (h x)
theorem mMap_shV {n : Nat} (h : ∀ x, ltr 0 (enc x) = true) : mMap (shV n) (mE enc l) = mE enc l := mMap_of fun x => shV_no _ (h x)
theorem mMap_nil {g : V → V} : mMap g [] = [] := rfl
theorem mAll_of {p : V → Prop} (h : ∀ x, p (enc x)) : mAll p (mE enc l) ↔ True := by
  refine iff_true_intro fun x hx => ?_
  unfold mE at hx
  obtain ⟨y, _, rfl⟩ := List.mem_map.1 hx
  exact h _
theorem mAll_ltr {n : Nat} (h : ∀ x, ltr 0 (enc x) = true) : mLtr n (mE enc l) ↔ True := mAll_of (p := fun v => ltr n v = true) fun x => ltr_of0 _ (h x)
theorem mLtr_nil {n : Nat} : mLtr n [] ↔ True := iff_true_intro fun x hx => by cases hx
theorem mAll_okW {ok : List V → Prop} {σ : List Nat} {H : Heap} (h : ∀ x, ltr 0 (enc x) = true) : mAll (okW ok σ H) (mE enc l) ↔ True := mAll_of fun x => okW_no _ (h x)
theorem mAll_nil {p : V → Prop} : mAll p [] ↔ True := iff_true_intro fun x hx => by cases hx
end
section
variable {top : Bool} {g : List V → List V} {σ : List Nat} {H : Heap} {ok : List V → Prop} {es : List (List UInt8 × V)}
theorem frB_mp : frB top g σ H (.mp es) = .mp (mMap (frW top g σ H) es) := nq rfl
theorem rnB_mp {g : Nat → Option Nat} : rnB g (.mp es) = .mp (mMap (rnV g) es) := nq rfl
theorem shH_mp {n : Nat} : shH n (.mp es :: H) = .mp (mMap (shV n) es) :: shH n H := nq rfl
theorem okB_mp : okB ok σ H (.mp es) ↔ mAll (okW ok σ H) es := Iff.rfl
theorem frW_mp {r : Nat} : frW top g σ H (.mp r) = match idx σ r with | some i => (match top with | true => .mp i | false => .bad) | none => .bad := nq (by simp only [frW]; cases idx σ r <;> rfl)
theorem okW_mp {ok : List V → Prop} {r : Nat} : okW ok σ H (.mp r) ↔ True := Iff.rfl
/-- whether a key is there, by a bool -/
def boE (b : Bool) : V := .bool b
theorem ltr_boE (b : Bool) : ltr 0 (boE b) = true := nq rfl
end
attribute [go_sem] mE_length mE_nil mMap_frW mMap_rnV mMap_shV mMap_nil mAll_ltr mAll_okW mAll_nil mLtr_nil frB_mp rnB_mp shH_mp okB_mp frW_mp okW_mp ltr_boE
end Go.VM
namespace Go.VM
theorem byD {p : Path} {q : Prop} (h : Sd p q := by first | (refine Sd.mk ?_; omega) | exact Sd.mk trivial | (refine Sd.of fun hp => ?_; simp only [pc, and_true] at hp; (try subst_vars); simp only [decide_eq_true_eq, Bool.not_eq_true', decide_eq_false_iff_not, Bool.and_eq_true, Bool.or_eq_true, Bool.or_eq_false_iff] at hp; omega)) : Sd p q := h
theorem byQ {q : Prop} (h : Sq q := by first | (refine Sq.mk ?_; omega) | exact Sq.mk trivial | (refine Sq.mk ?_; and_intros <;> first | omega | trivial | (simp; omega))) : Sq q := h
theorem byC {p : Prop} (h : p := by first | trivial | (simp only [go_sem, wk, wks, wkB, wkH, subw, subEw, hprew, ltb, subr, subEr]; done) | (simp only [go_sem, wk, wks, wkB, wkH, subw, subEw, hprew, ltb, subr, subEr]; and_intros <;> first | trivial | rfl | omega | assumption | exact Nat.le_refl _ | exact wks_refl _ | exact wk_refl _ | (intros; exact wks_refl _) | exact mSet_mE | exact mDel_mE | (intro i hi; rcases i with _ | _ | _ | i <;> first | exact wks_refl _ | exact okWs_no _ rfl | (exfalso; omega)) | (simp; done) | (simp; omega))) : p := h
theorem byW {p : Prop} (h : p := by first | exact wks_refl _ | (first | trivial | (simp only [go_sem, wk, wks, wkB, wkH, subw, subEw, hprew, ltb, subr, subEr]; done) | (simp only [go_sem, wk, wks, wkB, wkH, subw, subEw, hprew, ltb, subr, subEr]; and_intros <;> first | trivial | rfl | omega | assumption | exact Nat.le_refl _ | exact wks_refl _ | exact wk_refl _ | (intros; exact wks_refl _) | exact mSet_mE | exact mDel_mE | (intro i hi; rcases i with _ | _ | _ | i <;> first | exact wks_refl _ | exact okWs_no _ rfl | (exfalso; omega)) | (simp; done) | (simp; omega)))) : p := h
theorem byV {p : Prop} (h : p := by first | (simp only [go_sem]; exact wks_refl _) | (first | trivial | (simp only [go_sem, wk, wks, wkB, wkH, subw, subEw, hprew, ltb, subr, subEr]; done) | (simp only [go_sem, wk, wks, wkB, wkH, subw, subEw, hprew, ltb, subr, subEr]; and_intros <;> first | trivial | rfl | omega | assumption | exact Nat.le_refl _ | exact wks_refl _ | exact wk_refl _ | (intros; exact wks_refl _) | exact mSet_mE | exact mDel_mE | (intro i hi; rcases i with _ | _ | _ | i <;> first | exact wks_refl _ | exact okWs_no _ rfl | (exfalso; omega)) | (simp; done) | (simp; omega)))) : p := h
theorem byT {n : Nat} {l : List V} (h : ltrs n l = true := by first | rfl | (simp only [go_sem]; assumption) | (simp only [go_sem, *]; done)) : ltrs n l = true := h
theorem no_if {p q : Prop} (h : p) (k : ¬ p := by first | (intro h; cases h; done) | (simp; done) | (intro h; simp at h; done) | (intro h; simp at h; contradiction) | (intro h; simp_all; done)) : q := absurd h k
section
variable {P : Program} {n : Nat} {E : Env} {H : Heap} {K : X → Env → Heap → Prop} {σ : Type}
/-- what several ways come to -/
def mt (n : Nat) (I : σ → Prop) (inv : σ → Env) (hv : σ → Heap) (K : X → Env → Heap → Prop) : X → Env → Heap → Prop
  | .normal, E, H => ∃ s, I s ∧ subv n (inv s) (hv s) E H
  | .exit i, E, H => K (.exit i) E H
  | .ret, E, H => K .ret E H
theorem mt_exit {I : σ → Prop} {inv : σ → Env} {hv : σ → Heap} {i : Nat} : mt n I inv hv K (.exit i) E H = K (.exit i) E H := rfl
theorem mt_ret {I : σ → Prop} {inv : σ → Env} {hv : σ → Heap} : mt n I inv hv K .ret E H = K .ret E H := rfl
theorem mt_next {I : σ → Prop} {inv : σ → Env} {hv : σ → Heap} (s : σ) (h1 : I s) (h3 : subw (inv s) (hv s) E H) : mt n I inv hv K .normal E H := ⟨s, h1, .inl h3⟩
theorem mt_nextr {I : σ → Prop} {inv : σ → Env} {hv : σ → Heap} (s : σ) (τ : List Nat) (h1 : I s) (h3 : subr n τ (inv s) (hv s) E H) : mt n I inv hv K .normal E H := ⟨s, h1, .inr ⟨τ, h3⟩⟩
attribute [go_sem] mt_exit mt_ret
theorem cx_meet (I : σ → Prop) (ch : σ → Env) (ts : List Nat) (hv : σ → Heap) {a : Code} (hn : ∀ s, n ≤ hlen (hv s))
    (h : cx P n a E H (mt n I (fun s => happE (ch s) (keep ts E)) hv K)) (hK : ∀ s, I s → K .normal (happE (ch s) (keep ts E)) (hv s)) : cx P n a E H K := by
  intro F c ac hF hs he ha hok
  refine wpIn_mono (h F c ac hF hs he ha hok) fun e a' w' hq => ?_
  obtain ⟨F', fx, hq⟩ := hq
  cases e with
  | normal =>
    obtain ⟨c', E', H', rfl, h1, h2, h3, s, hI, hsub⟩ := hq
    obtain ⟨c3, k1, k2, k3⟩ := subv_ok (hF.fx fx).le (hn s) h1 h2 hsub
    exact ⟨F', fx, c3, _, _, k1, k2, k3, h3, hK s hI⟩
  | exit i => obtain ⟨c', E', H', h0, h1, h2, h3, h4⟩ := hq; exact ⟨F', fx, c', E', H', h0, h1, h2, h3, h4⟩
  | ret => obtain ⟨c', E', H', h0, h1, h2, h3, h4⟩ := hq; exact ⟨F', fx, c', E', H', h0, h1, h2, h3, h4⟩
  | goto l => exact hq.elim
  | panic ch => exact hq.elim
  | outgrown => exact hq.elim
theorem cx_meet0 (I : σ → Prop) (ch : σ → Env) (ts : List Nat) {a : Code} (hn : n ≤ hlen H)
    (h : cx P n a E H (mt n I (fun s => happE (ch s) (keep ts E)) (fun _ => H) K)) (hK : ∀ s, I s → K .normal (happE (ch s) (keep ts E)) H) : cx P n a E H K :=
  cx_meet I ch ts (fun _ => H) (fun _ => hn) h hK
end
end Go.VM
namespace Go.VM
def mvI (r m : Nat) (i : Nat) : Option Nat := bif Nat.beq i r then some m else some i
def mvE (r m : Nat) : Env → Env
  | [] => []
  | e :: E => ⟨e.t, e.s, e.p, rnV (mvI r m) e.v⟩ :: mvE r m E
theorem get_mvE {r m : Nat} (E : Env) (t : Nat) : get (mvE r m E) t = ((get E t).1, (get E t).2.1, rnV (mvI r m) (get E t).2.2) := by
  induction E with
  | nil => simp [mvE, get, rnV]
  | cons e E ih =>
    simp only [mvE, get_cons]
    split
    · rfl
    · exact ih
theorem cx_move {P : Program} {n : Nat} {code : Code} {E : Env} {H : Heap} {K : X → Env → Heap → Prop} (r : Nat) (hr : Nat.blt r (hlen H) = true)
    (h : cx P n code (mvE r (hlen H) E) (hadd (hset H r .dead) (hget H r)) K) : cx P n code E H K := by
  intro F c a hF hs he ha hok
  rw [hlen_eq, hadd_eq] at h
  rw [hlen_eq] at hr
  have hr : r < H.length := by simpa using hr
  have hlt : r < c.locs.length := by rw [hs.len]; exact hr
  obtain ⟨l, hl⟩ : ∃ l, c.locs[r]? = some l := ⟨c.locs[r], by simp [hlt]⟩
  obtain ⟨k1, k2⟩ := hs.move hl
  refine h F { c with locs := c.locs ++ [l] } a hF k1 (fun t => ?_) ha hok
  rw [get_mvE]
  refine ⟨fun hp => ?_, (he t).2⟩
  refine VR_rn (c := c) (I := c.I) (L := c.locs ++ [l]) (fun _ h => h) (fun i j x hij hx => ?_) _ _ ((he t).1 hp)
  unfold mvI at hij
  cases hb : Nat.beq i r with
  | true =>
    rw [hb] at hij
    obtain rfl := beq_nat hb
    simp only [cond, Option.some.injEq] at hij
    subst hij
    rw [List.getElem?_append_right (by rw [hs.len]; exact Nat.le_refl _)]
    rw [hl] at hx
    cases hx
    simp [hs.len]
  | false =>
    rw [hb] at hij
    simp only [cond, Option.some.injEq] at hij
    subst hij
    rw [List.getElem?_append_left (List.getElem?_eq_some_iff.1 hx).1]
    exact hx
attribute [go_sem] mvI mvE
end Go.VM
end
