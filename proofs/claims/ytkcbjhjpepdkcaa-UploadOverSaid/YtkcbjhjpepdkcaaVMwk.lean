import Derived.Test.YtkcbjhjpepdkcaaVMcx
set_option linter.unusedVariables false
set_option linter.unusedSimpArgs false
namespace Go.VM
/-! ### Saying less -/
def wkT (t t' : Tg) : Prop := t' = .loose ∨ t' = t
def wkN (a b : Option Bool) : Prop := b = none ∨ b = a
mutual
/-- the second one says no more than the first one -/
def wk : V → V → Prop
  | .bad, x => x = .bad
  | .nil, x => (match x with | .bad => True | .nil => True | .lst nl t e n f => n = 0 ∧ wkN (some true) nl ∧ t = .loose | _ => False)
  | .bool b, x => (match x with | .bad => True | .bool b' => b = b' | _ => False)
  | .int k b, x => (match x with | .bad => True | .int k' b' => k = k' ∧ b = b' | _ => False)
  | .str b, x => (match x with | .bad => True | .str b' => b = b' | _ => False)
  | .lst nl t e n f, x => (match x with | .bad => True | .lst nl' t' e' n' f' => n = n' ∧ e = e' ∧ wkN nl nl' ∧ wkT t t' ∧ ∀ i, i < n → wks (f i) (f' i) | _ => False)
  | .own nl r e off n t, x => (match x with | .bad => True | .own nl' r' e' off' n' t' => r = r' ∧ e = e' ∧ off = off' ∧ n = n' ∧ wkN nl nl' ∧ wkT t t' | _ => False)
  | .agg cs, x => (match x with | .bad => True | .agg cs' => wks cs cs' | _ => False)
  | .tup cs, x => (match x with | .bad => True | .tup cs' => wks cs cs' | _ => False)
  | .ptr r off, x => (match x with | .bad => True | .ptr r' off' => r = r' ∧ off = off' | _ => False)
  | .eptr r e i off, x => (match x with | .bad => True | .eptr r' e' i' off' => r = r' ∧ e = e' ∧ i = i' ∧ off = off' | _ => False)
  | .iptr cs off, x => (match x with | .bad => True | .iptr cs' off' => off = off' ∧ wks cs cs' | _ => False)
  | .fn f a b, x => (match x with | .bad => True | .fn f' a' b' => f = f' ∧ wks a a' ∧ wks b b' | _ => False)
def wks : List V → List V → Prop
  | [], l => l = []
  | v :: vs, l => (match l with | v' :: vs' => wk v v' ∧ wks vs vs' | [] => False)
end
theorem wks_length : ∀ {vs vs' : List V}, wks vs vs' → vs'.length = vs.length
  | [], l, h => by simp only [wks] at h; subst h; rfl
  | v :: vs, [], h => by simp only [wks] at h
  | v :: vs, v' :: vs', h => by simp only [wks] at h; simp [wks_length h.2]
mutual
theorem wk_refl : ∀ v : V, wk v v
  | .bad | .nil | .bool _ | .int _ _ | .str _ | .ptr _ _ | .eptr _ _ _ _ => by simp [wk]
  | .own _ _ _ _ _ _ => by simp [wk, wkN, wkT]
  | .lst nl t e n f => by
    simp only [wk]
    exact ⟨trivial, trivial, .inr rfl, .inr rfl, fun i _ => wks_refl (f i)⟩
  | .agg cs => by simp only [wk]; exact wks_refl cs
  | .tup cs => by simp only [wk]; exact wks_refl cs
  | .iptr cs off => by simp only [wk]; exact ⟨trivial, wks_refl cs⟩
  | .fn f a b => by simp only [wk]; exact ⟨trivial, wks_refl a, wks_refl b⟩
theorem wks_refl : ∀ vs : List V, wks vs vs
  | [] => by simp [wks]
  | v :: vs => by simp only [wks]; exact ⟨wk_refl v, wks_refl vs⟩
end
theorem wkN_trans {a b c : Option Bool} (h : wkN a b) (k : wkN b c) : wkN a c := by
  rcases k with rfl | rfl
  · exact .inl rfl
  · exact h
theorem wkT_trans {a b c : Tg} (h : wkT a b) (k : wkT b c) : wkT a c := by
  rcases k with rfl | rfl
  · exact .inl rfl
  · exact h
mutual
theorem wk_trans : ∀ {a b c : V}, wk a b → wk b c → wk a c
  | .bad, b, c, h, k => by simp only [wk] at h; subst h; exact k
  | .nil, b, c, h, k => by
    cases b <;> simp only [wk] at h <;> first | exact h.elim | skip
    · simp only [wk] at k; subst k; simp only [wk]
    · exact k
    · obtain ⟨rfl, h2, rfl⟩ := h
      cases c <;> simp only [wk] at k ⊢ <;> first | exact k.elim | skip
      obtain ⟨rfl, rfl, k1, k2, _⟩ := k
      exact ⟨rfl, wkN_trans h2 k1, by rcases k2 with rfl | rfl <;> rfl⟩
  | .bool _, b, c, h, k => by cases b <;> simp only [wk] at h <;> first | exact h.elim | (subst h; exact k) | (simp only [wk] at k; subst k; simp only [wk])
  | .int _ _, b, c, h, k => by cases b <;> simp only [wk] at h <;> first | exact h.elim | (obtain ⟨rfl, rfl⟩ := h; exact k) | (simp only [wk] at k; subst k; simp only [wk])
  | .str _, b, c, h, k => by cases b <;> simp only [wk] at h <;> first | exact h.elim | (subst h; exact k) | (simp only [wk] at k; subst k; simp only [wk])
  | .ptr _ _, b, c, h, k => by cases b <;> simp only [wk] at h <;> first | exact h.elim | (obtain ⟨rfl, rfl⟩ := h; exact k) | (simp only [wk] at k; subst k; simp only [wk])
  | .eptr _ _ _ _, b, c, h, k => by cases b <;> simp only [wk] at h <;> first | exact h.elim | (obtain ⟨rfl, rfl, rfl, rfl⟩ := h; exact k) | (simp only [wk] at k; subst k; simp only [wk])
  | .own _ _ _ _ _ _, b, c, h, k => by
    cases b <;> simp only [wk] at h <;> first | exact h.elim | (simp only [wk] at k; subst k; simp only [wk]; done) | skip
    obtain ⟨rfl, rfl, rfl, rfl, h1, h2⟩ := h
    cases c <;> simp only [wk] at k ⊢ <;> first | exact k.elim | skip
    obtain ⟨rfl, rfl, rfl, rfl, k1, k2⟩ := k
    exact ⟨rfl, rfl, rfl, rfl, wkN_trans h1 k1, wkT_trans h2 k2⟩
  | .lst _ _ _ _ f, b, c, h, k => by
    cases b <;> simp only [wk] at h <;> first | exact h.elim | (simp only [wk] at k; subst k; simp only [wk]; done) | skip
    obtain ⟨rfl, rfl, h1, h2, h3⟩ := h
    cases c <;> simp only [wk] at k ⊢ <;> first | exact k.elim | skip
    obtain ⟨rfl, rfl, k1, k2, k3⟩ := k
    exact ⟨rfl, rfl, wkN_trans h1 k1, wkT_trans h2 k2, fun i hi => wks_trans (vs := f i) (h3 i hi) (k3 i hi)⟩
  | .agg cs, b, c, h, k => by
    cases b <;> simp only [wk] at h <;> first | exact h.elim | (simp only [wk] at k; subst k; simp only [wk]; done) | skip
    cases c <;> simp only [wk] at k ⊢ <;> first | exact k.elim | exact wks_trans (vs := cs) h k | skip
  | .tup cs, b, c, h, k => by
    cases b <;> simp only [wk] at h <;> first | exact h.elim | (simp only [wk] at k; subst k; simp only [wk]; done) | skip
    cases c <;> simp only [wk] at k ⊢ <;> first | exact k.elim | exact wks_trans (vs := cs) h k | skip
  | .iptr cs _, b, c, h, k => by
    cases b <;> simp only [wk] at h <;> first | exact h.elim | (simp only [wk] at k; subst k; simp only [wk]; done) | skip
    obtain ⟨rfl, h⟩ := h
    cases c <;> simp only [wk] at k ⊢ <;> first | exact k.elim | exact ⟨k.1, wks_trans (vs := cs) h k.2⟩ | skip
  | .fn f a b', b, c, h, k => by
    cases b <;> simp only [wk] at h <;> first | exact h.elim | (simp only [wk] at k; subst k; simp only [wk]; done) | skip
    obtain ⟨rfl, h1, h2⟩ := h
    cases c <;> simp only [wk] at k ⊢ <;> first | exact k.elim | exact ⟨k.1, wks_trans (vs := a) h1 k.2.1, wks_trans (vs := b') h2 k.2.2⟩ | skip
theorem wks_trans : ∀ {vs ws us : List V}, wks vs ws → wks ws us → wks vs us
  | [], ws, us, h, k => by simp only [wks] at h; subst h; exact k
  | v :: vs, [], us, h, k => by simp only [wks] at h
  | v :: vs, w :: ws, [], h, k => by simp only [wks] at k
  | v :: vs, w :: ws, u :: us, h, k => by
    simp only [wks] at h k ⊢
    exact ⟨wk_trans h.1 k.1, wks_trans h.2 k.2⟩
end
theorem wk_bad (v : V) : wk v .bad := by cases v <;> simp [wk]
theorem VR_bad {c : Ctx} {u : Value} : VR c .bad u := by simp only [VR]
theorem Nlr_wk {a b : Option Bool} {A : Option Addr} (h : wkN a b) (hA : Nlr a A) : Nlr b A := by
  rcases h with rfl | rfl
  · intro b hb; cases hb
  · exact hA
mutual
theorem VR_wk {c : Ctx} : ∀ (v v' : V) (u : Value), wk v v' → VR c v u → VR c v' u
  | .bad, v', u, h, _ => by simp only [wk] at h; subst h; exact VR_bad
  | .nil, v', u, h, H => by
    cases v' <;> simp only [wk] at h <;> first | exact VR_bad | exact H | exact h.elim | skip
    simp only [VR] at H ⊢
    subst H
    obtain ⟨rfl, h2, rfl⟩ := h
    refine ⟨none, 0, rfl, Nat.le_refl _, (fun _ => rfl), Nlr_wk h2 (fun b hb => by cases hb; simp), (fun _ => rfl), fun i hi => by omega⟩
  | .bool _, v', u, h, H => by cases v' <;> simp only [wk] at h <;> first | exact VR_bad | (subst h; exact H) | exact h.elim
  | .int _ _, v', u, h, H => by cases v' <;> simp only [wk] at h <;> first | exact VR_bad | (obtain ⟨rfl, rfl⟩ := h; exact H) | exact h.elim
  | .str _, v', u, h, H => by cases v' <;> simp only [wk] at h <;> first | exact VR_bad | (subst h; exact H) | exact h.elim
  | .ptr _ _, v', u, h, H => by cases v' <;> simp only [wk] at h <;> first | exact VR_bad | (obtain ⟨rfl, rfl⟩ := h; exact H) | exact h.elim
  | .eptr _ _ _ _, v', u, h, H => by cases v' <;> simp only [wk] at h <;> first | exact VR_bad | (obtain ⟨rfl, rfl, rfl, rfl⟩ := h; exact H) | exact h.elim
  | .own nl r e off n t, v', u, h, H => by
    cases v' <;> simp only [wk] at h <;> first | exact VR_bad | exact h.elim | skip
    obtain ⟨rfl, rfl, rfl, rfl, h1, h2⟩ := h
    simp only [VR] at H ⊢
    obtain ⟨A, cap, e1, ⟨e2, e3⟩, e4, e5, e6⟩ := H
    refine ⟨A, cap, e1, ⟨e2, fun C hC => ?_⟩, fun hC => ?_, Nlr_wk h1 e5, e6⟩
    · rcases h2 with rfl | rfl
      · cases hC
      · exact e3 C hC
    · rcases h2 with rfl | rfl
      · cases hC
      · exact e4 hC
  | .lst nl t e n f, v', u, h, H => by
    cases v' <;> simp only [wk] at h <;> first | exact VR_bad | exact h.elim | skip
    rename_i nl' t' e' n' f'
    obtain ⟨rfl, rfl, h1, h2, h3⟩ := h
    simp only [VR] at H ⊢
    obtain ⟨A, cap, e1, e2, e3, e4, e5, e6⟩ := H
    refine ⟨A, cap, e1, e2, fun hC => ?_, Nlr_wk h1 e4, e5, fun i hi => ?_⟩
    · rcases h2 with rfl | rfl
      · cases hC
      · exact e3 hC
    · obtain ⟨a, g1, g2, g3, g4, g5⟩ := e6 i hi
      exact ⟨a, g1, g2, (wks_length (h3 i hi)).trans g3, g4, VRs_wk (f i) (f' i) _ (h3 i hi) g5⟩
  | .agg cs, v', u, h, H => by
    cases v' <;> simp only [wk] at h <;> first | exact VR_bad | exact h.elim | skip
    simp only [VR] at H ⊢
    obtain ⟨us, e1, e2, e0, e3⟩ := H
    exact ⟨us, e1, by rw [wks_length h]; exact e2, by rw [wks_length h]; exact e0, VRs_wk cs _ _ h e3⟩
  | .tup cs, v', u, h, H => by
    cases v' <;> simp only [wk] at h <;> first | exact VR_bad | exact h.elim | skip
    simp only [VR] at H ⊢
    obtain ⟨us, e1, e2, e3⟩ := H
    exact ⟨us, e1, by rw [wks_length h]; exact e2, VRs_wk cs _ _ h e3⟩
  | .iptr cs off, v', u, h, H => by
    cases v' <;> simp only [wk] at h <;> first | exact VR_bad | exact h.elim | skip
    obtain ⟨rfl, h⟩ := h
    simp only [VR] at H ⊢
    obtain ⟨b, o, e1, e2, e0, e3⟩ := H
    exact ⟨b, o, e1, e2, by rw [wks_length h]; exact e0, VRs_wk cs _ _ h e3⟩
  | .fn f a b, v', u, h, H => by
    cases v' <;> simp only [wk] at h <;> first | exact VR_bad | exact h.elim | skip
    obtain ⟨rfl, h1, h2⟩ := h
    simp only [VR] at H ⊢
    obtain ⟨us, ws, e1, e2, e3, e4, e5⟩ := H
    exact ⟨us, ws, e1, by rw [wks_length h1]; exact e2, by rw [wks_length h2]; exact e3, VRs_wk a _ _ h1 e4, VRs_wk b _ _ h2 e5⟩
theorem VRs_wk {c : Ctx} : ∀ (vs vs' : List V) (g : Nat → Option Value), wks vs vs' → VRs c vs g → VRs c vs' g
  | [], l, g, h, H => by simp only [wks] at h; subst h; simp only [VRs]
  | v :: vs, [], g, h, H => by simp only [wks] at h
  | v :: vs, v' :: vs', g, h, H => by
    simp only [wks] at h
    simp only [VRs] at H ⊢
    obtain ⟨⟨u, e1, e2⟩, e3⟩ := H
    exact ⟨⟨u, e1, VR_wk v v' u h.1 e2⟩, VRs_wk vs vs' _ h.2 e3⟩
end
/-- likewise of blocks -/
def wkB : Blk → Blk → Prop
  | .box cs, x => (match x with | .dead => True | .box cs' => wks cs cs' | _ => False)
  | .arr e n f, x => (match x with | .dead => True | .arr e' n' f' => e = e' ∧ n' ≤ n ∧ ∀ i, i < n' → wks (f i) (f' i) | _ => False)
  | .dead, x => x = .dead
def wkH : Heap → Heap → Prop
  | [], H => H = []
  | b :: H, l => (match l with | b' :: H' => wkB b b' ∧ wkH H H' | [] => False)
theorem wkB_refl (b : Blk) : wkB b b := by
  cases b with
  | box cs => exact wks_refl cs
  | arr e n f => exact ⟨rfl, Nat.le_refl _, fun i _ => wks_refl _⟩
  | dead => rfl
theorem wkH_refl : ∀ H : Heap, wkH H H
  | [] => rfl
  | b :: H => ⟨wkB_refl b, wkH_refl H⟩
theorem wkH_get : ∀ {H H' : Heap}, wkH H H' → H'.length = H.length ∧ ∀ (r : Nat) x', H'[r]? = some x' → ∃ x, H[r]? = some x ∧ wkB x x'
  | [], H', h => by simp only [wkH] at h; subst h; exact ⟨rfl, fun r x h => by simp at h⟩
  | b :: H, [], h => by simp only [wkH] at h
  | b :: H, b' :: H', h => by
    simp only [wkH] at h
    obtain ⟨g1, g2⟩ := wkH_get h.2
    refine ⟨by simp [g1], fun r x' hr => ?_⟩
    cases r with
    | zero => simp at hr; subst hr; exact ⟨b, rfl, h.1⟩
    | succ r => simpa using g2 r x' (by simpa using hr)
theorem wkB_trans {a b c : Blk} (h : wkB a b) (k : wkB b c) : wkB a c := by
  cases c with
  | dead => cases a <;> simp [wkB]
  | box cs =>
    cases b with
    | dead => cases k
    | arr e n f => exact k.elim
    | box bs => cases a with
      | dead => cases h
      | arr e n f => exact h.elim
      | box as => exact wks_trans h k
  | arr e n f =>
    cases b with
    | dead => cases k
    | box bs => exact k.elim
    | arr e' n' f' => cases a with
      | dead => cases h
      | box as => exact h.elim
      | arr e'' n'' f'' =>
        obtain ⟨rfl, h2, h3⟩ := h
        obtain ⟨rfl, k2, k3⟩ := k
        exact ⟨rfl, Nat.le_trans k2 h2, fun i hi => wks_trans (h3 i (by omega)) (k3 i hi)⟩
theorem wkH_trans : ∀ {a b c : Heap}, wkH a b → wkH b c → wkH a c
  | [], b, c, h, k => by simp only [wkH] at h; subst h; exact k
  | x :: a, [], c, h, k => by simp only [wkH] at h
  | x :: a, y :: b, [], h, k => by simp only [wkH] at k
  | x :: a, y :: b, z :: c, h, k => by
    simp only [wkH] at h k ⊢
    exact ⟨wkB_trans h.1 k.1, wkH_trans h.2 k.2⟩
theorem wkB_live {x x' : Blk} (h : wkB x x') (hl : Live x') : Live x := by
  cases x <;> cases x' <;> simp_all [wkB, Live]
theorem Cont_wk {c : Ctx} {C : Array Value} {cap : Nat} {x x' : Blk} (h : wkB x x') (H : Live x' → Cont c C cap x) : Cont c C cap x' := by
  cases x' with
  | dead => trivial
  | box cs' =>
    cases x with
    | dead => cases h
    | arr e n f => exact h.elim
    | box cs =>
    have h : wks cs cs' := h
    obtain ⟨g1, g2, g3⟩ := H trivial
    exact ⟨by rw [wks_length h]; exact g1, by rw [wks_length h]; exact g2, VRs_wk _ _ _ h g3⟩
  | arr e' n' f' =>
    cases x with
    | dead => cases h
    | box cs => exact h.elim
    | arr e n f =>
    obtain ⟨rfl, h2, h3⟩ := h
    obtain ⟨g1, g2, g3⟩ := H trivial
    refine ⟨g1, by omega, fun i hi => ?_⟩
    obtain ⟨k1, k2, k3⟩ := g3 i (by omega)
    exact ⟨(wks_length (h3 i hi)).trans k1, k2, VRs_wk _ _ _ (h3 i hi) k3⟩
theorem SR.wk {F : Fr} {c : Ctx} {H H' : Heap} (h : SR F c H) (hw : wkH H H') : SR F c H' := by
  obtain ⟨g1, g2⟩ := wkH_get hw
  refine ⟨h.fr, h.le, by rw [h.len, g1], fun r b l hr hl => ?_, fun r r' x x' b m m' hr hr' hx hx' hl hl' => ?_, h.imm, h.old⟩
  · obtain ⟨x, k1, k2⟩ := g2 r b hr
    have hb := h.blk r x l k1 hl
    cases l with
    | none =>
      cases b with
      | dead => trivial
      | box cs => cases x with
        | dead => cases k2
        | arr e n f => exact k2.elim
        | box cs => exact hb.elim
      | arr e n f =>
        cases x with
        | dead => cases k2
        | box cs => exact k2.elim
        | arr e' m f' =>
          have h1 : m = 0 := hb
          have h2 : n ≤ m := k2.2.1
          show n = 0
          omega
    | some l =>
      obtain ⟨bb, m⟩ := l
      intro hlive
      obtain ⟨C, el, e1, e2, e3⟩ := hb (wkB_live k2 hlive)
      exact ⟨C, el, e1, Cont_wk k2 (fun _ => e2), e3⟩
  · obtain ⟨y, k1, k2⟩ := g2 r x hr
    obtain ⟨y', k1', k2'⟩ := g2 r' x' hr'
    exact h.inj r r' y y' b m m' k1 k1' (wkB_live k2 hx) (wkB_live k2' hx') hl hl'
/-- an environment that says no more -/
def wkE : Env → Env → Prop
  | [], _ => True
  | e :: r, E => wk (evt E [] e.t) e.v ∧ e.p = [] ∧ wkE r E
theorem ER_wk {c : Ctx} {E' E : Env} {a : Act} (hE : ER c E a) (h : wkE E' E) : ER c E' a := by
  intro t
  have key : (get E' t).2.1 = [] ∧ VR c (get E' t).2.2 (tmpOf a t) := by
    induction E' with
    | nil => exact ⟨rfl, by simp [get, VR]⟩
    | cons e r ih =>
      obtain ⟨h1, h2, h4⟩ := h
      rw [get_cons]
      by_cases he : e.t = t
      · rw [if_pos he]
        subst he
        exact ⟨h2, VR_wk _ _ _ h1 (evt_top hE _)⟩
      · rw [if_neg he]
        exact ih h4
  rw [key.1]
  exact ⟨fun _ => key.2, fun h => absurd trivial h⟩
theorem wkE_keep (ts : List Nat) (E : Env) : wkE (keep ts E) E := by
  induction ts with
  | nil => trivial
  | cons t r ih => exact ⟨wk_refl _, rfl, ih⟩
section
variable {P : Program} {n : Nat} {E : Env} {H : Heap} {K : X → Env → Heap → Prop}
theorem cx_wk {code : Code} (E2 : Env) (H2 : Heap) (h1 : wkE E2 E) (h2 : wkH H H2) (h : cx P n code E2 H2 K) : cx P n code E H K :=
  fun F c a hn hs he ha hok => h F c a hn (hs.wk h2) (ER_wk he h1) ha hok
theorem cw_wk {f : Nat} {args : List V} {K : V → Heap → Prop} (args' : List V) (H' : Heap) (h1 : wks args args') (h2 : wkH H H') (h : cw P f args' H' K) : cw P f args H K :=
  ⟨h.1, fun F c hs us hsz hus => h.2 F c (hs.wk h2) us (by rw [wks_length h1]; exact hsz) (VRs_wk _ _ _ h1 hus)⟩
theorem cwE_wk {f : Nat} {args : List V} {K : V → Heap → Prop} (args' : List V) (H' : Heap) (h1 : wks args args') (h2 : wkH H H') (h : cwE P f args' H' K) : cwE P f args H K :=
  ⟨h.1, fun F c hs us hsz hus => h.2 F c (hs.wk h2) us (by rw [wks_length h1]; exact hsz) (VRs_wk _ _ _ h1 hus)⟩
theorem Meets.wk {f : Nat} {args args' : List V} {v v' : V} {H1 H1' : Heap} (h : Meets P f args' v H1) (h1 : wks args args') (h2 : VM.wk v v') (h3 : wkH H1 H1') : Meets P f args v' H1' := by
  refine ⟨h.1, fun w I hI us hsz hus => Calls.mono (h.2 w I hI us (by rw [wks_length h1]; exact hsz) (VRs_wk _ _ _ h1 hus)) ?_⟩
  rintro e w' ⟨c', u, e1, e2, e3, e4⟩
  exact ⟨c', u, e1, e2, e3.wk h3, VR_wk _ _ _ h2 e4⟩
/-- a call's end: the results, and which of its blocks are kept -/
def finw (d : Nat) (σ : List Nat) (v : V) (H1 : Heap) (x : V) (H : Heap) : Prop :=
  okσ (hlen H) σ = true ∧ okH d σ H σ ∧ okW (okD σ H d) σ H x ∧ wk (frV d σ H x) v ∧ wkH (frH d σ H σ) H1
theorem resV_mono {E : Env} {H : Heap} {K K' : List V → Prop} (hk : ∀ l, K l → K' l) : ∀ (rs : List ResultVar) (acc : List V), resV P E H rs acc K → resV P E H rs acc K'
  | [], acc, h => hk _ h
  | .tmp t :: r, acc, h => resV_mono hk r _ h
  | .cell t T :: r, acc, h => by
    simp only [resV] at h ⊢
    split at h
    · exact resV_mono hk r _ h
    · exact h.elim
/-- A FUNCTION'S CONTRACT, from what its body comes to. -/
theorem meets_w {f : Nat} {fn : Func} {body : Code} {args : List V} {v : V} {H1 : Heap} (hf : P.funcs[f]? = some fn) (hb : fn.body = some body) (hname : fbody P f = true)
    (hok : okc fn.ntmps body = true) (hnt : args.length ≤ fn.ntmps) (d : Nat) (σ : List Nat)
    (h : cx P 0 body (argE 0 args) [] (retK P fn.results.toList (finw d σ v H1))) : Meets P f args v H1 := by
  refine ⟨hname, fun w I hI us hsz hus => calls_of_wp hf hb ?_⟩
  have hs : SR ⟨⟨w, I, []⟩, fun _ => False, fn.ntmps⟩ ⟨w, I, []⟩ [] :=
    ⟨⟨rfl, rfl, rfl, Nat.le_refl _, fun _ _ _ => rfl⟩, Le.refl _, rfl, fun r b l h => by simp at h, fun r r' x x' b m m' h => by simp at h, hI, fun b h => .inl h⟩
  have he : ER ⟨w, I, []⟩ (argE 0 args) { tmps := us ++ Array.replicate (fn.ntmps - us.size) undef, defers := [] } := argE_ER hus
  have ha : AO ⟨⟨w, I, []⟩, fun _ => False, fn.ntmps⟩ { tmps := us ++ Array.replicate (fn.ntmps - us.size) undef, defers := [] } := ⟨rfl, by simp; omega⟩
  have hw := h ⟨⟨w, I, []⟩, fun _ => False, fn.ntmps⟩ ⟨w, I, []⟩ _ (Nat.le_refl _) hs he ha hok
  refine wp_mono hw fun e a' w' hq => ?_
  have key : ∀ c E H, SR ⟨⟨w, I, []⟩, fun _ => False, fn.ntmps⟩ c H → ER c E a' → (resV P E H fn.results.toList [] fun vs => finw d σ v H1 (one vs) H) →
      ∃ u, (results fn a'.tmps).run P c.w = .ok u c.w ∧ ∃ c' u', Ending.returned u = .returned u' ∧ c'.w = c.w ∧ SR ⟨⟨w, I, []⟩, fun _ => False, 0⟩ c' H1 ∧ VR c' v u' := by
    intro c E H h1 h2 h3
    obtain ⟨x, u, k1, k2, k3⟩ := results_ok (K := finw d σ v H1) h1 h2 h3
    obtain ⟨f1, f2, f3, f4, f5⟩ := k3
    rw [hlen_eq] at f1
    obtain ⟨s1, s2⟩ := h1.fz rfl (fun _ h => h) f1 f2
    have s3 := VR_wk _ _ _ f4 (s2 x u f3 k2)
    have s1 := s1.wk f5
    exact ⟨u, k1, c.fz σ H, u, rfl, rfl, ⟨⟨s1.fr.os, s1.fr.tape, s1.fr.output, s1.fr.size, s1.fr.block⟩, s1.le, s1.len, s1.blk, s1.inj, s1.imm, s1.old⟩, s3⟩
  cases e with
  | normal =>
    obtain ⟨c, E, H, rfl, h1, h2, h3, h4⟩ := hq
    obtain ⟨u, k1, k2⟩ := key c E H h1 h2 h4
    exact ⟨h3.defers, u, k1, k2⟩
  | ret =>
    obtain ⟨c, E, H, rfl, h1, h2, h3, h4⟩ := hq
    obtain ⟨u, k1, k2⟩ := key c E H h1 h2 h4
    exact ⟨h3.defers, u, k1, k2⟩
  | exit i => obtain ⟨c, E, H, rfl, h1, h2, h3, h4⟩ := hq; exact h4.elim
  | goto l => exact hq.elim
  | panic ch => exact hq.elim
  | outgrown => exact hq.elim
/-- what a loop's head says, a state says, too: of some first blocks -/
def hprew (n : Nat) : Heap → Heap → Prop
  | [], _ => True
  | b' :: H', l => (match l with | b :: H => wkB b b' ∧ ltb n b' ∧ hprew n H' H | [] => False)
def subEw (n : Nat) : Env → Env → Prop
  | [], _ => True
  | e :: r, E => wk (evt E [] e.t) e.v ∧ e.p = [] ∧ ltr n e.v = true ∧ subEw n r E
def subw (E' : Env) (H' : Heap) (E : Env) (H : Heap) : Prop := subEw (hlen H') E' E ∧ hprew (hlen H') H' H
theorem hprew_split {n : Nat} : ∀ {H' H : Heap}, hprew n H' H → ∃ H2, wkH H H2 ∧ hpre n H' H2
  | [], H, _ => ⟨H, wkH_refl H, trivial⟩
  | b' :: H', [], h => h.elim
  | b' :: H', b :: H, h => by
    obtain ⟨h1, h2, h3⟩ := h
    obtain ⟨H2, k1, k2⟩ := hprew_split h3
    exact ⟨b' :: H2, ⟨h1, k1⟩, rfl, h2, k2⟩
theorem subEw_wkE {n : Nat} {E' E : Env} (h : subEw n E' E) : wkE E' E := by
  induction E' with
  | nil => trivial
  | cons e r ih => exact ⟨h.1, h.2.1, ih h.2.2.2⟩
/-- an environment of values with blocks ahead of the n-th, alone, is kept by a cut -/
theorem ER_cutw {c : Ctx} {n : Nat} {E' E : Env} {a : Act} (hE : ER c E a) (h : subEw n E' E) : ER (c.cut n) E' a := by
  intro t
  have key : (get E' t).2.1 = [] ∧ VR (c.cut n) (get E' t).2.2 (tmpOf a t) := by
    induction E' with
    | nil => exact ⟨rfl, by simp [get, VR]⟩
    | cons e r ih =>
      obtain ⟨h1, h2, h3, h4⟩ := h
      rw [get_cons]
      by_cases he : e.t = t
      · rw [if_pos he]
        subst he
        exact ⟨h2, VR_cut _ _ h3 (VR_wk _ _ _ h1 (evt_top hE _))⟩
      · rw [if_neg he]
        exact ih h4
  rw [key.1]
  exact ⟨fun _ => key.2, fun h => absurd trivial h⟩
theorem cx_subw {code : Code} {E E' : Env} {H H' : Heap} {K : X → Env → Heap → Prop} (hs : subw E' H' E H) (hn : n ≤ hlen H') (h : cx P n code E' H' K) : cx P n code E H K :=
  fun F c a hF hsr he ha hok => by
    rw [hlen_eq] at hn
    obtain ⟨H2, k1, k2⟩ := hprew_split hs.2
    have h1 := (hsr.wk k1).cut (Nat.le_trans hF hn) k2
    have h2 := ER_cutw he hs.1
    rw [hlen_eq] at h2
    exact h F (c.cut H'.length) a hF h1 h2 ha hok
/-- what a round of a loop comes to -/
def rndK {σ : Type} (inv : σ → Env) (hv : σ → Heap) (μ : σ → Nat) (s : σ) (K : X → Env → Heap → Prop) : X → Env → Heap → Prop
  | .normal, E, H => ∃ s', μ s' < μ s ∧ subw (inv s') (hv s') E H
  | .exit i, E, H => K (.exit i) E H
  | .ret, E, H => K .ret E H
/-- a loop, by what holds at each round's head -/
theorem cx_loopw {σ : Type} (inv : σ → Env) (hv : σ → Heap) (μ : σ → Nat) {b : Code} (hn : ∀ s, n ≤ hlen (hv s))
    (s : σ) (h0 : subw (inv s) (hv s) E H)
    (round : ∀ s, cx P n b (inv s) (hv s) (rndK inv hv μ s K)) : cx P n (.loop b) E H K := by
  refine cx_subw h0 (hn s) fun F c a hF hs he ha hok => ?_
  refine wp_loop_ghost (fun m a' w' => ∃ s c', μ s = m ∧ c'.w = w' ∧ SR F c' (hv s) ∧ ER c' (inv s) a' ∧ AO F a') (μ s) ⟨s, c, rfl, rfl, hs, he, ha⟩ ?_
  rintro m a' w' ⟨s, c', rfl, rfl, hs, he, ha⟩
  refine wp_mono (round s F c' a' hF hs he ha hok) fun e a2 w2 hq => ?_
  cases e with
  | normal =>
    obtain ⟨c2, E2, H2, rfl, h1, h2, h3, s', hlt, hsub⟩ := hq
    obtain ⟨H3, k1, k2⟩ := hprew_split hsub.2
    refine ⟨μ s', hlt, s', c2.cut (hv s').length, rfl, rfl, ?_, ?_, h3⟩
    · have := hn s'
      rw [hlen_eq] at this
      exact (h1.wk k1).cut (Nat.le_trans hF this) k2
    · have := ER_cutw h2 hsub.1
      rw [hlen_eq] at this
      exact this
  | exit i => obtain ⟨c', E', H', h0, h1, h2, h3, h4⟩ := hq; exact ⟨c', E', H', h0, h1, h2, h3, h4⟩
  | ret => obtain ⟨c', E', H', h0, h1, h2, h3, h4⟩ := hq; exact ⟨c', E', H', h0, h1, h2, h3, h4⟩
  | goto l => exact hq.elim
  | panic ch => exact hq.elim
  | outgrown => exact hq.elim
/-- where two ways meet: what both come to -/
theorem cx_joinw {a b : Code} (E2 : Env) (H2 : Heap) (h : cx P n a E H fun x E' H' => (match x with
    | .normal => wkE E2 E' ∧ wkH H' H2
    | x => K x E' H')) (hK : cx P n b E2 H2 K) : cx P n (.seq a b) E H K := by
  refine cx_seq ?_
  intro F c ac hn hs he ha hok
  refine wp_mono (h F c ac hn hs he ha hok) fun e a' w' hq => ?_
  cases e with
  | normal =>
    obtain ⟨c', E', H', h0, h1, h2, h3, h4, h5⟩ := hq
    exact ⟨c', E2, H2, h0, h1.wk h5, ER_wk h2 h4, h3, hK⟩
  | exit i => obtain ⟨c', E', H', h0, h1, h2, h3, h4⟩ := hq; exact ⟨c', E', H', h0, h1, h2, h3, h4⟩
  | ret => obtain ⟨c', E', H', h0, h1, h2, h3, h4⟩ := hq; exact ⟨c', E', H', h0, h1, h2, h3, h4⟩
  | goto l => exact hq.elim
  | panic ch => exact hq.elim
  | outgrown => exact hq.elim
/-- a test whose value is known by name -/
theorem cx_if {c : Operand} {t e : Code} (b : Bool) (hb : ev (clean E) [] c = .bool b) (h1 : b = true → cx P n t E H K) (h2 : b = false → cx P n e E H K) : cx P n (.cond c t e) E H K :=
  cx_cond (by rw [hb]; exact ⟨h1, h2⟩)
end
end Go.VM
