import Derived.Test.YtkcbjhjpepdkcaaVMa
set_option linter.unusedVariables false
set_option linter.unusedSimpArgs false
namespace Go.VM
/-- A context that goes on from another one. -/
structure Le (c c' : Ctx) : Prop where
  locs : ∀ (r : Nat) (x : Option (Nat × Nat)), c.locs[r]? = some x → c'.locs[r]? = some x
  I : ∀ b, c.I b → c'.I b
  heap : ∀ b, c.I b → c'.w.heap[b]? = c.w.heap[b]?
theorem Le.refl (c : Ctx) : Le c c := ⟨fun _ _ h => h, fun _ h => h, fun _ _ => rfl⟩
theorem Le.trans {a b c : Ctx} (h : Le a b) (k : Le b c) : Le a c :=
  ⟨fun r x e => k.locs r x (h.locs r x e), fun b i => k.I b (h.I b i), fun x i => (k.heap x (h.I x i)).trans (h.heap x i)⟩
theorem Le.bare {c c' : Ctx} (h : Le c c') : Le c.bare c'.bare := ⟨fun r x e => by simp at e, h.I, h.heap⟩
theorem Le.cell {c c' : Ctx} (h : Le c c') {a : Addr} (hi : c.I a.block) : c'.w.cell? a = c.w.cell? a := by
  unfold World.cell?; rw [h.heap _ hi]
mutual
theorem VR_mono {c c' : Ctx} (h : Le c c') : ∀ (v : V) (u : Value), VR c v u → VR c' v u
  | .bad, _, _ => by simp only [VR]
  | .nil, _, H => by simpa only [VR] using H
  | .bool _, _, H => by simpa only [VR] using H
  | .int _ _, _, H => by simpa only [VR] using H
  | .str _, _, H => by simpa only [VR] using H
  | .lst nl t e n f, u, H => by
    simp only [VR] at H ⊢
    obtain ⟨A, cap, e1, e2, e3, e4, e5, e6⟩ := H
    refine ⟨A, cap, e1, e2, e3, e4, e5, fun i hi => ?_⟩
    obtain ⟨a, ea, ia, el, ho, hs⟩ := e6 i hi
    have hb : ∀ (k : Nat), (a.add k).block = a.block := fun k => by unfold Addr.add; split <;> rfl
    have hc : ∀ k, c'.w.cell? (a.add k) = c.w.cell? (a.add k) := fun k => h.cell (by rw [hb]; exact ia)
    refine ⟨a, ea, h.I _ ia, el, fun j x hj hx => ho j x hj ((hc _).symm.trans hx), ?_⟩
    exact VRs_mono h.bare (f i) _ _ (fun j x hx => (hc _).trans hx) hs
  | .own nl r e off n t, u, H => by
    simp only [VR] at H ⊢
    obtain ⟨A, cap, e1, e2, e3, e4, e5⟩ := H
    refine ⟨A, cap, e1, e2, e3, e4, ?_⟩
    cases hr : c.locs[r]? with
    | none => rw [hr] at e5; exact e5.elim
    | some x => rw [h.locs r x hr]; rw [hr] at e5; exact e5
  | .agg cs, u, H => by
    simp only [VR] at H ⊢
    obtain ⟨us, e1, e2, e0, e3⟩ := H
    exact ⟨us, e1, e2, e0, VRs_mono h cs _ _ (fun _ _ hx => hx) e3⟩
  | .tup cs, u, H => by
    simp only [VR] at H ⊢
    obtain ⟨us, e1, e2, e3⟩ := H
    exact ⟨us, e1, e2, VRs_mono h cs _ _ (fun _ _ hx => hx) e3⟩
  | .ptr r off, u, H => by
    simp only [VR] at H ⊢
    cases hr : c.locs[r]? with
    | none => rw [hr] at H; exact H.elim
    | some x => rw [h.locs r x hr]; rw [hr] at H; exact H
  | .eptr r e i off, u, H => by
    simp only [VR] at H ⊢
    cases hr : c.locs[r]? with
    | none => rw [hr] at H; exact H.elim
    | some x => rw [h.locs r x hr]; rw [hr] at H; exact H
  | .iptr cs off, u, H => by
    simp only [VR] at H ⊢
    obtain ⟨b, o, e1, e2, e0, e3⟩ := H
    have hc : ∀ k, c'.w.cell? ⟨b, o + k, none⟩ = c.w.cell? ⟨b, o + k, none⟩ := fun k => h.cell (a := ⟨b, o + k, none⟩) e2
    exact ⟨b, o, e1, h.I _ e2, fun j x hj hx => e0 j x hj ((hc _).symm.trans hx), VRs_mono h.bare cs _ _ (fun j x hx => (hc _).trans hx) e3⟩
  | .fn f first caps, u, H => by
    simp only [VR] at H ⊢
    obtain ⟨us, ws, e1, e2, e3, e4, e5⟩ := H
    exact ⟨us, ws, e1, e2, e3, VRs_mono h first _ _ (fun _ _ hx => hx) e4, VRs_mono h caps _ _ (fun _ _ hx => hx) e5⟩
theorem VRs_mono {c c' : Ctx} (h : Le c c') : ∀ (vs : List V) (g g' : Nat → Option Value), (∀ j x, g j = some x → g' j = some x) → VRs c vs g → VRs c' vs g'
  | [], _, _, _, _ => by simp only [VRs]
  | v :: vs, g, g', hg, H => by
    simp only [VRs] at H ⊢
    obtain ⟨⟨u, e1, e2⟩, e3⟩ := H
    exact ⟨⟨u, hg 0 u e1, VR_mono h v u e2⟩, VRs_mono h vs _ _ (fun j x hx => hg (j + 1) x hx) e3⟩
end
theorem VRs_get {c : Ctx} {vs : List V} {g : Nat → Option Value} (H : VRs c vs g) {i : Nat} {v : V} (h : vs[i]? = some v) : ∃ u, g i = some u ∧ VR c v u := by
  induction vs generalizing g i with
  | nil => simp at h
  | cons x xs ih =>
    simp only [VRs] at H
    cases i with
    | zero => simp at h; subst h; exact H.1
    | succ i => simp at h; exact ih H.2 h
theorem VRs_of {c : Ctx} {vs : List V} {g : Nat → Option Value} (H : ∀ i v, vs[i]? = some v → ∃ u, g i = some u ∧ VR c v u) : VRs c vs g := by
  induction vs generalizing g with
  | nil => simp only [VRs]
  | cons x xs ih =>
    simp only [VRs]
    exact ⟨H 0 x rfl, ih fun i v h => H (i + 1) v (by simpa using h)⟩
theorem VRs_iff {c : Ctx} {vs : List V} {g : Nat → Option Value} : VRs c vs g ↔ ∀ i v, vs[i]? = some v → ∃ u, g i = some u ∧ VR c v u :=
  ⟨fun H i v h => VRs_get H h, VRs_of⟩
theorem VRs_congr {c : Ctx} {vs : List V} {g g' : Nat → Option Value} (H : VRs c vs g) (h : ∀ j, j < vs.length → g' j = g j) : VRs c vs g' :=
  VRs_of fun i v hi => by
    obtain ⟨u, e, hu⟩ := VRs_get H hi
    exact ⟨u, (h i (List.getElem?_eq_some_iff.1 hi).1).trans e, hu⟩

/-! ### Small facts on the executor's lists -/
theorem len_eq (l : List V) : len l = l.length := by induction l <;> simp_all [len]
theorem nth_eq (l : List V) (i : Nat) (h : i < l.length) : l[i]? = some (nth l i) := by
  induction l generalizing i with
  | nil => simp at h
  | cons x xs ih => cases i with
    | zero => simp [nth]
    | succ i => simp [nth]; exact ih i (by simpa using h)
theorem dr_eq (n : Nat) (l : List V) : dr n l = l.drop n := by
  induction n generalizing l with
  | zero => cases l <;> simp [dr]
  | succ n ih => cases l <;> simp [dr, ih]
theorem tk_eq (n : Nat) (l : List V) : tk n l = l.take n := by
  induction n generalizing l with
  | zero => cases l <;> simp [tk]
  | succ n ih => cases l <;> simp [tk, ih]
theorem spl_length (l : List V) (n : Nat) (vs : List V) : (spl l n vs).length = l.length := by
  induction l generalizing n vs with
  | nil => simp [spl]
  | cons c cs ih => cases n with
    | zero => cases vs <;> simp [spl, ih]
    | succ n => simp [spl, ih]
theorem spl_get (l : List V) (n : Nat) (vs : List V) (i : Nat) (h : i < l.length) : (spl l n vs)[i]? = if n ≤ i ∧ i - n < vs.length then vs[i - n]? else l[i]? := by
  induction l generalizing n vs i with
  | nil => simp at h
  | cons c cs ih =>
    cases n with
    | zero =>
      cases vs with
      | nil => simp [spl]
      | cons v vs =>
        cases i with
        | zero => simp [spl]
        | succ i => simp only [spl, List.getElem?_cons_succ]; rw [ih 0 vs i (by simpa using h)]; simp
    | succ n =>
      cases i with
      | zero => simp [spl]
      | succ i => simp only [spl, List.getElem?_cons_succ]; rw [ih n vs i (by simpa using h)]; simp [Nat.succ_le_succ_iff]
theorem hlen_eq (H : Heap) : hlen H = H.length := by induction H <;> simp_all [hlen]
theorem hadd_eq (H : Heap) (b : Blk) : hadd H b = H ++ [b] := by induction H <;> simp_all [hadd]
theorem hget_eq (H : Heap) (r : Nat) (h : r < H.length) : H[r]? = some (hget H r) := by
  induction H generalizing r with
  | nil => simp at h
  | cons x xs ih => cases r with
    | zero => simp [hget]
    | succ r => simp [hget]; exact ih r (by simpa using h)
theorem hget_out (H : Heap) (r : Nat) (h : ¬ r < H.length) : hget H r = .dead := by
  induction H generalizing r with
  | nil => simp [hget]
  | cons x xs ih => cases r with
    | zero => simp at h
    | succ r => simp [hget]; exact ih r (by simpa using h)
theorem hset_length (H : Heap) (r : Nat) (b : Blk) : (hset H r b).length = H.length := by
  induction H generalizing r with
  | nil => simp [hset]
  | cons x xs ih => cases r <;> simp [hset, ih]
theorem hset_get (H : Heap) (r : Nat) (b : Blk) (i : Nat) : (hset H r b)[i]? = if i = r ∧ r < H.length then some b else H[i]? := by
  induction H generalizing r i with
  | nil => simp [hset]
  | cons x xs ih => cases r with
    | zero => cases i <;> simp [hset]
    | succ r => cases i with
      | zero => simp [hset]
      | succ i => simp only [hset, List.getElem?_cons_succ]; rw [ih r i]; simp
theorem beq_nat {a b : Nat} (h : Nat.beq a b = true) : a = b := Nat.eq_of_beq_eq_true h
theorem ikn_inj {k l : IntKind} (h : Nat.beq (ikn k) (ikn l) = true) : k = l := by
  have := beq_nat h
  cases k <;> cases l <;> simp_all [ikn]
theorem band_true {a b : Bool} (h : band a b = true) : a = true ∧ b = true := by cases a <;> simp_all [band]
theorem beqB_true {a b : Bool} (h : beqB a b = true) : a = b := by cases a <;> cases b <;> simp_all [beqB]
theorem padd_eq (p : Path) (x : Nat × Bool × Bool) : padd p x = p ++ [x] := by induction p <;> simp_all [padd]
theorem evs_eq (E : Env) (p : Path) (l : List Operand) : evs E p l = l.map (ev E p) := by induction l <;> simp_all [evs]
theorem ofVs_eq (l : List Value) : ofVs l = l.map ofV := by induction l <;> simp_all [ofVs]
theorem VR_ofV (c : Ctx) (v : Value) : VR c (ofV v) v := by
  unfold ofV
  split <;> simp [VR]
end Go.VM
