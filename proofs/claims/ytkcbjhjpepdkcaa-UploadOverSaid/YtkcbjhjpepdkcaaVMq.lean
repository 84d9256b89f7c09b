import Derived.Test.YtkcbjhjpepdkcaaVMp
set_option linter.unusedVariables false
set_option linter.unusedSimpArgs false
set_option linter.unnecessarySimpa false
namespace Go.VM
/-! ### Contracts -/
/-- THE CONTRACT OF A CALL THAT WRITES NOTHING THAT WAS THERE: what comes back, and blocks of its own that the value leads to. -/
def Meets (P : Program) (f : Nat) (args : List V) (v : V) (H1 : Heap) : Prop :=
  fbody P f = true ∧ ∀ (w : World) (I : Nat → Prop), (∀ b, I b → b < w.heap.size) → ∀ us : Array Value, us.size = args.length → (VRs ⟨w, I, []⟩ args fun j => us[j]?) →
    Calls P f us w fun e w' => ∃ c' u, e = .returned u ∧ c'.w = w' ∧ SR ⟨⟨w, I, []⟩, fun _ => False, 0⟩ c' H1 ∧ VR c' v u
mutual
def shV (n : Nat) : V → V
  | .own nl r e off m t => .own nl (n + r) e off m t
  | .ptr r off => .ptr (n + r) off
  | .eptr r e i off => .eptr (n + r) e i off
  | .agg cs => .agg (shVs n cs)
  | .tup cs => .tup (shVs n cs)
  | .fn f a b => .fn f (shVs n a) (shVs n b)
  | v => v
def shVs (n : Nat) : List V → List V
  | [] => []
  | v :: vs => shV n v :: shVs n vs
end
def shH (n : Nat) : Heap → Heap
  | [] => []
  | .box cs :: H => .box (shVs n cs) :: shH n H
  | .arr e m f :: H => .arr e m (fun i => shVs n (f i)) :: shH n H
  | .dead :: H => .dead :: shH n H
def happ : Heap → Heap → Heap
  | [], l => l
  | b :: H, l => b :: happ H l
theorem happ_eq (a b : Heap) : happ a b = a ++ b := by induction a <;> simp_all [happ]
theorem shVs_length (n : Nat) (vs : List V) : (shVs n vs).length = vs.length := by
  induction vs with
  | nil => simp [shVs]
  | cons v vs ih => simp [shVs, ih]
theorem shH_length (n : Nat) (H : Heap) : (shH n H).length = H.length := by
  induction H with
  | nil => simp [shH]
  | cons b H ih => cases b <;> simp [shH, ih]
def shB (n : Nat) : Blk → Blk
  | .box cs => .box (shVs n cs)
  | .arr e m f => .arr e m fun i => shVs n (f i)
  | .dead => .dead
theorem shH_get (n : Nat) (H : Heap) (r : Nat) : (shH n H)[r]? = (H[r]?).map (shB n) := by
  induction H generalizing r with
  | nil => simp [shH]
  | cons b H ih => cases b <;> cases r <;> simp [shH, shB, ih]
section
variable {c c' : Ctx} {n : Nat}
mutual
theorem VR_sh (hw : c'.w = c.w) (hI : ∀ b, c.I b → c'.I b) (hl : ∀ (r : Nat) l, c.locs[r]? = some l → c'.locs[n + r]? = some l) : ∀ (v : V) (u : Value), VR c v u → VR c' (shV n v) u
  | .bad, _, _ => by simp only [shV, VR]
  | .nil, _, h => by simpa only [shV, VR] using h
  | .bool _, _, h => by simpa only [shV, VR] using h
  | .int _ _, _, h => by simpa only [shV, VR] using h
  | .str _, _, h => by simpa only [shV, VR] using h
  | .lst nl t e m f, u, h => by
    simp only [shV]
    exact VR_mono (c := ⟨c.w, c.I, []⟩) (c' := c') ⟨fun r x e => by simp at e, hI, fun _ _ => by rw [hw]⟩ _ _ (by simpa only [VR] using h)
  | .iptr cs off, u, h => by
    simp only [shV]
    exact VR_mono (c := ⟨c.w, c.I, []⟩) (c' := c') ⟨fun r x e => by simp at e, hI, fun _ _ => by rw [hw]⟩ _ _ (by simpa only [VR] using h)
  | .own nl r e off m t, u, h => by
    simp only [shV, VR] at h ⊢
    obtain ⟨A, cap, e1, e2, e3, e4, e5⟩ := h
    refine ⟨A, cap, e1, e2, e3, e4, ?_⟩
    cases hr : c.locs[r]? with
    | none => rw [hr] at e5; exact e5.elim
    | some l => rw [hl r l hr]; rw [hr] at e5; exact e5
  | .ptr r off, u, h => by
    simp only [shV, VR] at h ⊢
    cases hr : c.locs[r]? with
    | none => rw [hr] at h; exact h.elim
    | some l => rw [hl r l hr]; rw [hr] at h; exact h
  | .eptr r e i off, u, h => by
    simp only [shV, VR] at h ⊢
    cases hr : c.locs[r]? with
    | none => rw [hr] at h; exact h.elim
    | some l => rw [hl r l hr]; rw [hr] at h; exact h
  | .agg cs, u, h => by
    simp only [shV, VR] at h ⊢
    obtain ⟨us, e1, e2, e0, e3⟩ := h
    exact ⟨us, e1, by rw [shVs_length]; exact e2, by rw [shVs_length]; exact e0, VRs_sh hw hI hl cs _ e3⟩
  | .tup cs, u, h => by
    simp only [shV, VR] at h ⊢
    obtain ⟨us, e1, e2, e3⟩ := h
    exact ⟨us, e1, by rw [shVs_length]; exact e2, VRs_sh hw hI hl cs _ e3⟩
  | .fn f first caps, u, h => by
    simp only [shV, VR] at h ⊢
    obtain ⟨us, ws, e1, e2, e3, e4, e5⟩ := h
    exact ⟨us, ws, e1, by rw [shVs_length]; exact e2, by rw [shVs_length]; exact e3, VRs_sh hw hI hl first _ e4, VRs_sh hw hI hl caps _ e5⟩
theorem VRs_sh (hw : c'.w = c.w) (hI : ∀ b, c.I b → c'.I b) (hl : ∀ (r : Nat) l, c.locs[r]? = some l → c'.locs[n + r]? = some l) : ∀ (vs : List V) (g : Nat → Option Value), VRs c vs g → VRs c' (shVs n vs) g
  | [], _, _ => by simp only [shVs, VRs]
  | v :: vs, g, h => by
    simp only [shVs, VRs] at h ⊢
    obtain ⟨⟨u, e1, e2⟩, e3⟩ := h
    exact ⟨⟨u, e1, VR_sh hw hI hl v u e2⟩, VRs_sh hw hI hl vs _ e3⟩
end
theorem Cont_sh (hw : c'.w = c.w) (hI : ∀ b, c.I b → c'.I b) (hl : ∀ (r : Nat) l, c.locs[r]? = some l → c'.locs[n + r]? = some l) {C : Array Value} {cap : Nat} {x : Blk} (h : Cont c C cap x) : Cont c' C cap (shB n x) := by
  cases x with
  | box cs => exact ⟨by rw [shVs_length]; exact h.1, by rw [shVs_length]; exact h.2.1, VRs_sh hw hI hl _ _ h.2.2⟩
  | arr e m f => exact ⟨h.1, h.2.1, fun i hi => ⟨by rw [shVs_length]; exact (h.2.2 i hi).1, (h.2.2 i hi).2.1, VRs_sh hw hI hl _ _ (h.2.2 i hi).2.2⟩⟩
  | dead => trivial
end
theorem Live_sh {n : Nat} {x : Blk} : Live (shB n x) ↔ Live x := by cases x <;> simp [shB, Live]
section
variable {P : Program} {F : Fr} {c : Ctx} {H : Heap}
/-- the state behind a call that wrote nothing that was there -/
theorem SR.call (hs : SR F c H) {c' : Ctx} {H1 : Heap} (h1 : SR ⟨⟨c.w, c.I, []⟩, fun _ => False, 0⟩ c' H1) :
    SR F ⟨c'.w, c'.I, c.locs ++ c'.locs⟩ (H ++ shH H.length H1) ∧ Le c ⟨c'.w, c'.I, c.locs ++ c'.locs⟩ := by
  have hJ : ∀ b, c.I b → c'.I b := h1.le.I
  have hJ1 : ∀ b, c'.I b → c.I b ∨ c.w.heap.size ≤ b := h1.old
  have hsame : ∀ b, b < c.w.heap.size → c'.w.heap[b]? = c.w.heap[b]? := fun b hb => h1.fr.block b hb (fun h => h)
  have hle : Le c ⟨c'.w, c'.I, c.locs ++ c'.locs⟩ := ⟨fun r x e => by rw [List.getElem?_append_left (List.getElem?_eq_some_iff.1 e).1]; exact e, hJ, fun b hb => hsame b (hs.imm b hb)⟩
  have hsz := h1.fr.size
  dsimp only at hsz
  have hlen := hs.len
  have key : ∀ (r : Nat) (y : Blk) (l : Option (Nat × Nat)), (H ++ shH H.length H1)[r]? = some y → (c.locs ++ c'.locs)[r]? = some l →
      (H[r]? = some y ∧ c.locs[r]? = some l ∧ r < H.length) ∨ (∃ q x, r = H.length + q ∧ H1[q]? = some x ∧ y = shB H.length x ∧ c'.locs[q]? = some l) := by
    intro r y l hr hl
    by_cases hlt : r < H.length
    · rw [List.getElem?_append_left hlt] at hr
      rw [List.getElem?_append_left (by omega)] at hl
      exact .inl ⟨hr, hl, hlt⟩
    · rw [List.getElem?_append_right (by omega), shH_get] at hr
      rw [List.getElem?_append_right (by omega), hlen] at hl
      cases hx : H1[r - H.length]? with
      | none => rw [hx] at hr; cases hr
      | some x =>
        rw [hx] at hr
        simp only [Option.map_some, Option.some.injEq] at hr
        exact .inr ⟨r - H.length, x, by omega, hx, hr.symm, hl⟩
  have holdlt : ∀ (r : Nat) (y : Blk) (b m : Nat), H[r]? = some y → Live y → c.locs[r]? = some (some (b, m)) → b < c.w.heap.size := by
    intro r y b m hr hy hl
    obtain ⟨C', el', h1, _⟩ := hs.blk r y _ hr hl hy
    exact (Array.getElem?_eq_some_iff.1 h1).1
  have hnewge : ∀ (r : Nat) (y : Blk) (b m : Nat), H1[r]? = some y → Live y → c'.locs[r]? = some (some (b, m)) → c.w.heap.size ≤ b := by
    intro r y b m hr hy hl
    obtain ⟨C', el', _, _, _, h5 | h5⟩ := h1.blk r y _ hr hl hy
    · exact h5
    · exact h5.elim
  refine ⟨⟨?_, hs.le.trans hle, by simp [hlen, h1.len, shH_length], ?_, ?_, ?_, ?_⟩, hle⟩
  · refine ⟨h1.fr.os.trans hs.fr.os, h1.fr.tape.trans hs.fr.tape, h1.fr.output.trans hs.fr.output, Nat.le_trans hs.fr.size hsz, fun k hk hx => ?_⟩
    show c'.w.heap[k]? = _
    rw [hsame k (Nat.lt_of_lt_of_le hk hs.fr.size)]
    exact hs.fr.block k hk hx
  · intro r y l hr hl
    rcases key r y l hr hl with ⟨a1, a2, _⟩ | ⟨q, x, rfl, a2, rfl, a4⟩
    · refine (hs.blk r y l a1 a2).mono hle fun b m e hlive => ?_
      subst e
      obtain ⟨C', el', g1, _, g3, _⟩ := hs.blk r y _ a1 a2 hlive
      have hb := holdlt r y b m a1 hlive a2
      refine ⟨hsame b hb, fun hj => ?_⟩
      rcases hJ1 b hj with h | h
      · exact g3 h
      · omega
    · have hb := h1.blk q x l a2 a4
      cases l with
      | none => cases x <;> first | exact hb | exact hb.elim
      | some l =>
        obtain ⟨b, m⟩ := l
        intro hlive
        obtain ⟨C, el, g1, g2, g3, g4⟩ := hb (Live_sh.1 hlive)
        refine ⟨C, el, g1, Cont_sh (c := c') (c' := ⟨c'.w, c'.I, c.locs ++ c'.locs⟩) rfl (fun _ h => h) ?_ g2, g3, .inl ?_⟩
        · intro r l hr
          show (c.locs ++ c'.locs)[H.length + r]? = _
          rw [List.getElem?_append_right (by omega), hlen]
          simpa using hr
        · exact Nat.le_trans hs.fr.size (hnewge q x b m a2 (Live_sh.1 hlive) a4)
  · intro r r' y y' b m m' hr hr' hy hy' hl hl'
    rcases key r y _ hr hl with ⟨a1, a2, a3⟩ | ⟨q, x, rfl, a2, rfl, a4⟩ <;> rcases key r' y' _ hr' hl' with ⟨b1, b2, b3⟩ | ⟨q', x', rfl, b2, rfl, b4⟩
    · exact hs.inj r r' y y' b m m' a1 b1 hy hy' a2 b2
    · have := holdlt r y b m a1 hy a2
      have := hnewge q' x' b m' b2 (Live_sh.1 hy') b4
      omega
    · have := holdlt r' y' b m' b1 hy' b2
      have := hnewge q x b m a2 (Live_sh.1 hy) a4
      omega
    · rw [h1.inj q q' x x' b m m' a2 b2 (Live_sh.1 hy) (Live_sh.1 hy') a4 b4]
  · intro b hb
    exact h1.imm b hb
  · intro b hb
    rcases hJ1 b hb with h | h
    · exact hs.old b h
    · exact .inr (Nat.le_trans hs.fr.size h)
/-- a call by its contract -/
theorem cw_meets {f : Nat} {args : List V} {v : V} {H1 : Heap} (h : Meets P f args v H1) (hnr : ltrs 0 args = true) {K : V → Heap → Prop} (hk : K (shV (hlen H) v) (happ H (shH (hlen H) H1))) : cw P f args H K := by
  refine ⟨h.1, fun F c hs us hsz hus => ?_⟩
  have hus' : VRs ⟨c.w, c.I, []⟩ args fun j => us[j]? := by
    have := VRs_cut args _ hnr hus
    simpa [Ctx.cut] using this
  refine Calls.mono (h.2 c.w c.I hs.imm us hsz hus') ?_
  rintro e w' ⟨c', u, rfl, rfl, h1, h2⟩
  obtain ⟨k1, k2⟩ := hs.call h1
  rw [hlen_eq, happ_eq] at hk
  have key := VR_sh (c := c') (c' := ⟨c'.w, c'.I, c.locs ++ c'.locs⟩) (n := H.length) rfl (fun _ h => h) (fun r l hr => by
    show (c.locs ++ c'.locs)[H.length + r]? = _
    rw [List.getElem?_append_right (by rw [hs.len]; omega), hs.len]
    simpa using hr) v u h2
  exact ⟨⟨c'.w, c'.I, c.locs ++ c'.locs⟩, u, _, _, rfl, rfl, k2, k1, key, hk⟩
/-- a call whose arguments lead into the caller's own blocks, and whose value leads nowhere -/
theorem SR.after (hs : SR F c H) {w' : World} (h : FR ⟨c, fun _ => False, 0⟩ w') : SR F { c with w := w' } H ∧ Le c { c with w := w' } := by
  have hsame : ∀ b, b < c.w.heap.size → w'.heap[b]? = c.w.heap[b]? := fun b hb => h.block b hb (fun h => h)
  have hle : Le c { c with w := w' } := ⟨fun _ _ e => e, fun _ h => h, fun b hb => hsame b (hs.imm b hb)⟩
  refine ⟨⟨⟨h.os.trans hs.fr.os, h.tape.trans hs.fr.tape, h.output.trans hs.fr.output, Nat.le_trans hs.fr.size h.size, fun k hk hx => ?_⟩, hs.le.trans hle, hs.len, ?_, hs.inj, fun b hb => Nat.lt_of_lt_of_le (hs.imm b hb) h.size, hs.old⟩, hle⟩
  · rw [hsame k (Nat.lt_of_lt_of_le hk hs.fr.size)]
    exact hs.fr.block k hk hx
  · intro r y l hr hl
    refine (hs.blk r y l hr hl).mono hle fun b m e hlive => ?_
    subst e
    obtain ⟨C', el', g1, _, g3, _⟩ := hs.blk r y _ hr hl hlive
    exact ⟨hsame b (Array.getElem?_eq_some_iff.1 g1).1, g3⟩
mutual
/-- a value that leads nowhere -/
def flat : V → Bool
  | .bool _ => true
  | .int _ _ => true
  | .str _ => true
  | .nil => true
  | .agg cs => flats cs
  | .tup cs => flats cs
  | _ => false
def flats : List V → Bool
  | [] => true
  | v :: vs => band (flat v) (flats vs)
end
mutual
theorem VR_flat {c c' : Ctx} : ∀ (v : V) (u : Value), flat v = true → VR c v u → VR c' v u
  | .bool _, _, _, h => by simpa only [VR] using h
  | .int _ _, _, _, h => by simpa only [VR] using h
  | .str _, _, _, h => by simpa only [VR] using h
  | .nil, _, _, h => by simpa only [VR] using h
  | .agg cs, u, hf, h => by
    simp only [VR] at h ⊢
    obtain ⟨us, e1, e2, e0, e3⟩ := h
    exact ⟨us, e1, e2, e0, VRs_flat cs _ (by simpa [flat] using hf) e3⟩
  | .tup cs, u, hf, h => by
    simp only [VR] at h ⊢
    obtain ⟨us, e1, e2, e3⟩ := h
    exact ⟨us, e1, e2, VRs_flat cs _ (by simpa [flat] using hf) e3⟩
  | .bad, _, hf, _ | .lst _ _ _ _ _, _, hf, _ | .own _ _ _ _ _ _, _, hf, _ | .ptr _ _, _, hf, _ | .eptr _ _ _ _, _, hf, _ | .iptr _ _, _, hf, _ | .fn _ _ _, _, hf, _ => by simp [flat] at hf
theorem VRs_flat {c c' : Ctx} : ∀ (vs : List V) (g : Nat → Option Value), flats vs = true → VRs c vs g → VRs c' vs g
  | [], _, _, _ => by simp only [VRs]
  | v :: vs, g, hf, h => by
    simp only [VRs] at h ⊢
    simp only [flats] at hf
    obtain ⟨⟨u, e1, e2⟩, e3⟩ := h
    exact ⟨⟨u, e1, VR_flat v u (band_true hf).1 e2⟩, VRs_flat vs _ (band_true hf).2 e3⟩
end
theorem cw_view (d : Nat) {f : Nat} {args : List V} {v : V} {H1 : Heap} (h : Meets P f (frWs true (frD [] H d) [] H args) v H1) (hv : flat v = true) (hok : okWs (okD [] H d) [] H args) {K : V → Heap → Prop} (hk : K v H) : cw P f args H K := by
  refine ⟨h.1, fun F c hs us hsz hus => ?_⟩
  have himm : ∀ b, FzI c [] H b → b < c.w.heap.size := by
    rintro b (h | ⟨r, cap, x, h1, h2, h3, h4⟩)
    · exact hs.imm b h
    · obtain ⟨C, el, k1, _⟩ := hs.blk r x _ h2 h4 h3
      exact (Array.getElem?_eq_some_iff.1 k1).1
  have hus' : VRs ⟨c.w, FzI c [] H, []⟩ (frWs true (frD [] H d) [] H args) fun j => us[j]? :=
    frWs_ok (top := true) (σ := []) hs (fun _ r i h => by cases h) (fun _ h => h) (frD_ok hs (fun _ h => h) d) (frD_length [] H d) args _ hok hus
  refine Calls.mono (h.2 c.w (FzI c [] H) himm us (by rw [frWs_length]; exact hsz) hus') ?_
  rintro e w' ⟨c', u, rfl, rfl, h1, h2⟩
  have hfr : FR ⟨c, fun _ => False, 0⟩ c'.w := ⟨h1.fr.os, h1.fr.tape, h1.fr.output, h1.fr.size, h1.fr.block⟩
  obtain ⟨k1, k2⟩ := hs.after hfr
  exact ⟨{ c with w := c'.w }, u, v, H, rfl, rfl, k2, k1, VR_flat v u hv h2, hk⟩
/-- the blocks of a contract's own, as nobody writes them any more -/
theorem Meets.freeze {f : Nat} {args : List V} {v : V} {H1 : Heap} (h : Meets P f args v H1) (d : Nat) (hok : okW (okD [] H1 d) [] H1 v) : Meets P f args (frV d [] H1 v) [] := by
  refine ⟨h.1, fun w I hI us hsz hus => Calls.mono (h.2 w I hI us hsz hus) ?_⟩
  rintro e w' ⟨c', u, rfl, rfl, h1, h2⟩
  obtain ⟨k1, k2⟩ := h1.fz rfl (fun _ h => h) (d := d) (σ := []) rfl trivial
  exact ⟨c'.fz [] H1, u, rfl, rfl, k1, k2 v u hok h2⟩
end
end Go.VM
