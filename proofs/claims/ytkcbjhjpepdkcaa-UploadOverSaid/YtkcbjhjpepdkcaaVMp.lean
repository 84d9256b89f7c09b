import Derived.Test.YtkcbjhjpepdkcaaVMo
set_option linter.unusedVariables false
set_option linter.unusedSimpArgs false
set_option linter.unnecessarySimpa false
namespace Go.VM
/-! ### What a call hands back: blocks that are kept, and others that nobody writes any more -/
def idx : List Nat → Nat → Option Nat
  | [], _ => none
  | s :: l, r => bif Nat.beq s r then some 0 else (match idx l r with | some i => some (i + 1) | none => none)
section
variable (top : Bool) (g : List V → List V) (ok : List V → Prop) (σ : List Nat) (H : Heap)
mutual
/-- a value, behind a call's end: blocks of `σ` are kept, under new numbers; of others what they hold (by `g`) -/
def frW : V → V
  | .own nl r e off n t => (match idx σ r with
    | some i => (match top with | true => .own nl i e off n t | false => .bad)
    | none => (match hget H r with
      | .arr e' m f => bif Nat.beq e e' then .lst nl t e n (fun i => g (f (off + i))) else .bad
      | _ => .bad))
  | .ptr r off => (match idx σ r with
    | some i => (match top with | true => .ptr i off | false => .bad)
    | none => (match hget H r with
      | .box cs => .iptr (g cs) off
      | _ => .bad))
  | .eptr r e i off => (match idx σ r with
    | some j => (match top with | true => .eptr j e i off | false => .bad)
    | none => (match hget H r with
      | .arr e' m f => bif Nat.beq e e' then .iptr (g (f i)) off else .bad
      | _ => .bad))
  | .agg cs => .agg (frWs cs)
  | .tup cs => .tup (frWs cs)
  | .fn f a b => .fn f (frWs a) (frWs b)
  | v => v
def frWs : List V → List V
  | [] => []
  | v :: vs => frW v :: frWs vs
end
mutual
def okW : V → Prop
  | .own _ r e off n _ => (match idx σ r with
    | some _ => True
    | none => (match hget H r with
      | .arr e' m f => off + n ≤ m ∧ ∀ i, i < n → ok (f (off + i))
      | _ => True))
  | .ptr r _ => (match idx σ r with
    | some _ => True
    | none => (match hget H r with
      | .box cs => ok cs
      | _ => True))
  | .eptr r e i _ => (match idx σ r with
    | some _ => True
    | none => (match hget H r with
      | .arr e' m f => i < m ∧ ok (f i)
      | _ => True))
  | .agg cs => okWs cs
  | .tup cs => okWs cs
  | .fn _ a b => okWs a ∧ okWs b
  | _ => True
def okWs : List V → Prop
  | [] => True
  | v :: vs => okW v ∧ okWs vs
end
def frB : Blk → Blk
  | .box cs => .box (frWs top g σ H cs)
  | .arr e n f => .arr e n fun i => frWs top g σ H (f i)
  | .dead => .dead
def okB : Blk → Prop
  | .box cs => okWs ok σ H cs
  | .arr e n f => ∀ i, i < n → okWs ok σ H (f i)
  | .dead => True
end
def bads : List V → List V
  | [] => []
  | _ :: vs => .bad :: bads vs
/-- what frozen blocks hold, `d` levels deep -/
def frD (σ : List Nat) (H : Heap) : Nat → List V → List V
  | 0 => bads
  | d + 1 => fun cs => frWs false (frD σ H d) σ H cs
def okD (σ : List Nat) (H : Heap) : Nat → List V → Prop
  | 0 => fun _ => True
  | d + 1 => fun cs => okWs (okD σ H d) σ H cs
/-- blocks that nobody writes any more, but those of `σ` -/
def FzI (c : Ctx) (σ : List Nat) (H : Heap) (b : Nat) : Prop := c.I b ∨ ∃ r cap x, idx σ r = none ∧ H[r]? = some x ∧ Live x ∧ c.locs[r]? = some (some (b, cap))
def Ctx.fz (c : Ctx) (σ : List Nat) (H : Heap) : Ctx := ⟨c.w, FzI c σ H, σ.map fun r => (match c.locs[r]? with | some l => l | none => none)⟩
theorem idx_some {σ : List Nat} {r i : Nat} (h : idx σ r = some i) : σ[i]? = some r := by
  induction σ generalizing i with
  | nil => cases h
  | cons s l ih =>
    simp only [idx] at h
    cases hb : Nat.beq s r with
    | true => rw [hb] at h; cases h; simp [beq_nat hb]
    | false =>
      rw [hb] at h
      dsimp only [cond] at h
      split at h
      · rename_i j hj; cases h; simpa using ih hj
      · cases h
theorem idx_none {σ : List Nat} {r : Nat} (h : idx σ r = none) : r ∉ σ := by
  induction σ with
  | nil => simp
  | cons s l ih =>
    simp only [idx] at h
    cases hb : Nat.beq s r with
    | true => rw [hb] at h; cases h
    | false =>
      rw [hb] at h
      dsimp only [cond] at h
      split at h
      · cases h
      · rename_i hj
        simp only [List.mem_cons, not_or]
        refine ⟨?_, ih hj⟩
        rintro rfl
        simp at hb
theorem frWs_length (top : Bool) (g : List V → List V) (σ : List Nat) (H : Heap) (cs : List V) : (frWs top g σ H cs).length = cs.length := by
  induction cs with
  | nil => simp [frWs]
  | cons v vs ih => simp [frWs, ih]
theorem bads_length (cs : List V) : (bads cs).length = cs.length := by induction cs <;> simp_all [bads]
theorem frD_length (σ : List Nat) (H : Heap) (d : Nat) (cs : List V) : (frD σ H d cs).length = cs.length := by
  cases d with
  | zero => exact bads_length cs
  | succ d => exact frWs_length _ _ _ _ cs
section
variable {top : Bool} {F : Fr} {c : Ctx} {H : Heap} {σ : List Nat} {g : List V → List V} {ok : List V → Prop}
theorem VRs_len {c : Ctx} {n : Nat} {vs ws : List V} (h : ws.length = vs.length) {gt : Nat → Option Value} (ho : One vs.length gt) : One ws.length gt := by rw [h]; exact ho
mutual
theorem frW_ok (hs : SR F c H) {L : List (Option (Nat × Nat))} (hL : top = true → ∀ r i, idx σ r = some i → L[i]? = c.locs[r]? ∨ c.locs[r]? = none) {I : Nat → Prop} (hI : ∀ b, FzI c σ H b → I b)
    (hg : ∀ cs gt, VRs c cs gt → ok cs → VRs ⟨c.w, I, []⟩ (g cs) gt) (hgl : ∀ cs, (g cs).length = cs.length) :
    ∀ (v : V) (u : Value), okW ok σ H v → VR c v u → VR ⟨c.w, I, L⟩ (frW top g σ H v) u
  | .bad, _, _, _ => by simp only [frW, VR]
  | .nil, _, _, h => by simpa only [frW, VR] using h
  | .bool _, _, _, h => by simpa only [frW, VR] using h
  | .int _ _, _, _, h => by simpa only [frW, VR] using h
  | .str _, _, _, h => by simpa only [frW, VR] using h
  | .lst nl t e n f, u, _, h => by
    simp only [frW, VR] at h ⊢
    obtain ⟨A, cap, e1, e2, e3, e4, e5, e6⟩ := h
    refine ⟨A, cap, e1, e2, e3, e4, e5, fun i hi => ?_⟩
    obtain ⟨a, ea, ia, el, ho, hss⟩ := e6 i hi
    exact ⟨a, ea, hI _ (.inl ia), el, ho, VRs_mono (c := ⟨c.w, c.I, []⟩) (c' := ⟨c.w, I, []⟩) ⟨fun r x e => by simp at e, fun b hb => hI b (.inl hb), fun _ _ => rfl⟩ _ _ _ (fun _ _ h => h) hss⟩
  | .iptr cs off, u, _, h => by
    simp only [frW, VR] at h ⊢
    obtain ⟨b, o, e1, e2, e0, e3⟩ := h
    exact ⟨b, o, e1, hI _ (.inl e2), e0, VRs_mono (c := ⟨c.w, c.I, []⟩) (c' := ⟨c.w, I, []⟩) ⟨fun r x e => by simp at e, fun b hb => hI b (.inl hb), fun _ _ => rfl⟩ _ _ _ (fun _ _ h => h) e3⟩
  | .own nl r e off n t, u, hok, h => by
    simp only [frW, VR, okW] at h hok ⊢
    obtain ⟨A, cap, e1, e2, e3, e4, e5⟩ := h
    cases hi : idx σ r with
    | some i =>
      dsimp only
      cases htop : top with
      | false => simp only [VR]
      | true =>
        simp only [VR]
        refine ⟨A, cap, e1, e2, e3, e4, ?_⟩
        rcases hL htop r i hi with h1 | h1
        · rw [h1]; exact e5
        · rw [h1] at e5; exact e5.elim
    | none =>
      rw [hi] at hok
      dsimp only at hok ⊢
      split
      · rename_i e' m f hb
        rw [hb] at hok
        cases hbb : Nat.beq e e' with
        | false => simp only [cond, VR]
        | true =>
          obtain rfl := beq_nat hbb
          simp only [cond, VR]
          obtain ⟨hle, hok⟩ := hok
          have hlive := hget_live hb trivial
          have hA : A = none → cap = 0 := fun hA => by
            subst hA
            split at e5
            · rcases Nat.eq_zero_or_pos cap with h0 | h0
              · exact h0
              · have := e5.2 h0; cases this
            · exact e5
            · exact e5.elim
          refine ⟨A, cap, e1, e2.1, e3, e4, hA, fun i hin => ?_⟩
          split at e5
          · rename_i b mm hr
            obtain ⟨h5, h6⟩ := e5
            obtain rfl := h6 (by omega)
            obtain ⟨C, el, k1, ⟨k2, k3, k4⟩, k5, k6⟩ := hs.blk r _ _ hlive hr trivial
            obtain ⟨p1, p2, p3⟩ := k4 (off + i) (by omega)
            have key : ∀ j, c.w.cell? ((⟨b, off * e, none⟩ : Addr).add (i * e + j)) = C[(off + i) * e + j]? := fun j => by
              rw [Addr.add_lit, cell_row k1, Nat.add_mul, Nat.add_assoc]
            refine ⟨_, rfl, hI _ (.inr ⟨r, mm, _, hi, hlive, trivial, hr⟩), by rw [hgl]; exact p1, p2.mono fun j _ => key j, ?_⟩
            exact VRs_congr (hg _ _ p3 (hok i hin)) fun j _ => key j
          · omega
          · exact e5.elim
      · simp only [VR]
  | .ptr r off, u, hok, h => by
    simp only [frW, VR, okW] at h hok ⊢
    cases hi : idx σ r with
    | some i =>
      dsimp only
      cases htop : top with
      | false => simp only [VR]
      | true =>
        simp only [VR]
        rcases hL htop r i hi with h1 | h1
        · rw [h1]; exact h
        · rw [h1] at h; exact h.elim
    | none =>
      rw [hi] at hok
      dsimp only at hok ⊢
      split
      · rename_i cs hb
        rw [hb] at hok
        have hlive := hget_live hb trivial
        simp only [VR]
        split at h
        · rename_i b mm hr
          obtain ⟨C, el, k1, ⟨k2, k3, k4⟩, k5, k6⟩ := hs.blk r _ _ hlive hr trivial
          have key : ∀ j, c.w.cell? ⟨b, 0 + j, none⟩ = C[j]? := fun j => by rw [Nat.zero_add, cell_row k1]
          refine ⟨b, 0, by rw [h]; simp, hI _ (.inr ⟨r, mm, _, hi, hlive, trivial, hr⟩), ?_, ?_⟩
          · rw [hgl]; exact k3.mono fun j _ => key j
          · exact VRs_congr (hg _ _ k4 hok) fun j _ => key j
        · exact h.elim
      · simp only [VR]
  | .eptr r e i off, u, hok, h => by
    simp only [frW, VR, okW] at h hok ⊢
    cases hi : idx σ r with
    | some j =>
      dsimp only
      cases htop : top with
      | false => simp only [VR]
      | true =>
        simp only [VR]
        rcases hL htop r j hi with h1 | h1
        · rw [h1]; exact h
        · rw [h1] at h; exact h.elim
    | none =>
      rw [hi] at hok
      dsimp only at hok ⊢
      split
      · rename_i e' m f hb
        rw [hb] at hok
        have hlive := hget_live hb trivial
        cases hbb : Nat.beq e e' with
        | false => simp only [cond, VR]
        | true =>
          obtain rfl := beq_nat hbb
          simp only [cond, VR]
          split at h
          · rename_i b mm hr
            obtain ⟨C, el, k1, ⟨k2, k3, k4⟩, k5, k6⟩ := hs.blk r _ _ hlive hr trivial
            obtain ⟨p1, p2, p3⟩ := k4 i hok.1
            have key : ∀ j, c.w.cell? ⟨b, i * e + j, none⟩ = C[i * e + j]? := fun j => by rw [cell_row k1]
            refine ⟨b, i * e, h, hI _ (.inr ⟨r, mm, _, hi, hlive, trivial, hr⟩), ?_, ?_⟩
            · rw [hgl, p1]; exact p2.mono fun j _ => key j
            · exact VRs_congr (hg _ _ p3 hok.2) fun j _ => key j
          · exact h.elim
      · simp only [VR]
  | .agg cs, u, hok, h => by
    simp only [frW, VR, okW] at h hok ⊢
    obtain ⟨us, e1, e2, e0, e3⟩ := h
    exact ⟨us, e1, by rw [frWs_length]; exact e2, by rw [frWs_length]; exact e0, frWs_ok hs hL hI hg hgl cs _ hok e3⟩
  | .tup cs, u, hok, h => by
    simp only [frW, VR, okW] at h hok ⊢
    obtain ⟨us, e1, e2, e3⟩ := h
    exact ⟨us, e1, by rw [frWs_length]; exact e2, frWs_ok hs hL hI hg hgl cs _ hok e3⟩
  | .fn f first caps, u, hok, h => by
    simp only [frW, VR, okW] at h hok ⊢
    obtain ⟨us, ws, e1, e2, e3, e4, e5⟩ := h
    exact ⟨us, ws, e1, by rw [frWs_length]; exact e2, by rw [frWs_length]; exact e3, frWs_ok hs hL hI hg hgl first _ hok.1 e4, frWs_ok hs hL hI hg hgl caps _ hok.2 e5⟩
theorem frWs_ok (hs : SR F c H) {L : List (Option (Nat × Nat))} (hL : top = true → ∀ r i, idx σ r = some i → L[i]? = c.locs[r]? ∨ c.locs[r]? = none) {I : Nat → Prop} (hI : ∀ b, FzI c σ H b → I b)
    (hg : ∀ cs gt, VRs c cs gt → ok cs → VRs ⟨c.w, I, []⟩ (g cs) gt) (hgl : ∀ cs, (g cs).length = cs.length) :
    ∀ (vs : List V) (gt : Nat → Option Value), okWs ok σ H vs → VRs c vs gt → VRs ⟨c.w, I, L⟩ (frWs top g σ H vs) gt
  | [], _, _, _ => by simp only [frWs, VRs]
  | v :: vs, gt, hok, h => by
    simp only [frWs, VRs, okWs] at h hok ⊢
    obtain ⟨⟨u, e1, e2⟩, e3⟩ := h
    exact ⟨⟨u, e1, frW_ok hs hL hI hg hgl v u hok.1 e2⟩, frWs_ok hs hL hI hg hgl vs _ hok.2 e3⟩
end
theorem bads_ok {c : Ctx} {vs : List V} {gt : Nat → Option Value} (h : VRs c vs gt) {c' : Ctx} : VRs c' (bads vs) gt := by
  induction vs generalizing gt with
  | nil => simp only [bads, VRs]
  | cons v vs ih =>
    simp only [bads, VRs] at h ⊢
    obtain ⟨⟨u, e1, _⟩, e3⟩ := h
    exact ⟨⟨u, e1, by simp only [VR]⟩, ih e3⟩
theorem frD_ok (hs : SR F c H) {I : Nat → Prop} (hI : ∀ b, FzI c σ H b → I b) : ∀ (d : Nat) (cs : List V) (gt : Nat → Option Value), VRs c cs gt → okD σ H d cs → VRs ⟨c.w, I, []⟩ (frD σ H d cs) gt
  | 0, cs, gt, h, _ => bads_ok h
  | d + 1, cs, gt, h, hok => frWs_ok (top := false) hs (fun h => by cases h) hI (frD_ok hs hI d) (frD_length σ H d) cs gt hok h
/-- the value that comes back, and the blocks that are kept -/
abbrev frV (d : Nat) (σ : List Nat) (H : Heap) (v : V) : V := frW true (frD σ H d) σ H v
def frH (d : Nat) (σ : List Nat) (H : Heap) : List Nat → Heap
  | [] => []
  | r :: l => frB true (frD σ H d) σ H (hget H r) :: frH d σ H l
def okH (d : Nat) (σ : List Nat) (H : Heap) : List Nat → Prop
  | [] => True
  | r :: l => okB (okD σ H d) σ H (hget H r) ∧ okH d σ H l
/-- no number twice, and all of blocks that are there -/
def okσ (n : Nat) : List Nat → Bool
  | [] => true
  | r :: l => (match idx l r with | some _ => false | none => band (Nat.blt r n) (okσ n l))
theorem okσ_spec {n : Nat} {σ : List Nat} (h : okσ n σ = true) : σ.Nodup ∧ ∀ r ∈ σ, r < n := by
  induction σ with
  | nil => simp
  | cons r l ih =>
    simp only [okσ] at h
    split at h
    · cases h
    · rename_i hi
      obtain ⟨h1, h2⟩ := band_true h
      obtain ⟨h3, h4⟩ := ih h2
      refine ⟨List.nodup_cons.2 ⟨idx_none hi, h3⟩, fun x hx => ?_⟩
      rcases List.mem_cons.1 hx with rfl | hx
      · exact Nat.blt_eq ▸ h1
      · exact h4 x hx
theorem frH_get {d : Nat} {σ : List Nat} {H : Heap} (l : List Nat) (i : Nat) : (frH d σ H l)[i]? = (l[i]?).map fun r => frB true (frD σ H d) σ H (hget H r) := by
  induction l generalizing i with
  | nil => simp [frH]
  | cons r l ih => cases i <;> simp [frH, ih]
theorem okH_get {d : Nat} {σ : List Nat} {H : Heap} {l : List Nat} (h : okH d σ H l) {r : Nat} (hr : r ∈ l) : okB (okD σ H d) σ H (hget H r) := by
  induction l with
  | nil => simp at hr
  | cons x l ih =>
    rcases List.mem_cons.1 hr with rfl | hr
    · exact h.1
    · exact ih h.2 hr
theorem frLive {x : Blk} {top : Bool} {g : List V → List V} {σ : List Nat} {H : Heap} (h : Live (frB top g σ H x)) : Live x := by cases x <;> simp_all [frB, Live]
/-- the state behind a call's end -/
theorem SR.fz (hs : SR F c H) (h0 : F.c0.locs = []) (hX : ∀ b, ¬ F.X b) {d : Nat} (hσ : okσ H.length σ = true) (hok : okH d σ H σ) :
    SR F (c.fz σ H) (frH d σ H σ) ∧ (∀ v u, okW (okD σ H d) σ H v → VR c v u → VR (c.fz σ H) (frV d σ H v) u) := by
  obtain ⟨hnd, hlt⟩ := okσ_spec hσ
  have hL : ∀ r i, idx σ r = some i → (c.fz σ H).locs[i]? = c.locs[r]? ∨ c.locs[r]? = none := by
    intro r i hi
    have := idx_some hi
    simp only [Ctx.fz, List.getElem?_map, this, Option.map_some]
    cases c.locs[r]? with
    | none => exact .inr rfl
    | some l => exact .inl rfl
  have hloc : ∀ (i : Nat) (l : Option (Nat × Nat)), (c.fz σ H).locs[i]? = some l → ∃ r, σ[i]? = some r ∧ c.locs[r]? = some l := by
    intro i l hl
    simp only [Ctx.fz, List.getElem?_map, Option.map_eq_some_iff] at hl
    obtain ⟨r, hr, hl⟩ := hl
    refine ⟨r, hr, ?_⟩
    have : r < c.locs.length := by rw [hs.len]; exact hlt r (List.mem_of_getElem? hr)
    rw [List.getElem?_eq_getElem this] at hl ⊢
    simp only at hl
    rw [hl]
  have hI : ∀ b, FzI c σ H b → (c.fz σ H).I b := fun _ h => h
  have hnotI : ∀ r x b m, r ∈ σ → H[r]? = some x → Live x → c.locs[r]? = some (some (b, m)) → ¬ c.I b → ¬ FzI c σ H b := by
    rintro r x b m hr hx hl hlr hb (h | ⟨r', cap', x', h1, h2, h3, h4⟩)
    · exact hb h
    · have := hs.inj r r' x x' b m cap' hx h2 hl h3 hlr h4
      subst this
      exact idx_none h1 hr
  refine ⟨⟨hs.fr, ⟨fun r x e => by rw [h0] at e; simp at e, fun b hb => .inl (hs.le.I b hb), hs.le.heap⟩, ?_, ?_, ?_, ?_, ?_⟩, fun v u hv h => ?_⟩
  · simp only [Ctx.fz, List.length_map]
    apply Eq.symm
    have : ∀ l : List Nat, (frH d σ H l).length = l.length := fun l => by induction l <;> simp_all [frH]
    exact this σ
  · intro i x l hi hl
    rw [frH_get] at hi
    obtain ⟨r, hr, hlr⟩ := hloc i l hl
    rw [hr] at hi
    simp only [Option.map_some, Option.some.injEq] at hi
    subst hi
    obtain ⟨g1, g2⟩ := hs.get hlr
    have hmem := List.mem_of_getElem? hr
    have hokr := okH_get hok hmem
    cases l with
    | none =>
      cases hx : hget H r with
      | box cs => rw [hx] at g2; exact g2.elim
      | arr e n f => rw [hx] at g2; exact g2
      | dead => trivial
    | some l =>
      obtain ⟨b, m⟩ := l
      intro hlive
      obtain ⟨C, el, k1, k2, k3, k4⟩ := g2 (frLive hlive)
      refine ⟨C, el, k1, ?_, hnotI r _ b m hmem g1 (frLive hlive) hlr k3, k4⟩
      cases hx : hget H r with
      | box cs =>
        rw [hx] at k2 hokr
        exact ⟨by rw [frWs_length]; exact k2.1, by rw [frWs_length]; exact k2.2.1, frWs_ok (top := true) hs (fun _ => hL) hI (frD_ok hs hI d) (frD_length σ H d) cs _ hokr k2.2.2⟩
      | arr e n f =>
        rw [hx] at k2 hokr
        refine ⟨k2.1, k2.2.1, fun i hi => ?_⟩
        obtain ⟨p1, p2, p3⟩ := k2.2.2 i hi
        exact ⟨by rw [frWs_length]; exact p1, p2, frWs_ok (top := true) hs (fun _ => hL) hI (frD_ok hs hI d) (frD_length σ H d) _ _ (hokr i hi) p3⟩
      | dead => trivial
  · intro i i' x x' b m m' hi hi' hx hx' hl hl'
    obtain ⟨r, hr, hlr⟩ := hloc i _ hl
    obtain ⟨r', hr', hlr'⟩ := hloc i' _ hl'
    rw [frH_get, hr] at hi
    rw [frH_get, hr'] at hi'
    simp only [Option.map_some, Option.some.injEq] at hi hi'
    subst hi hi'
    have := hs.inj r r' _ _ b m m' (hs.get hlr).1 (hs.get hlr').1 (frLive hx) (frLive hx') hlr hlr'
    subst this
    exact (List.getElem?_inj (List.getElem?_eq_some_iff.1 hr).1 hnd).1 (hr.trans hr'.symm)
  · rintro b (h | ⟨r, cap, x, h1, h2, h3, h4⟩)
    · exact hs.imm b h
    · obtain ⟨C, el, k1, _⟩ := hs.blk r x _ h2 h4 h3
      exact (Array.getElem?_eq_some_iff.1 k1).1
  · rintro b (h | ⟨r, cap, x, h1, h2, h3, h4⟩)
    · exact hs.old b h
    · obtain ⟨C, el, k1, _, _, h5 | h5⟩ := hs.blk r x _ h2 h4 h3
      · exact .inr h5
      · exact absurd h5 (hX b)
  · exact frW_ok (top := true) hs (fun _ => hL) hI (frD_ok hs hI d) (frD_length σ H d) v u hv h
end
end Go.VM
