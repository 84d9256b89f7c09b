import Derived.Test.YtkcbjhjpepdkcaaVMs
set_option linter.unusedVariables false
set_option linter.unusedSimpArgs false
set_option linter.unnecessarySimpa false
namespace Go.VM
/-! ### What reads only answers alike in every world that has all that was there -/
section
variable {P : Program} {c : Ctx} {w : World}
theorem extract_w {i : Nat} {x z : V} {u : Value} (hx : VR c x u) (h : (extractV x i).has z) : ∃ r, (∀ w, (Instr.extract u i).run P w = .ok r w) ∧ VR c z r := by
  unfold extractV at h
  split at h
  · rename_i vs
    simp only [VR] at hx
    obtain ⟨us, rfl, hl, hs⟩ := hx
    cases hb : Nat.blt i (len vs) with
    | false => rw [hb] at h; exact h.elim
    | true =>
      rw [hb] at h
      simp only [cond, R.has] at h
      subst h
      have hi : i < vs.length := by rw [← len_eq]; exact Nat.blt_eq ▸ hb
      obtain ⟨r, hr, hv⟩ := VRs_get hs (nth_eq vs i hi)
      exact ⟨r, fun w => by simp [Instr.extract, hr], hv⟩
  · exact h.elim
theorem fieldAddr_w {T f : Nat} {x z : V} {u : Value} (hx : VR c x u) (h : (fieldAddr (tfield P T f) x).has z) : ∃ r, (∀ w, (Instr.fieldAt T u f).run P w = .ok r w) ∧ VR c z r := by
  cases ho : tfield P T f with
  | none => rw [ho] at h; exact h.elim
  | some o =>
    obtain ⟨k, t⟩ := o
    obtain ⟨fs, fld, hT, hf, rfl, rfl, h0⟩ := tfield_some ho
    obtain ⟨i, hi⟩ := info_of_size h0
    have key : ∀ w b o, (Instr.fieldAt T (.pointer (some ⟨b, o, none⟩)) f).run P w = .ok (.pointer (some ⟨b, o + fld.offset, none⟩)) w := fun w b o => by
      simp [Instr.fieldAt, run_underlying hT, hf, Instr.sureAddr, fieldPlace, run_sizeOf hi, h0, Addr.add_lit]
    rw [ho] at h
    unfold fieldAddr at h
    dsimp only at h
    split at h
    · rename_i r off
      simp only [R.has] at h; subst h
      simp only [VR] at hx
      split at hx
      · rename_i b m hr
        subst hx
        exact ⟨_, fun w => key w b off, by simp only [VR]; rw [hr]⟩
      · exact hx.elim
    · rename_i r e i off
      simp only [R.has] at h; subst h
      simp only [VR] at hx
      split at hx
      · rename_i b m hr
        subst hx
        exact ⟨_, fun w => key w b _, by simp only [VR]; rw [hr]; simp [Nat.add_assoc]⟩
      · exact hx.elim
    · rename_i cs off
      simp only [R.has] at h; subst h
      simp only [VR] at hx
      obtain ⟨b, o, rfl, h1, h2, h3⟩ := hx
      refine ⟨_, fun w => key w b _, ?_⟩
      simp only [VR]
      exact ⟨b, o, by simp [Nat.add_assoc], h1, h2, h3⟩
    · exact h.elim
theorem indexAddr_w {T e : Nat} (hT : telem P T = some e) {x i z : V} {u v : Value} (hx : VR c x u) (hi : VR c i v) (h : (indexAddr (tsize P e) x i).has z) : ∃ r, (∀ w, (Instr.indexAt T u v).run P w = .ok r w) ∧ VR c z r := by
  obtain ⟨hT', he⟩ := telem_some' hT
  obtain ⟨ie, hie⟩ := info_of_size he
  have key : ∀ w a len cap k (n : Int), 0 ≤ n → n < (len : Nat) → (Instr.indexAt T (.slice (some a) len cap) (.int k n)).run P w = .ok (.pointer (some (a.add (n.toNat * tsize P e)))) w := fun w a len cap k n h0 h1 => by
    rw [run_indexAt_slice w T a len cap k n (slice_elem hT'), if_pos ⟨h0, h1⟩, elem_eq hT', run_sizeOf hie]
    simp
  unfold indexAddr at h
  split at h
  · rename_i nl t e' n f k m
    cases hb : Nat.beq (tsize P e) e' with
    | false => rw [hb] at h; exact h.elim
    | true =>
      rw [hb] at h
      obtain rfl := beq_nat hb
      obtain ⟨⟨h0, h1⟩, rfl⟩ := h
      simp only [VR] at hx hi
      subst hi
      obtain ⟨A, cap, rfl, h2, h3, h4, h5, h6⟩ := hx
      obtain ⟨a, rfl, ia, el, ho, hs⟩ := h6 m.toNat (by omega)
      refine ⟨_, fun w => key w a n cap k m h0 h1, ?_⟩
      have hsp : a.spot = none ∨ 0 < m.toNat * tsize P e := by
        rcases Nat.eq_zero_or_pos (m.toNat * tsize P e) with h | h
        · left
          have : ∃ u, c.w.cell? (a.add (m.toNat * tsize P e + 0)) = some u := by
            have h0 : 0 < (f m.toNat).length := by omega
            obtain ⟨u, hu, _⟩ := VRs_get hs (nth_eq _ 0 h0)
            exact ⟨u, hu⟩
          obtain ⟨u, hu⟩ := this
          rw [h] at hu
          exact cell_spot (a := a) (by simpa [Addr.add] using hu)
        · exact .inr h
      have hadd : a.add (m.toNat * tsize P e) = ⟨a.block, a.off + m.toNat * tsize P e, none⟩ := by
        rcases hsp with h | h
        · exact add_spot h _
        · unfold Addr.add; rw [if_neg (by omega)]
      have hadd2 : ∀ j, a.add (m.toNat * tsize P e + j) = ⟨a.block, a.off + m.toNat * tsize P e + j, none⟩ := fun j => by
        rw [← add_add, hadd, Addr.add_lit]
      simp only [VR]
      refine ⟨a.block, a.off + m.toNat * tsize P e, by rw [hadd]; simp, ia, ?_, ?_⟩
      · rw [el]; intro j x hj hx; exact ho j x hj ((congrArg c.w.cell? (hadd2 j)).trans hx)
      · exact VRs_congr hs fun j _ => (congrArg c.w.cell? (hadd2 j)).symm
  · rename_i nl r e' off n t k m
    cases hb : Nat.beq (tsize P e) e' with
    | false => rw [hb] at h; exact h.elim
    | true =>
      rw [hb] at h
      obtain rfl := beq_nat hb
      obtain ⟨⟨h0, h1⟩, rfl⟩ := h
      simp only [VR] at hx hi
      subst hi
      obtain ⟨A, cap, rfl, h2, h3, h4, h5⟩ := hx
      split at h5
      · rename_i b mm hr
        obtain ⟨h5, h6⟩ := h5
        obtain rfl := h6 (by omega)
        refine ⟨_, fun w => key w _ n cap k m h0 h1, ?_⟩
        simp only [VR]
        rw [hr]
        simp [Addr.add_lit, Nat.add_mul]
      · omega
      · exact h5.elim
  · exact h.elim
theorem bounds_w {n cap : Nat} {t t' : Tg} {l h : Nat} {q : Prop} {lo hi mx : Option V} {lo' hi' mx' : Option Value} (hl : OR c lo lo') (hh : OR c hi hi') (hm : OR c mx mx')
    (hn : n ≤ cap) (ht : t = .cut true → cap = n) {cp : Nat} (hcp : cp ≤ cap) (hx : ∀ C, t = .exact C → cap = C) (hc : cutV n cp t lo hi mx = .cut l h t' q) (hq : q) :
    ∃ m, (∀ w, (Instr.sliceBounds true n cap lo' hi' mx').run P w = .ok (l, h, m) w) ∧ l ≤ h ∧ h ≤ m ∧ m ≤ cap ∧ (h ≤ n ∨ h ≤ cp) ∧ ((t' = .cut true → m = h) ∧ ∀ C, t' = .exact C → m - l = C) := by
  have sh1 : ∀ l, shT t l = .cut true → t = .cut true := fun l h => by cases t <;> simp_all [shT]
  have sh2 : ∀ l C, shT t l = .exact C → cap - l = C := fun l C h => by
    cases t with
    | exact D => have := hx D rfl; simp only [shT, Tg.exact.injEq] at h; omega
    | _ => simp [shT] at h
  have hi1 : ∀ l, hiT t l = .cut true → False := fun l h => by cases t <;> simp [hiT] at h
  have hi2 : ∀ l C, hiT t l = .exact C → cap - l = C := fun l C h => by
    cases t with
    | exact D => have := hx D rfl; simp only [hiT, Tg.exact.injEq] at h; omega
    | _ => simp [hiT] at h
  unfold cutV at hc
  split at hc
  · cases lo' <;> cases hi' <;> cases mx' <;> simp [OR] at hl hh hm
    cases hc
    exact ⟨cap, fun w => by simp [Instr.sliceBounds], by omega, hn, by omega, .inl (by omega), ht, fun C h => by rw [← hx C h]; omega⟩
  · cases lo' <;> cases hi' <;> cases mx' <;> simp [OR] at hl hh hm
    cases hc
    simp only [VR] at hl; subst hl
    obtain ⟨h0, h1⟩ := hq
    exact ⟨cap, fun w => by simp [Instr.sliceBounds, run_sliceBound, h0, h1], by omega, hn, by omega, .inl (by omega), fun h => ht (sh1 _ h), fun C h => sh2 _ C h⟩
  · cases lo' <;> cases hi' <;> cases mx' <;> simp [OR] at hl hh hm
    cases hc
    simp only [VR] at hh; subst hh
    obtain ⟨h0, h1⟩ := hq
    have h2 : ∀ x : Int, x ≤ cp → x ≤ cap := fun x hx => by omega
    exact ⟨cap, fun w => by simp [Instr.sliceBounds, run_sliceBound, h0, h2 _ h1], by omega, by omega, by omega, .inr (by omega), fun h => (hi1 _ h).elim, fun C h => hi2 _ C h⟩
  · cases lo' <;> cases hi' <;> cases mx' <;> simp [OR] at hl hh hm
    cases hc
    simp only [VR] at hl hh; subst hl hh
    rename_i _ l _ h
    obtain ⟨h0, h1, h2⟩ := hq
    have e1 : (h.toNat : Int) = h := Int.toNat_of_nonneg (by omega)
    have h3 : h ≤ cap := by omega
    exact ⟨cap, fun w => by simp [Instr.sliceBounds, run_sliceBound, h0, h1, h3, e1, (by omega : 0 ≤ h)], by omega, by omega, by omega, .inr (by omega), fun h => (hi1 _ h).elim, fun C h => hi2 _ C h⟩
  · cases lo' <;> cases hi' <;> cases mx' <;> simp [OR] at hl hh hm
    cases hc
    simp only [VR] at hm hh; subst hm hh
    rename_i _ h _ m
    obtain ⟨h0, h1, h2⟩ := hq
    have e1 : (m.toNat : Int) = m := Int.toNat_of_nonneg (by omega)
    have h3 : m ≤ cap := by omega
    refine ⟨m.toNat, fun w => by simp [Instr.sliceBounds, run_sliceBound, h0, h1, h3, e1, (by omega : 0 ≤ m)], by omega, by omega, by omega, .inl (by omega), fun e => ?_, fun C e => by cases e⟩
    simp only [Tg.cut.injEq, decide_eq_true_eq] at e
    rw [e]
  · cases lo' <;> cases hi' <;> cases mx' <;> simp [OR] at hl hh hm
    cases hc
    simp only [VR] at hl hm hh; subst hl hm hh
    rename_i _ l _ h _ m
    obtain ⟨h00, h0, h1, h2⟩ := hq
    have e1 : (m.toNat : Int) = m := Int.toNat_of_nonneg (by omega)
    have e2 : (h.toNat : Int) = h := Int.toNat_of_nonneg (by omega)
    have h3 : m ≤ cap := by omega
    refine ⟨m.toNat, fun w => by simp [Instr.sliceBounds, run_sliceBound, h00, h0, h1, h3, e1, e2, (by omega : 0 ≤ m), (by omega : 0 ≤ h)], by omega, by omega, by omega, .inl (by omega), fun e => ?_, fun C e => by cases e⟩
    simp only [Tg.cut.injEq, decide_eq_true_eq] at e
    rw [e]
  · cases hc
/-- values that say all -/
def pinB : V → Bool
  | .bool _ => true
  | .int _ _ => true
  | .str _ => true
  | _ => false
theorem pinB_eq {z : V} (h : pinB z = true) {u v : Value} (hu : VR c z u) (hv : VR c z v) : u = v := by
  cases z <;> simp only [pinB, reduceCtorEq] at h <;> (simp only [VR] at hu hv; rw [hu, hv])
theorem pin_w {s : Sem Value} {z : V} (hz : pinB z = true) (h : ∀ w : World, ∃ r, s.run P w = .ok r w ∧ VR c z r) : ∃ r, (∀ w, s.run P w = .ok r w) ∧ VR c z r := by
  obtain ⟨r, h1, h2⟩ := h c.w
  refine ⟨r, fun w => ?_, h2⟩
  obtain ⟨r', h3, h4⟩ := h w
  rw [pinB_eq hz h2 h4]; exact h3
theorem sliceV_w {T : Nat} {x z : V} {u : Value} {lo hi mx : Option V} {lo' hi' mx' : Option Value} (hx : VR c x u) (hl : OR c lo lo') (hh : OR c hi hi') (hm : OR c mx mx')
    {es : Nat} (hes : ∀ e, P.underlying T = some (.slice e) → es ≠ 0 → telem P T = some e ∧ es = tsize P e)
    (h : (sliceV (tkind P T) es x lo hi mx).has z) : ∃ r, (∀ w, (Instr.sliceAt T u lo' hi' mx').run P w = .ok r w) ∧ VR c z r := by
  unfold sliceV at h
  have hkk : ∀ k, (match tkind P T with | .slice => bif Nat.beq es 0 then TK.other else tkind P T | _ => tkind P T) = k → (k = .str → tkind P T = .str) ∧ (k = .slice → tkind P T = .slice ∧ es ≠ 0) := by
    intro k hk
    split at hk
    · rename_i h1
      cases hb : Nat.beq es 0 with
      | true => rw [hb] at hk; subst hk; exact ⟨(fun h => by cases h), (fun h => by cases h)⟩
      | false =>
        rw [hb] at hk
        simp only [cond] at hk
        rw [← hk]
        refine ⟨fun h => h, fun h => ⟨h, ?_⟩⟩
        rintro rfl
        simp at hb
    · rename_i h1
      rw [← hk]
      exact ⟨fun h => h, fun h => absurd h h1⟩
  split at h
  · rename_i s hk
    replace hk := (hkk _ hk).1 rfl
    cases mx' <;> simp [OR] at hm
    simp only [VR] at hx; subst hx
    have key := fun w => sliceS_ok (P := P) (w := w) (kind_str hk) (lo := lo) (hi := hi) (lo' := lo') (hi' := hi') (c := c) (z := z) (by cases lo <;> cases lo' <;> simpa [OR] using hl) (by cases hi <;> cases hi' <;> simpa [OR] using hh) h
    obtain ⟨r, h1, h2⟩ := key c.w
    refine ⟨r, fun w => ?_, h2⟩
    obtain ⟨r', h3, h4⟩ := key w
    have hz : pinB z = true := by
      unfold sliceS at h
      split at h <;> first | exact h.elim | (simp only [R.has] at h; first | (subst h; rfl) | (obtain ⟨_, rfl⟩ := h; rfl))
    rw [pinB_eq hz h2 h4]; exact h3
  · rename_i mx2 nl t e' n f hk
    obtain ⟨hk, hes0⟩ := (hkk _ hk).2 rfl
    obtain ⟨e, hT⟩ := kind_slice hk
    obtain ⟨he, hes⟩ := hes e hT hes0
    subst hes
    obtain ⟨_, he0⟩ := telem_some' he
    obtain ⟨ie, hie⟩ := info_of_size he0
    cases hb : Nat.beq (tsize P e) e' with
    | false => rw [hb] at h; exact h.elim
    | true =>
      rw [hb] at h
      obtain rfl := beq_nat hb
      dsimp only [cond] at h
      split at h
      · rename_i l h' t' q hc
        obtain ⟨hq, rfl⟩ := h
        simp only [VR] at hx
        obtain ⟨A, cap, rfl, h2, h3, h4, h5, h6⟩ := hx
        obtain ⟨m, hrun, b1, b2, b3, b4, b5, b6⟩ := bounds_w (P := P) hl hh hm h2 (fun h => h3 (by cases t <;> simp_all [unx])) (cp := n) h2 (fun C h => by cases t <;> simp [unx] at h) hc hq
        refine ⟨sliced A l h' m (tsize P e), ?_, ?_⟩
        · intro w
          rw [run_sliceAt_slice w T _ _ _ _ (slice_elem hT), run_slice_any w T A n cap (slice_elem hT), hrun, elem_eq hT]
          simp [run_sizeOf hie]
        · simp only [VR, sliced]
          refine ⟨_, _, rfl, by omega, fun e => by rw [b5 e], ?_, ?_, ?_⟩
          · intro b hb; rw [h4 b hb]; cases A <;> simp; split <;> simp
          · intro hA
            have : A = none := by cases A <;> simp at hA <;> first | rfl | (split at hA <;> simp at hA)
            have := h5 this
            omega
          · intro i hi
            obtain ⟨a, rfl, ia, el, ho, hs⟩ := h6 (l + i) (by omega)
            have hml : m ≠ l := by omega
            refine ⟨a.add (l * tsize P e), by simp [hml], by rw [add_block]; exact ia, el, ?_, ?_⟩
            · intro j x hj hx
              exact ho j x hj ((congrArg c.w.cell? (by rw [add_add, Nat.add_mul, Nat.add_assoc])).trans hx)
            · exact VRs_congr hs fun j _ => congrArg c.w.cell? (by rw [add_add, Nat.add_mul, Nat.add_assoc])
      · exact h.elim
  · rename_i mx2 nl r e' off n t hk
    obtain ⟨hk, hes0⟩ := (hkk _ hk).2 rfl
    obtain ⟨e, hT⟩ := kind_slice hk
    obtain ⟨he, hes⟩ := hes e hT hes0
    subst hes
    obtain ⟨_, he0⟩ := telem_some' he
    obtain ⟨ie, hie⟩ := info_of_size he0
    cases hb : Nat.beq (tsize P e) e' with
    | false => rw [hb] at h; exact h.elim
    | true =>
      rw [hb] at h
      obtain rfl := beq_nat hb
      dsimp only [cond] at h
      split at h
      · rename_i l h' t' q hc
        obtain ⟨hq, rfl⟩ := h
        simp only [VR] at hx
        obtain ⟨A, cap, rfl, h2, h3, h4, h5⟩ := hx
        obtain ⟨m, hrun, b1, b2, b3, b4, b5, b6⟩ := bounds_w (P := P) hl hh hm h2.1 h3 (cp := cpT t n) (by cases t <;> simp only [cpT] <;> first | exact h2.1 | (have := h2.2 _ rfl; omega)) h2.2 hc hq
        refine ⟨sliced A l h' m (tsize P e), ?_, ?_⟩
        · intro w
          rw [run_sliceAt_slice w T _ _ _ _ (slice_elem hT), run_slice_any w T A n cap (slice_elem hT), hrun, elem_eq hT]
          simp [run_sizeOf hie]
        · simp only [VR, sliced]
          refine ⟨_, _, rfl, ⟨by omega, b6⟩, fun e => by rw [b5 e], ?_, ?_⟩
          · intro b hb; rw [h4 b hb]; cases A <;> simp; split <;> simp
          · split at h5
            · obtain ⟨h5, h6⟩ := h5
              refine ⟨by omega, fun hp => ?_⟩
              have hml : m ≠ l := by omega
              rw [h6 (by omega)]
              simp [hml, Addr.add_lit, Nat.add_mul]
            · omega
            · exact h5
      · exact h.elim
  · exact h.elim
theorem loadV_w {T : Nat} {cs : List V} {off : Nat} {z : V} {g : Nat → Option Value} {b o : Nat} (H : VRs c cs g) (ho : One cs.length g) 
    (h : (loadV (ti P T) cs off).has z) : ∃ r, (∀ w : World, (∀ j x, j < cs.length → g j = some x → w.cell? ⟨b, o + j, none⟩ = some x) → (loadVar T ⟨b, o + off, none⟩).run P w = .ok r w) ∧ VR c z r := by
  unfold loadV at h
  dsimp only [ti] at h
  split at h
  · rename_i hT
    cases hb : Nat.ble (off + tsize P T) (len cs) with
    | false => rw [hb] at h; exact h.elim
    | true =>
      rw [hb] at h
      simp only [cond, R.has] at h
      subst h
      have hle : off + tsize P T ≤ cs.length := by rw [← len_eq]; exact Nat.le_of_ble_eq_true hb
      obtain ⟨i, hi⟩ := tagg_info hT
      have H2 := VRs_take (VRs_drop H off) (tsize P T)
      obtain ⟨us, h1, h2, h3⟩ := VRs_list H2
      have hul : us.length = tsize P T := by rw [h1]; simp; omega
      have hrun : ∀ w : World, (∀ j x, j < cs.length → g j = some x → w.cell? ⟨b, o + j, none⟩ = some x) → (loadCells ⟨b, o + off, none⟩ (tsize P T)).run P w = .ok us.toArray w := by
        intro w hg
        rw [← hul]
        refine run_loadCells_list w _ us fun j v hj => ?_
        rw [Addr.add_lit]
        have hjl : j < us.length := (List.getElem?_eq_some_iff.1 hj).1
        have := h2 j (by simp; omega)
        rw [this] at hj
        have := hg (off + j) v (by omega) hj
        rw [Nat.add_assoc]; exact this
      refine ⟨.agg us.toArray, fun w hg => by simp [loadVar, tagg_run hT, run_sizeOf hi, hrun w hg], ?_⟩
      simp only [VR]
      rw [dr_eq, tk_eq]
      refine ⟨us.toArray, rfl, by simp [h1], ?_, by simpa using h3⟩
      intro j x hj hx
      have := h2 j hj
      simp only [List.getElem?_toArray] at hx
      rw [this] at hx
      refine ho (off + j) x ?_ hx
      simp at hj; omega
  · rename_i hT
    cases hb : Nat.blt off (len cs) with
    | false => rw [hb] at h; exact h.elim
    | true =>
      rw [hb] at h
      simp only [cond, R.has] at h
      subst h
      have hlt : off < cs.length := by rw [← len_eq]; exact Nat.blt_eq ▸ hb
      obtain ⟨u, hu, hv⟩ := VRs_get H (nth_eq cs off hlt)
      refine ⟨u, fun w hg => ?_, hv⟩
      have hc := hg off u hlt hu
      simp [loadVar, tagg_run hT, Go.load, Sem.run, hc]
  · exact h.elim
theorem field_w {T f k t : Nat} (hf : tfield P T f = some (k, t)) {x z : V} {u : Value} (hx : VR c x u) (h : (fieldV (some (k, t)) (ti P t) x).has z) : ∃ r, (∀ w, (Instr.field T u f).run P w = .ok r w) ∧ VR c z r := by
  obtain ⟨fs, fld, hT, hfs, rfl, rfl, h0⟩ := tfield_some hf
  unfold fieldV at h
  split at h
  · rename_i k' t' cs heq
    cases heq
    simp only [VR] at hx
    obtain ⟨us, rfl, g1, g2, g3⟩ := hx
    unfold loadV at h
    dsimp only [ti] at h
    split at h
    · rename_i hag
      cases hb : Nat.ble (fld.offset + tsize P fld.type) (len cs) with
      | false => rw [hb] at h; exact h.elim
      | true =>
        rw [hb] at h
        simp only [cond, R.has] at h
        subst h
        obtain ⟨i, hi⟩ := tagg_info hag
        have hle : fld.offset + tsize P fld.type ≤ cs.length := by rw [← len_eq]; exact Nat.le_of_ble_eq_true hb
        refine ⟨.agg (us.extract fld.offset (fld.offset + tsize P fld.type)), ?_, ?_⟩
        · intro w
          simp [Instr.field, run_underlying hT, hfs, asAgg, part, tagg_run hag, run_sizeOf hi]
        · simp only [VR]
          rw [dr_eq, tk_eq]
          have hget : ∀ j, j < tsize P fld.type → (us.extract fld.offset (fld.offset + tsize P fld.type))[j]? = us[fld.offset + j]? := fun j hj => by
            rw [Array.getElem?_extract, if_pos (by rw [g1]; omega)]
          have hl : ((cs.drop fld.offset).take (tsize P fld.type)).length = tsize P fld.type := by simp; omega
          refine ⟨_, rfl, by simp [g1]; omega, ?_, ?_⟩
          · intro j y hj hy
            rw [hl] at hj
            exact g2 (fld.offset + j) y (by omega) ((hget j hj).symm.trans hy)
          · exact VRs_congr (VRs_take (VRs_drop g3 _) _) fun j hj => hget j (by omega)
    · rename_i hag
      cases hb : Nat.blt fld.offset (len cs) with
      | false => rw [hb] at h; exact h.elim
      | true =>
        rw [hb] at h
        simp only [cond, R.has] at h
        subst h
        have hlt : fld.offset < cs.length := by rw [← len_eq]; exact Nat.blt_eq ▸ hb
        obtain ⟨u, hu, hv⟩ := VRs_get g3 (nth_eq cs _ hlt)
        refine ⟨u, fun w => ?_, hv⟩
        simp only [Instr.field, Sem.run_bind, run_underlying hT, Result.andThen_ok, hfs, asAgg, Sem.run_pure]
        exact part_scalar hag us _ hu
    · exact h.elim
  · exact h.elim
theorem build_w {T : Nat} {z cs : List V} {pl : List (Nat × Nat)} (hz : tzero P T = some z) (hpl : tplaces P T = some pl) {parts : List (Nat × V)} {vals : Array (Nat × Value)} (hp : PR c parts vals.toList)
    (h : fillV (pnth pl) z parts = some cs) : ∃ u, (∀ w, (Instr.build T vals).run P w = .ok u w) ∧ VR c (.agg cs) u := by
  obtain ⟨i, v, hi, hv, rfl, h3, h4⟩ := tzero_some hz
  unfold tplaces at hpl
  split at hpl
  · rename_i fs hT
    have hpn : ∀ k, pnth pl k = pl.toArray[k]? := pnth_eq pl
    have hl : (ofVs v.cells.toList).length = v.cells.size := by rw [ofVs_eq]; simp
    obtain ⟨us', g1, g2, g3, g4, _⟩ := fill_ok hp (us := v.cells) hl.symm (fun j x hj hx => h3 x (by
      have hx' : v.cells[j]? = some x := hx
      rw [← Array.getElem?_toList] at hx'
      exact List.mem_of_getElem? hx')) (by simpa using VRs_ofVs (c := c) v.cells.toList) h
    refine ⟨.agg us', fun w => run_build w T vals us' ?_, by simp only [VR]; exact ⟨us', rfl, g2, g3, g4⟩⟩
    unfold Program.built
    simp only [hi, hT, hv, hpl]
    rw [← g1]
    congr 1
    funext k
    exact (hpn k).symm
  · cases hpl
end
section
variable {P : Program} {F : Fr} {c : Ctx} {H : Heap}
theorem Extends.cell {w w' : World} (hx : w.Extends w') {a : Addr} {x : Value} (h : w.cell? a = some x) : w'.cell? a = some x := by
  have hlt : a.block < w.heap.size := by
    unfold World.cell? at h
    split at h
    · rename_i hb
      exact (Array.getElem?_eq_some_iff.1 hb).1
    · cases h
  rw [hx.cell a hlt]; exact h
theorem load_w (hs : SR F c H) {T : Nat} {x z : V} {u : Value} (hx : VR c x u) (h : (load (ti P T) H x).has z) : ∃ r, (∀ w', c.w.Extends w' → (Instr.loadAt T u).run P w' = .ok r w') ∧ VR c z r := by
  unfold load at h
  split at h
  · rename_i r off
    simp only [VR] at hx
    split at hx
    · rename_i b m hr
      subst hx
      split at h
      · rename_i cs hb
        obtain ⟨h1, h2⟩ := hs.get hr
        rw [hb] at h2
        obtain ⟨C, el, g1, ⟨g2, g3, g4⟩, _⟩ := h2 trivial
        have := loadV_w (P := P) (b := b) (o := 0) g4 g3 h
        obtain ⟨u, hu, hv⟩ := this
        exact ⟨u, fun w' hx => by simpa [Instr.loadAt, Instr.sureAddr] using hu w' (fun j x _ hj => Extends.cell hx (by rw [Nat.zero_add, cell_row g1]; exact hj)), hv⟩
      · exact h.elim
    · exact hx.elim
  · rename_i r e i off
    simp only [VR] at hx
    split at hx
    · rename_i b m hr
      subst hx
      split at h
      · rename_i e' n f hb
        obtain ⟨h1, h2⟩ := hs.get hr
        rw [hb] at h2
        obtain ⟨C, el, g1, ⟨g2, g3, g4⟩, _⟩ := h2 trivial
        cases hbb : Nat.beq e e' with
        | false => rw [hbb] at h; exact h.elim
        | true =>
          rw [hbb] at h
          obtain rfl := beq_nat hbb
          dsimp only [cond] at h
          split at h
          · rename_i v hv
            obtain ⟨hi, rfl⟩ := h
            obtain ⟨k1, k2, k3⟩ := g4 i hi
            have := loadV_w (P := P) (T := T) (off := off) (z := z) (b := b) (o := i * e) k3 (by rw [k1]; exact k2) (by rw [hv]; rfl)
            obtain ⟨u, hu, hv⟩ := this
            exact ⟨u, fun w' hx => by simpa [Instr.loadAt, Instr.sureAddr] using hu w' (fun j x _ hj => Extends.cell hx (by rw [cell_row g1]; exact hj)), hv⟩
          · exact h.elim
      · exact h.elim
    · exact hx.elim
  · rename_i cs off
    simp only [VR] at hx
    obtain ⟨b, o, rfl, h1, h2, h3⟩ := hx
    have := loadV_w (P := P) (b := b) (o := o) (VRs.ofBare h3) h2 h
    obtain ⟨u, hu, hv⟩ := this
    exact ⟨u, fun w' hx => by simpa [Instr.loadAt, Instr.sureAddr] using hu w' (fun j x _ hj => Extends.cell hx hj), hv⟩
  · exact h.elim
end
end Go.VM
