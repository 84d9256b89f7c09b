import Derived.Test.YtkcbjhjpepdkcaaV2
section
set_option linter.unusedVariables false
set_option linter.unusedSimpArgs false
set_option linter.unnecessarySimpa false
namespace Go.VM
/-! ### What reads only answers alike in every world that has all that was there -/
section
variable {P : Program} {c : Ctx} {w : World}
theorem extract_w {i : Nat} {x z : V} {u : Value} (hx : VR c x u) (h : (extractV x i).has z) : ∃ r, (∀ w, (Instr.extract u i).run P w = .ok r w) ∧ VR c z r := by
  unfold extractV at h
  split at h
  · rename_i vs
    simp only [VR] at hx
    obtain ⟨us, rfl, hl, hs⟩ := hx
    cases hb : Nat.blt i (len vs) with
    | false => rw [hb] at h; exact h.elim
    | true =>
      rw [hb] at h
      simp only [cond, R.has] at h
      subst h
      have hi : i < vs.length := by rw [← len_eq]; exact Nat.blt_eq ▸ hb
      obtain ⟨r, hr, hv⟩ := VRs_get hs (nth_eq vs i hi)
      exact ⟨r, fun w => by simp [Instr.extract, hr], hv⟩
  · exact h.elim
theorem fieldAddr_w {T f : Nat} {x z : V} {u : Value} (hx : VR c x u) (h : (fieldAddr (tfield P T f) x).has z) : ∃ r, (∀ w, (Instr.fieldAt T u f).run P w = .ok r w) ∧ VR c z r := by
  cases ho : tfield P T f with
  | none => rw [ho] at h; exact h.elim
  | some o =>
    obtain ⟨k, t⟩ := o
    obtain ⟨fs, fld, hT, hf, rfl, rfl, h0⟩ := tfield_some ho
    obtain ⟨i, hi⟩ := info_of_size h0
    have key : ∀ w b o, (Instr.fieldAt T (.pointer (some ⟨b, o, none⟩)) f).run P w = .ok (.pointer (some ⟨b, o + fld.offset, none⟩)) w := fun w b o => by
      simp [Instr.fieldAt, run_underlying hT, hf, Instr.sureAddr, fieldPlace, run_sizeOf hi, h0, Addr.add_lit]
    rw [ho] at h
    unfold fieldAddr at h
    dsimp only at h
    split at h
    · rename_i r off
      simp only [R.has] at h; subst h
      simp only [VR] at hx
      split at hx
      · rename_i b m hr
        subst hx
        exact ⟨_, fun w => key w b off, by simp only [VR]; rw [hr]⟩
      · exact hx.elim
    · rename_i r e i off
      simp only [R.has] at h; subst h
      simp only [VR] at hx
      split at hx
      · rename_i b m hr
        subst hx
        exact ⟨_, fun w => key w b _, by simp only [VR]; rw [hr]; simp [Nat.add_assoc]⟩
      · exact hx.elim
    · rename_i cs off
      simp only [R.has] at h; subst h
      simp only [VR] at hx
      obtain ⟨b, o, rfl, h1, h2, h3⟩ := hx
      refine ⟨_, fun w => key w b _, ?_⟩
      simp only [VR]
      exact ⟨b, o, by simp [Nat.add_assoc], h1, h2, h3⟩
    · exact h.elim
theorem indexAddr_w {T e : Nat} (hT : telem P T = some e) {x i z : V} {u v : Value} (hx : VR c x u) (hi : VR c i v) (h : (indexAddr (tsize P e) x i).has z) : ∃ r, (∀ w, (Instr.indexAt T u v).run P w = .ok r w) ∧ VR c z r := by
  obtain ⟨hT', he⟩ := telem_some' hT
  obtain ⟨ie, hie⟩ := info_of_size he
  have key : ∀ w a len cap k (n : Int), 0 ≤ n → n < (len : Nat) → (Instr.indexAt T (.slice (some a) len cap) (.int k n)).run P w = .ok (.pointer (some (a.add (n.toNat * tsize P e)))) w := fun w a len cap k n h0 h1 => by
    rw [run_indexAt_slice w T a len cap k n (slice_elem hT'), if_pos ⟨h0, h1⟩, elem_eq hT', run_sizeOf hie]
    simp
  unfold indexAddr at h
  split at h
  · rename_i nl t e' n f k m
    cases hb : Nat.beq (tsize P e) e' with
    | false => rw [hb] at h; exact h.elim
    | true =>
      rw [hb] at h
      obtain rfl := beq_nat hb
      obtain ⟨⟨h0, h1⟩, rfl⟩ := h
      simp only [VR] at hx hi
      subst hi
      obtain ⟨A, cap, rfl, h2, h3, h4, h5, h6⟩ := hx
      obtain ⟨a, rfl, ia, el, ho, hs⟩ := h6 m.toNat (by omega)
      refine ⟨_, fun w => key w a n cap k m h0 h1, ?_⟩
      have hsp : a.spot = none ∨ 0 < m.toNat * tsize P e := by
        rcases Nat.eq_zero_or_pos (m.toNat * tsize P e) with h | h
        · left
          have : ∃ u, c.w.cell? (a.add (m.toNat * tsize P e + 0)) = some u := by
            have h0 : 0 < (f m.toNat).length := by omega
            obtain ⟨u, hu, _⟩ := VRs_get hs (nth_eq _ 0 h0)
            exact ⟨u, hu⟩
          obtain ⟨u, hu⟩ := this
          rw [h] at hu
          exact cell_spot (a := a) (by simpa [Addr.add] using hu)
        · exact .inr h
      have hadd : a.add (m.toNat * tsize P e) = ⟨a.block, a.off + m.toNat * tsize P e, none⟩ := by
        rcases hsp with h | h
        · exact add_spot h _
        · unfold Addr.add; rw [if_neg (by omega)]
      have hadd2 : ∀ j, a.add (m.toNat * tsize P e + j) = ⟨a.block, a.off + m.toNat * tsize P e + j, none⟩ := fun j => by
        rw [← add_add, hadd, Addr.add_lit]
      simp only [VR]
      refine ⟨a.block, a.off + m.toNat * tsize P e, by rw [hadd]; simp, ia, ?_, ?_⟩
      · rw [el]; intro j x hj hx; exact ho j x hj ((congrArg c.w.cell? (hadd2 j)).trans hx)
      · exact VRs_congr hs fun j _ => (congrArg c.w.cell? (hadd2 j)).symm
  · rename_i nl r e' off n t k m
    cases hb : Nat.beq (tsize P e) e' with
    | false => rw [hb] at h; exact h.elim
    | true =>
      rw [hb] at h
      obtain rfl := beq_nat hb
      obtain ⟨⟨h0, h1⟩, rfl⟩ := h
      simp only [VR] at hx hi
      subst hi
      obtain ⟨A, cap, rfl, h2, h3, h4, h5⟩ := hx
      split at h5
      · rename_i b mm hr
        obtain ⟨h5, h6⟩ := h5
        obtain rfl := h6 (by omega)
        refine ⟨_, fun w => key w _ n cap k m h0 h1, ?_⟩
        simp only [VR]
        rw [hr]
        simp [Addr.add_lit, Nat.add_mul]
      · omega
      · exact h5.elim
  · exact h.elim
theorem bounds_w {n cap : Nat} {t t' : Tg} {l h : Nat} {q : Prop} {lo hi mx : Option V} {lo' hi' mx' : Option Value} (hl : OR c lo lo') (hh : OR c hi hi') (hm : OR c mx mx')
    (hn : n ≤ cap) (ht : t = .cut true → cap = n) {cp : Nat} (hcp : cp ≤ cap) (hx : ∀ C, t = .exact C → cap = C) (hc : cutV n cp t lo hi mx = .cut l h t' q) (hq : q) :
    ∃ m, (∀ w, (Instr.sliceBounds true n cap lo' hi' mx').run P w = .ok (l, h, m) w) ∧ l ≤ h ∧ h ≤ m ∧ m ≤ cap ∧ (h ≤ n ∨ h ≤ cp) ∧ ((t' = .cut true → m = h) ∧ ∀ C, t' = .exact C → m - l = C) := by
  have sh1 : ∀ l, shT t l = .cut true → t = .cut true := fun l h => by cases t <;> simp_all [shT]
  have sh2 : ∀ l C, shT t l = .exact C → cap - l = C := fun l C h => by
    cases t with
    | exact D => have := hx D rfl; simp only [shT, Tg.exact.injEq] at h; omega
    | _ => simp [shT] at h
  have hi1 : ∀ l, hiT t l = .cut true → False := fun l h => by cases t <;> simp [hiT] at h
  have hi2 : ∀ l C, hiT t l = .exact C → cap - l = C := fun l C h => by
    cases t with
    | exact D => have := hx D rfl; simp only [hiT, Tg.exact.injEq] at h; omega
    | _ => simp [hiT] at h
  unfold cutV at hc
  split at hc
  · cases lo' <;> cases hi' <;> cases mx' <;> simp [OR] at hl hh hm
    cases hc
    exact ⟨cap, fun w => by simp [Instr.sliceBounds], by omega, hn, by omega, .inl (by omega), ht, fun C h => by rw [← hx C h]; omega⟩
  · cases lo' <;> cases hi' <;> cases mx' <;> simp [OR] at hl hh hm
    cases hc
    simp only [VR] at hl; subst hl
    obtain ⟨h0, h1⟩ := hq
    exact ⟨cap, fun w => by simp [Instr.sliceBounds, run_sliceBound, h0, h1], by omega, hn, by omega, .inl (by omega), fun h => ht (sh1 _ h), fun C h => sh2 _ C h⟩
  · cases lo' <;> cases hi' <;> cases mx' <;> simp [OR] at hl hh hm
    cases hc
    simp only [VR] at hh; subst hh
    obtain ⟨h0, h1⟩ := hq
    have h2 : ∀ x : Int, x ≤ cp → x ≤ cap := fun x hx => by omega
    exact ⟨cap, fun w => by simp [Instr.sliceBounds, run_sliceBound, h0, h2 _ h1], by omega, by omega, by omega, .inr (by omega), fun h => (hi1 _ h).elim, fun C h => hi2 _ C h⟩
  · cases lo' <;> cases hi' <;> cases mx' <;> simp [OR] at hl hh hm
    cases hc
    simp only [VR] at hl hh; subst hl hh
    rename_i _ l _ h
    obtain ⟨h0, h1, h2⟩ := hq
    have e1 : (h.toNat : Int) = h := Int.toNat_of_nonneg (by omega)
    have h3 : h ≤ cap := by omega
    exact ⟨cap, fun w => by simp [Instr.sliceBounds, run_sliceBound, h0, h1, h3, e1, (by omega : 0 ≤ h)], by omega, by omega, by omega, .inr (by omega), fun h => (hi1 _ h).elim, fun C h => hi2 _ C h⟩
  · cases lo' <;> cases hi' <;> cases mx' <;> simp [OR] at hl hh hm
    cases hc
    simp only [VR] at hm hh; subst hm hh
    rename_i _ h _ m
    obtain ⟨h0, h1, h2⟩ := hq
    have e1 : (m.toNat : Int) = m := Int.toNat_of_nonneg (by omega)
    have h3 : m ≤ cap := by omega
    refine ⟨m.toNat, fun w => by simp [Instr.sliceBounds, run_sliceBound, h0, h1, h3, e1, (by omega : 0 ≤ m)], by omega, by omega, by omega, .inl (by omega), fun e => ?_, fun C e => by cases e⟩
    simp only [Tg.cut.injEq, decide_eq_true_eq] at e
    rw [e]
  · cases lo' <;> cases hi' <;> cases mx' <;> simp [OR] at hl hh hm
    cases hc
    simp only [VR] at hl hm hh; subst hl hm hh
    rename_i _ l _ h _ m
    obtain ⟨h00, h0, h1, h2⟩ := hq
    have e1 : (m.toNat : Int) = m := Int.toNat_of_nonneg (by omega)
    have e2 : (h.toNat : Int) = h := Int.toNat_of_nonneg (by omega)
    have h3 : m ≤ cap := by omega
    refine ⟨m.toNat, fun w => by simp [Instr.sliceBounds, run_sliceBound, h00, h0, h1, h3, e1, e2, (by omega : 0 ≤ m), (by omega : 0 ≤ h)], by omega, by omega, by omega, .inl (by omega), fun e => ?_, fun C e => by cases e⟩
    simp only [Tg.cut.injEq, decide_eq_true_eq] at e
    rw [e]
  · cases hc
/-- values that say all -/
def pinB : V → Bool
  | .bool _ => true
  | .int _ _ => true
  | .str _ => true
  | _ => false
theorem pinB_eq {z : V} (h : pinB z = true) {u v : Value} (hu : VR c z u) (hv : VR c z v) : u = v := by
  cases z <;> simp only [pinB, reduceCtorEq] at h <;> (simp only [VR] at hu hv; rw [hu, hv])
theorem pin_w {s : Sem Value} {z : V} (hz : pinB z = true) (h : ∀ w : World, ∃ r, s.run P w = .ok r w ∧ VR c z r) : ∃ r, (∀ w, s.run P w = .ok r w) ∧ VR c z r := by
  obtain ⟨r, h1, h2⟩ := h c.w
  refine ⟨r, fun w => ?_, h2⟩
  obtain ⟨r', h3, h4⟩ := h w
  rw [pinB_eq hz h2 h4]; exact h3
theorem sliceV_w {T : Nat} {x z : V} {u : Value} {lo hi mx : Option V} {lo' hi' mx' : Option Value} (hx : VR c x u) (hl : OR c lo lo') (hh : OR c hi hi') (hm : OR c mx mx')
    {es : Nat} (hes : ∀ e, P.underlying T = some (.slice e) → es ≠ 0 → telem P T = some e ∧ es = tsize P e)
    (h : (sliceV (tkind P T) es x lo hi mx).has z) : ∃ r, (∀ w, (Instr.sliceAt T u lo' hi' mx').run P w = .ok r w) ∧ VR c z r := by
  unfold sliceV at h
  have hkk : ∀ k, (match tkind P T with | .slice => bif Nat.beq es 0 then TK.other else tkind P T | _ => tkind P T) = k → (k = .str → tkind P T = .str) ∧ (k = .slice → tkind P T = .slice ∧ es ≠ 0) := by
    intro k hk
    split at hk
    · rename_i h1
      cases hb : Nat.beq es 0 with
      | true => rw [hb] at hk; subst hk; exact ⟨(fun h => by cases h), (fun h => by cases h)⟩
      | false =>
        rw [hb] at hk
        simp only [cond] at hk
        rw [← hk]
        refine ⟨fun h => h, fun h => ⟨h, ?_⟩⟩
        rintro rfl
        simp at hb
    · rename_i h1
      rw [← hk]
      exact ⟨fun h => h, fun h => absurd h h1⟩
  split at h
  · rename_i s hk
    replace hk := (hkk _ hk).1 rfl
    cases mx' <;> simp [OR] at hm
    simp only [VR] at hx; subst hx
    have key := fun w => sliceS_ok (P := P) (w := w) (kind_str hk) (lo := lo) (hi := hi) (lo' := lo') (hi' := hi') (c := c) (z := z) (by cases lo <;> cases lo' <;> simpa [OR] using hl) (by cases hi <;> cases hi' <;> simpa [OR] using hh) h
    obtain ⟨r, h1, h2⟩ := key c.w
    refine ⟨r, fun w => ?_, h2⟩
    obtain ⟨r', h3, h4⟩ := key w
    have hz : pinB z = true := by
      unfold sliceS at h
      split at h <;> first | exact h.elim | (simp only [R.has] at h; first | (subst h; rfl) | (obtain ⟨_, rfl⟩ := h; rfl))
    rw [pinB_eq hz h2 h4]; exact h3
  · rename_i mx2 nl t e' n f hk
    obtain ⟨hk, hes0⟩ := (hkk _ hk).2 rfl
    obtain ⟨e, hT⟩ := kind_slice hk
    obtain ⟨he, hes⟩ := hes e hT hes0
    subst hes
    obtain ⟨_, he0⟩ := telem_some' he
    obtain ⟨ie, hie⟩ := info_of_size he0
    cases hb : Nat.beq (tsize P e) e' with
    | false => rw [hb] at h; exact h.elim
    | true =>
      rw [hb] at h
      obtain rfl := beq_nat hb
      dsimp only [cond] at h
      split at h
      · rename_i l h' t' q hc
        obtain ⟨hq, rfl⟩ := h
        simp only [VR] at hx
        obtain ⟨A, cap, rfl, h2, h3, h4, h5, h6⟩ := hx
        obtain ⟨m, hrun, b1, b2, b3, b4, b5, b6⟩ := bounds_w (P := P) hl hh hm h2 (fun h => h3 (by cases t <;> simp_all [unx])) (cp := n) h2 (fun C h => by cases t <;> simp [unx] at h) hc hq
        refine ⟨sliced A l h' m (tsize P e), ?_, ?_⟩
        · intro w
          rw [run_sliceAt_slice w T _ _ _ _ (slice_elem hT), run_slice_any w T A n cap (slice_elem hT), hrun, elem_eq hT]
          simp [run_sizeOf hie]
        · simp only [VR, sliced]
          refine ⟨_, _, rfl, by omega, fun e => by rw [b5 e], ?_, ?_, ?_⟩
          · intro b hb; rw [h4 b hb]; cases A <;> simp; split <;> simp
          · intro hA
            have : A = none := by cases A <;> simp at hA <;> first | rfl | (split at hA <;> simp at hA)
            have := h5 this
            omega
          · intro i hi
            obtain ⟨a, rfl, ia, el, ho, hs⟩ := h6 (l + i) (by omega)
            have hml : m ≠ l := by omega
            refine ⟨a.add (l * tsize P e), by simp [hml], by rw [add_block]; exact ia, el, ?_, ?_⟩
            · intro j x hj hx
              exact ho j x hj ((congrArg c.w.cell? (by rw [add_add, Nat.add_mul, Nat.add_assoc])).trans hx)
            · exact VRs_congr hs fun j _ => congrArg c.w.cell? (by rw [add_add, Nat.add_mul, Nat.add_assoc])
      · exact h.elim
  · rename_i mx2 nl r e' off n t hk
    obtain ⟨hk, hes0⟩ := (hkk _ hk).2 rfl
    obtain ⟨e, hT⟩ := kind_slice hk
    obtain ⟨he, hes⟩ := hes e hT hes0
    subst hes
    obtain ⟨_, he0⟩ := telem_some' he
    obtain ⟨ie, hie⟩ := info_of_size he0
    cases hb : Nat.beq (tsize P e) e' with
    | false => rw [hb] at h; exact h.elim
    | true =>
      rw [hb] at h
      obtain rfl := beq_nat hb
      dsimp only [cond] at h
      split at h
      · rename_i l h' t' q hc
        obtain ⟨hq, rfl⟩ := h
        simp only [VR] at hx
        obtain ⟨A, cap, rfl, h2, h3, h4, h5⟩ := hx
        obtain ⟨m, hrun, b1, b2, b3, b4, b5, b6⟩ := bounds_w (P := P) hl hh hm h2.1 h3 (cp := cpT t n) (by cases t <;> simp only [cpT] <;> first | exact h2.1 | (have := h2.2 _ rfl; omega)) h2.2 hc hq
        refine ⟨sliced A l h' m (tsize P e), ?_, ?_⟩
        · intro w
          rw [run_sliceAt_slice w T _ _ _ _ (slice_elem hT), run_slice_any w T A n cap (slice_elem hT), hrun, elem_eq hT]
          simp [run_sizeOf hie]
        · simp only [VR, sliced]
          refine ⟨_, _, rfl, ⟨by omega, b6⟩, fun e => by rw [b5 e], ?_, ?_⟩
          · intro b hb; rw [h4 b hb]; cases A <;> simp; split <;> simp
          · split at h5
            · obtain ⟨h5, h6⟩ := h5
              refine ⟨by omega, fun hp => ?_⟩
              have hml : m ≠ l := by omega
              rw [h6 (by omega)]
              simp [hml, Addr.add_lit, Nat.add_mul]
            · omega
            · exact h5
      · exact h.elim
  · exact h.elim
theorem loadV_w {T : Nat} {cs : List V} {off : Nat} {z : V} {g : Nat → Option Value} {b o : Nat} (H : VRs c cs g) (ho : One cs.length g) 
    (h : (loadV (ti P T) cs off).has z) : ∃ r, (∀ w : World, (∀ j x, j < cs.length → g j = some x → w.cell? ⟨b, o + j, none⟩ = some x) → (loadVar T ⟨b, o + off, none⟩).run P w = .ok r w) ∧ VR c z r := by
  unfold loadV at h
  dsimp only [ti] at h
  split at h
  · rename_i hT
    cases hb : Nat.ble (off + tsize P T) (len cs) with
    | false => rw [hb] at h; exact h.elim
    | true =>
      rw [hb] at h
      simp only [cond, R.has] at h
      subst h
      have hle : off + tsize P T ≤ cs.length := by rw [← len_eq]; exact Nat.le_of_ble_eq_true hb
      obtain ⟨i, hi⟩ := tagg_info hT
      have H2 := VRs_take (VRs_drop H off) (tsize P T)
      obtain ⟨us, h1, h2, h3⟩ := VRs_list H2
      have hul : us.length = tsize P T := by rw [h1]; simp; omega
      have hrun : ∀ w : World, (∀ j x, j < cs.length → g j = some x → w.cell? ⟨b, o + j, none⟩ = some x) → (loadCells ⟨b, o + off, none⟩ (tsize P T)).run P w = .ok us.toArray w := by
        intro w hg
        rw [← hul]
        refine run_loadCells_list w _ us fun j v hj => ?_
        rw [Addr.add_lit]
        have hjl : j < us.length := (List.getElem?_eq_some_iff.1 hj).1
        have := h2 j (by simp; omega)
        rw [this] at hj
        have := hg (off + j) v (by omega) hj
        rw [Nat.add_assoc]; exact this
      refine ⟨.agg us.toArray, fun w hg => by simp [loadVar, tagg_run hT, run_sizeOf hi, hrun w hg], ?_⟩
      simp only [VR]
      rw [dr_eq, tk_eq]
      refine ⟨us.toArray, rfl, by simp [h1], ?_, by simpa using h3⟩
      intro j x hj hx
      have := h2 j hj
      simp only [List.getElem?_toArray] at hx
      rw [this] at hx
      refine ho (off + j) x ?_ hx
      simp at hj; omega
  · rename_i hT
    cases hb : Nat.blt off (len cs) with
    | false => rw [hb] at h; exact h.elim
    | true =>
      rw [hb] at h
      simp only [cond, R.has] at h
      subst h
      have hlt : off < cs.length := by rw [← len_eq]; exact Nat.blt_eq ▸ hb
      obtain ⟨u, hu, hv⟩ := VRs_get H (nth_eq cs off hlt)
      refine ⟨u, fun w hg => ?_, hv⟩
      have hc := hg off u hlt hu
      simp [loadVar, tagg_run hT, Go.load, Sem.run, hc]
  · exact h.elim
theorem field_w {T f k t : Nat} (hf : tfield P T f = some (k, t)) {x z : V} {u : Value} (hx : VR c x u) (h : (fieldV (some (k, t)) (ti P t) x).has z) : ∃ r, (∀ w, (Instr.field T u f).run P w = .ok r w) ∧ VR c z r := by
  obtain ⟨fs, fld, hT, hfs, rfl, rfl, h0⟩ := tfield_some hf
  unfold fieldV at h
  split at h
  · rename_i k' t' cs heq
    cases heq
    simp only [VR] at hx
    obtain ⟨us, rfl, g1, g2, g3⟩ := hx
    unfold loadV at h
    dsimp only [ti] at h
    split at h
    · rename_i hag
      cases hb : Nat.ble (fld.offset + tsize P fld.type) (len cs) with
      | false => rw [hb] at h; exact h.elim
      | true =>
        rw [hb] at h
        simp only [cond, R.has] at h
        subst h
        obtain ⟨i, hi⟩ := tagg_info hag
        have hle : fld.offset + tsize P fld.type ≤ cs.length := by rw [← len_eq]; exact Nat.le_of_ble_eq_true hb
        refine ⟨.agg (us.extract fld.offset (fld.offset + tsize P fld.type)), ?_, ?_⟩
        · intro w
          simp [Instr.field, run_underlying hT, hfs, asAgg, part, tagg_run hag, run_sizeOf hi]
        · simp only [VR]
          rw [dr_eq, tk_eq]
          have hget : ∀ j, j < tsize P fld.type → (us.extract fld.offset (fld.offset + tsize P fld.type))[j]? = us[fld.offset + j]? := fun j hj => by
            rw [Array.getElem?_extract, if_pos (by rw [g1]; omega)]
          have hl : ((cs.drop fld.offset).take (tsize P fld.type)).length = tsize P fld.type := by simp; omega
          refine ⟨_, rfl, by simp [g1]; omega, ?_, ?_⟩
          · intro j y hj hy
            rw [hl] at hj
            exact g2 (fld.offset + j) y (by omega) ((hget j hj).symm.trans hy)
          · exact VRs_congr (VRs_take (VRs_drop g3 _) _) fun j hj => hget j (by omega)
    · rename_i hag
      cases hb : Nat.blt fld.offset (len cs) with
      | false => rw [hb] at h; exact h.elim
      | true =>
        rw [hb] at h
        simp only [cond, R.has] at h
        subst h
        have hlt : fld.offset < cs.length := by rw [← len_eq]; exact Nat.blt_eq ▸ hb
        obtain ⟨u, hu, hv⟩ := VRs_get g3 (nth_eq cs _ hlt)
        refine ⟨u, fun w => ?_, hv⟩
        simp only [Instr.field, Sem.run_bind, run_underlying hT, Result.andThen_ok, hfs, asAgg, Sem.run_pure]
        exact part_scalar hag us _ hu
    · exact h.elim
  · exact h.elim
theorem build_w {T : Nat} {z cs : List V} {pl : List (Nat × Nat)} (hz : tzero P T = some z) (hpl : tplaces P T = some pl) {parts : List (Nat × V)} {vals : Array (Nat × Value)} (hp : PR c parts vals.toList)
    (h : fillV (pnth pl) z parts = some cs) : ∃ u, (∀ w, (Instr.build T vals).run P w = .ok u w) ∧ VR c (.agg cs) u := by
  obtain ⟨i, v, hi, hv, rfl, h3, h4⟩ := tzero_some hz
  unfold tplaces at hpl
  split at hpl
  · rename_i fs hT
    have hpn : ∀ k, pnth pl k = pl.toArray[k]? := pnth_eq pl
    have hl : (ofVs v.cells.toList).length = v.cells.size := by rw [ofVs_eq]; simp
    obtain ⟨us', g1, g2, g3, g4, _⟩ := fill_ok hp (us := v.cells) hl.symm (fun j x hj hx => h3 x (by
      have hx' : v.cells[j]? = some x := hx
      rw [← Array.getElem?_toList] at hx'
      exact List.mem_of_getElem? hx')) (by simpa using VRs_ofVs (c := c) v.cells.toList) h
    refine ⟨.agg us', fun w => run_build w T vals us' ?_, by simp only [VR]; exact ⟨us', rfl, g2, g3, g4⟩⟩
    unfold Program.built
    simp only [hi, hT, hv, hpl]
    rw [← g1]
    congr 1
    funext k
    exact (hpn k).symm
  · cases hpl
end
section
variable {P : Program} {F : Fr} {c : Ctx} {H : Heap}
theorem Extends.cell {w w' : World} (hx : w.Extends w') {a : Addr} {x : Value} (h : w.cell? a = some x) : w'.cell? a = some x := by
  have hlt : a.block < w.heap.size := by
    unfold World.cell? at h
    split at h
    · rename_i hb
      exact (Array.getElem?_eq_some_iff.1 hb).1
    · cases h
  rw [hx.cell a hlt]; exact h
theorem load_w (hs : SR F c H) {T : Nat} {x z : V} {u : Value} (hx : VR c x u) (h : (load (ti P T) H x).has z) : ∃ r, (∀ w', c.w.Extends w' → (Instr.loadAt T u).run P w' = .ok r w') ∧ VR c z r := by
  unfold load at h
  split at h
  · rename_i r off
    simp only [VR] at hx
    split at hx
    · rename_i b m hr
      subst hx
      split at h
      · rename_i cs hb
        obtain ⟨h1, h2⟩ := hs.get hr
        rw [hb] at h2
        obtain ⟨C, el, g1, ⟨g2, g3, g4⟩, _⟩ := h2 trivial
        have := loadV_w (P := P) (b := b) (o := 0) g4 g3 h
        obtain ⟨u, hu, hv⟩ := this
        exact ⟨u, fun w' hx => by simpa [Instr.loadAt, Instr.sureAddr] using hu w' (fun j x _ hj => Extends.cell hx (by rw [Nat.zero_add, cell_row g1]; exact hj)), hv⟩
      · exact h.elim
    · exact hx.elim
  · rename_i r e i off
    simp only [VR] at hx
    split at hx
    · rename_i b m hr
      subst hx
      split at h
      · rename_i e' n f hb
        obtain ⟨h1, h2⟩ := hs.get hr
        rw [hb] at h2
        obtain ⟨C, el, g1, ⟨g2, g3, g4⟩, _⟩ := h2 trivial
        cases hbb : Nat.beq e e' with
        | false => rw [hbb] at h; exact h.elim
        | true =>
          rw [hbb] at h
          obtain rfl := beq_nat hbb
          dsimp only [cond] at h
          split at h
          · rename_i v hv
            obtain ⟨hi, rfl⟩ := h
            obtain ⟨k1, k2, k3⟩ := g4 i hi
            have := loadV_w (P := P) (T := T) (off := off) (z := z) (b := b) (o := i * e) k3 (by rw [k1]; exact k2) (by rw [hv]; rfl)
            obtain ⟨u, hu, hv⟩ := this
            exact ⟨u, fun w' hx => by simpa [Instr.loadAt, Instr.sureAddr] using hu w' (fun j x _ hj => Extends.cell hx (by rw [cell_row g1]; exact hj)), hv⟩
          · exact h.elim
      · exact h.elim
    · exact hx.elim
  · rename_i cs off
    simp only [VR] at hx
    obtain ⟨b, o, rfl, h1, h2, h3⟩ := hx
    have := loadV_w (P := P) (b := b) (o := o) (VRs.ofBare h3) h2 h
    obtain ⟨u, hu, hv⟩ := this
    exact ⟨u, fun w' hx => by simpa [Instr.loadAt, Instr.sureAddr] using hu w' (fun j x _ hj => Extends.cell hx hj), hv⟩
  · exact h.elim
end
end Go.VM
end
section
set_option linter.unusedVariables false
set_option linter.unusedSimpArgs false
set_option linter.unnecessarySimpa false
namespace Go.VM
/-- what reads only -/
def stillOp (o : Oper) : Bool :=
  match o.op with
  | .move _ | .assign _ | .pick _ _ _ | .binOp _ _ _ _ _ | .unOp _ _ _ | .extract _ _ | .nilCheck _ | .fieldAddr _ _ _ | .index _ _ _ | .indexAddr _ _ _ | .load _ _ | .slice _ _ _ _ _ | .convert _ _ _ | .field _ _ _ | .build _ _ => true
  | .call c => (match c.callee with | .builtin .len => true | _ => false)
  | _ => false
theorem bin_pin {op : BinOp} {K : TK} {x y z : V} (h : (bin op K x y).has z) : pinB z = true := by
  unfold bin at h
  have fin : ∀ {r : R}, r.has z → (∀ v, r = .ok v → pinB v = true) → (∀ q v, r = .chk q v → pinB v = true) → pinB z = true := by
    intro r h h1 h2
    cases r with
    | no => exact h.elim
    | ok v => simp only [R.has] at h; subst h; exact h1 _ rfl
    | chk q v => obtain ⟨_, rfl⟩ := h; exact h2 _ _ rfl
  refine fin h ?_ ?_
  · intro v hv
    simp only [cond_eq_ite] at hv
    repeat' split at hv
    all_goals first
      | (cases hv; rfl)
      | cases hv
  · intro q v hv
    simp only [cond_eq_ite] at hv
    repeat' split at hv
    all_goals first
      | (cases hv; rfl)
      | cases hv
theorem un_pin {op : UnOp} {x z : V} (h : (un op x).has z) : pinB z = true := by
  unfold un at h
  split at h <;> first | exact h.elim | (simp only [R.has] at h; subst h; rfl)
theorem len_pin {K : TK} {x z : V} (h : (vlen K x).has z) : pinB z = true := by
  unfold vlen at h
  split at h <;> first | exact h.elim | (simp only [R.has] at h; subst h; rfl)
theorem conv_pin {S D : TK} {x z : V} (h : (convV S D x).has z) : pinB z = true := by
  unfold convV at h
  split at h <;> first | exact h.elim | (simp only [R.has] at h; subst h; rfl)
theorem index_pin {K : TK} {x i z : V} (h : (indexS K x i).has z) : pinB z = true := by
  unfold indexS at h
  split at h <;> first | exact h.elim | (obtain ⟨_, rfl⟩ := h; rfl)
theorem pick_w {P : Program} {c : Ctx} {cv av bv z : V} {cu au bu : Value} (h : (pickV cv av bv).has z) (hc : VR c cv cu)
    (ha : cv = .bool true → VR c av au) (hb : cv = .bool false → VR c bv bu) :
    ∃ u, (∀ w, (do pure (Next.value (if ← asBool cu then au else bu)) : Sem Next).run P w = .ok (.value u) w) ∧ VR c z u := by
  have hcu : ∃ b, cv = .bool b := by
    unfold pickV at h
    split at h
    · exact ⟨_, rfl⟩
    · exact h.elim
  obtain ⟨b, rfl⟩ := hcu
  have hc' := hc
  simp only [VR] at hc'
  subst hc'
  refine ⟨if b then au else bu, fun w => by simp [asBool, Sem.run_bind], ?_⟩
  obtain ⟨u, h1, h2⟩ := pick_ok (P := P) (w := c.w) h hc ha hb
  have : u = if b then au else bu := by simpa [asBool, Sem.run_bind] using h1.symm
  rw [← this]; exact h2
section
variable {P : Program} {F : Fr} {c : Ctx} {E : Env} {H : Heap} {a : Act} {X : Nat → Bool} {k : Nat} {p : Path} {o : Oper} {K : Env → Heap → Prop}
def Stl (P : Program) (o : Oper) (k : Nat) (p : Path) (a : Act) (c : Ctx) (E : Env) (H : Heap) (K : Env → Heap → Prop) : Prop :=
  ∃ v, K (put E o.dst (k + 1) p v) H ∧ (pc p → ∃ u, (∀ w', c.w.Extends w' → (execOp a.eval o).run P w' = .ok (.value u) w') ∧ VR c v u)
theorem stl_rk {r : R} (hrun : pc p → ∀ v, r.has v → ∃ u, (∀ w', c.w.Extends w' → (execOp a.eval o).run P w' = .ok (.value u) w') ∧ VR c v u)
    (h : rk p r fun v => K (put E o.dst (k + 1) p v) H) : Stl P o k p a c E H K := by
  cases r with
  | no => exact h.elim
  | ok v => exact ⟨v, h, fun hpc => hrun hpc v rfl⟩
  | chk q v => exact ⟨v, h.2, fun hpc => hrun hpc v ⟨h.1 hpc, rfl⟩⟩
theorem stl_v {r : R} {s : Sem Value} (he : execOp a.eval o = (do pure (Next.value (← s)))) (hrun : pc p → ∀ v, r.has v → ∃ u, (∀ w, s.run P w = .ok u w) ∧ VR c v u)
    (h : rk p r fun v => K (put E o.dst (k + 1) p v) H) : Stl P o k p a c E H K := by
  refine stl_rk (fun hpc v hv => ?_) h
  obtain ⟨u, h1, h2⟩ := hrun hpc v hv
  exact ⟨u, fun w' _ => by rw [he]; exact exec_v (h1 w'), h2⟩
set_option maxHeartbeats 1000000 in
theorem xo_still (hs : St F c E H a X k) (hp : KP X k p) (hst : stillOp o = true) (h : xo P k o p E H K) : Stl P o k p a c E H K := by
  unfold xo at h
  have hev := fun hpc x => ev_ok hs.er hs.ki hp hpc x (a := a)
  have no : ∀ {q : Op}, o.op = q → (match q with
  | .move _ | .assign _ | .pick _ _ _ | .binOp _ _ _ _ _ | .unOp _ _ _ | .extract _ _ | .nilCheck _ | .fieldAddr _ _ _ | .index _ _ _ | .indexAddr _ _ _ | .load _ _ | .slice _ _ _ _ _ | .convert _ _ _ | .field _ _ _ | .build _ _ => true
  | .call c => (match c.callee with | .builtin .len => true | _ => false)
  | _ => false) = true := by
    intro q hq
    unfold stillOp at hst
    rw [hq] at hst
    exact hst
  split at h
  · rename_i x ho
    exact stl_v (r := .ok (ev E p x)) (s := pure (a.eval x)) (by simp [execOp, ho]) (fun hpc v hv => ⟨_, fun _ => rfl, by cases hv; exact hev hpc x⟩) h
  · rename_i x ho
    exact stl_v (r := .ok (ev E p x)) (s := pure (a.eval x)) (by simp [execOp, ho]) (fun hpc v hv => ⟨_, fun _ => rfl, by cases hv; exact hev hpc x⟩) h
  · rename_i cc x y ho
    refine stl_rk (fun hpc v hv => ?_) (rkv_rk h)
    obtain ⟨u, h1, h2⟩ := pick_w (P := P) (c := c) hv (hev hpc cc) (au := a.eval x) (bu := a.eval y)
      (fun hb => by obtain ⟨h1, h2⟩ := pk_ok hs hp hpc hb; exact ev_ok hs.er hs.ki h1 h2 x)
      (fun hb => by obtain ⟨h1, h2⟩ := pk_ok hs hp hpc hb; exact ev_ok hs.er hs.ki h1 h2 y)
    exact ⟨u, fun w' _ => by simpa [execOp, ho] using h1 w', h2⟩
  · rename_i op T x y yt ho
    exact stl_v (s := do eqGuard op T x y (a.eval x) (a.eval y); binOp op T (a.eval x) (a.eval y)) (by simp [execOp, ho]) (fun hpc v hv => pin_w (bin_pin hv) fun w => bin_ok (hev hpc x) (hev hpc y) hv) (rkv_rk h)
  · rename_i op T x ho
    exact stl_v (s := Op.unary op (a.eval x)) (by simp [execOp, ho]) (fun hpc v hv => pin_w (un_pin hv) fun w => un_ok (hev hpc x) hv) (rkv_rk h)
  · rename_i x i ho
    exact stl_v (s := Instr.extract (a.eval x) i) (by simp [execOp, ho]) (fun hpc v hv => extract_w (hev hpc x) hv) h
  · -- nilCheck
    rename_i x ho
    have hrun : ∀ A, a.eval x = .pointer (some A) → ∀ w', c.w.Extends w' → (execOp a.eval o).run P w' = .ok (.value (.pointer (some A))) w' := fun A hA w' _ => by simp [execOp, ho, hA]
    split at h
    · rename_i r off hv
      refine stl_rk (r := .ok (.ptr r off)) (fun hpc v hv' => ?_) h
      cases hv'
      have hx := hev hpc x
      rw [hv] at hx
      have hx' := hx
      simp only [VR] at hx'
      split at hx'
      · exact ⟨_, hrun _ hx', by rw [← hx']; exact hx⟩
      · exact hx'.elim
    · rename_i r e i off hv
      refine stl_rk (r := .ok (.eptr r e i off)) (fun hpc v hv' => ?_) h
      cases hv'
      have hx := hev hpc x
      rw [hv] at hx
      have hx' := hx
      simp only [VR] at hx'
      split at hx'
      · exact ⟨_, hrun _ hx', by rw [← hx']; exact hx⟩
      · exact hx'.elim
    · rename_i cs off hv
      refine stl_rk (r := .ok (.iptr cs off)) (fun hpc v hv' => ?_) h
      cases hv'
      have hx := hev hpc x
      rw [hv] at hx
      have hx' := hx
      simp only [VR] at hx'
      obtain ⟨b, o', hx', _⟩ := hx'
      exact ⟨_, hrun _ hx', by rw [← hx']; exact hx⟩
    · exact h.elim
  · rename_i T x f ho
    exact stl_v (s := Instr.fieldAt T (a.eval x) f) (by simp [execOp, ho]) (fun hpc v hv => fieldAddr_w (hev hpc x) hv) h
  · rename_i T x i ho
    exact stl_v (s := Instr.index T (a.eval x) (a.eval i)) (by simp [execOp, ho]) (fun hpc v hv => pin_w (index_pin hv) fun w => indexS_ok (hev hpc x) (hev hpc i) hv) (rkv_rk h)
  · rename_i T x i ho
    split at h
    · rename_i e hT
      exact stl_v (s := Instr.indexAt T (a.eval x) (a.eval i)) (by simp [execOp, ho]) (fun hpc v hv => indexAddr_w hT (hev hpc x) (hev hpc i) hv) h
    · exact h.elim
  · rename_i T x ho
    refine stl_rk (fun hpc v hv => ?_) h
    obtain ⟨u, h1, h2⟩ := load_w (P := P) hs.sr (hev hpc x) hv
    exact ⟨u, fun w' hw => by rw [show execOp a.eval o = (do pure (Next.value (← Instr.loadAt T (a.eval x)))) from by simp [execOp, ho]]; exact exec_v (h1 w' hw), h2⟩
  · rename_i T x lo hi mx ho
    exact stl_v (s := Instr.sliceAt T (a.eval x) (lo.map a.eval) (hi.map a.eval) (mx.map a.eval)) (by simp [execOp, ho])
      (fun hpc v hv => by
        refine sliceV_w (hev hpc x) (evo_ok hs hp hpc lo) (evo_ok hs hp hpc hi) (evo_ok hs hp hpc mx) (fun e' he' h0 => ?_) hv
        unfold tesize at h0 ⊢
        cases hte : telem P T with
        | none => rw [hte] at h0; exact absurd rfl h0
        | some e =>
          have := telem_some hte
          rw [this] at he'
          cases he'
          exact ⟨rfl, rfl⟩) h
  · rename_i S D x ho
    exact stl_v (s := convert S D (a.eval x)) (by simp [execOp, ho]) (fun hpc v hv => pin_w (conv_pin hv) fun w => conv_ok (hev hpc x) hv) (rkv_rk h)
  · rename_i T x f ho
    split at h
    · rename_i k' t hf
      exact stl_v (s := Instr.field T (a.eval x) f) (by simp [execOp, ho]) (fun hpc v hv => field_w hf (hev hpc x) hv) h
    · exact h.elim
  · rename_i f first caps ho; cases no ho
  · rename_i T ho; cases no ho
  · rename_i T x ho; cases no ho
  · rename_i T x y ho; cases no ho
  · rename_i T n parts ho; cases no ho
  · rename_i T parts ho
    split at h
    · rename_i z pl hz hpl
      split at h
      · rename_i cs hf
        refine stl_rk (r := .ok (.agg cs)) (fun hpc v hv => ?_) h
        cases hv
        obtain ⟨u, h1, h2⟩ := build_w (P := P) (c := c) hz hpl (vals := parts.map fun (i, x) => (i, a.eval x)) (by rw [Array.toList_map]; exact evp_ok hs hp hpc _) hf
        exact ⟨u, fun w' _ => by rw [show execOp a.eval o = (do pure (Next.value (← Instr.build T (parts.map fun (i, x) => (i, a.eval x))))) from by simp [execOp, ho]]; exact exec_v (h1 w'), h2⟩
      · exact h.elim
    · exact h.elim
  · rename_i cl ho
    have hno := no ho
    dsimp only at hno
    split at h
    · rename_i b hb
      rw [hb] at hno
      unfold xb at h
      split at h
      · rename_i t x hts hxs
        obtain ⟨y, hy, rfl⟩ := evs_two hxs
        refine stl_rk (fun hpc v hv => ?_) h
        obtain ⟨u, h1, h2⟩ := pin_w (c := c) (len_pin hv) fun w => len_ok (P := P) (w := w) (ty := o.type) (hev hpc y) hv
        refine ⟨u, fun w' _ => ?_, h2⟩
        have ea : cl.args = #[y] := by apply Array.ext'; simpa using hy
        have et : cl.argTypes = #[t] := by apply Array.ext'; simpa using hts
        simp [execOp, ho, resolve, hb, invoke, builtin, ea, et, h1]
      all_goals first | cases hno | exact h.elim
    · rename_i f hf
      rw [hf] at hno
      cases hno
    · exact h.elim
  · exact h.elim
end
end Go.VM
end
section
set_option linter.unusedVariables false
set_option linter.unusedSimpArgs false
set_option linter.unnecessarySimpa false
namespace Go.VM
section
variable {P : Program} {F : Fr} {c : Ctx} {H : Heap}
theorem ext_of_FR {c : Ctx} {nt : Nat} {w' : World} (h : FR ⟨c, fun _ => False, nt⟩ w') : c.w.Extends w' := by
  have hb : ∀ i, i < c.w.heap.size → w'.heap[i]? = c.w.heap[i]? := fun i hi => h.block i hi (fun h => h)
  exact ⟨h.os, h.tape, h.output, h.size, fun a ha => by simp only [World.cell?, hb _ ha], fun a ha => by simp only [World.frozen?, hb _ ha], hb⟩
theorem SR.deadAll (hs : SR F c H) : SR ⟨c, fun _ => False, 0⟩ c (H.map fun _ => .dead) := by
  have key : ∀ (r : Nat) (x : Blk), (H.map fun _ => Blk.dead)[r]? = some x → x = .dead := fun r x h => by
    simp only [List.getElem?_map, Option.map_eq_some_iff] at h
    obtain ⟨_, _, rfl⟩ := h
    rfl
  refine ⟨⟨rfl, rfl, rfl, Nat.le_refl _, fun _ _ _ => rfl⟩, Le.refl _, by simp [hs.len], fun r b l hr hl => ?_, fun r r' x x' b m m' hr hr' hx hx' hl hl' => ?_, hs.imm, fun b h => .inl h⟩
  · obtain rfl := key r b hr
    cases l with
    | none => trivial
    | some l => exact fun h => h.elim
  · obtain rfl := key r x hr
    exact hx.elim
/-- a call that leaves what was there -/
def cwE (P : Program) (f : Nat) (args : List V) (H : Heap) (K : V → Heap → Prop) : Prop :=
  fbody P f = true ∧ ∀ (F : Fr) (c : Ctx), SR F c H → ∀ us : Array Value, us.size = args.length → (VRs c args fun j => us[j]?) →
    Calls P f us c.w fun e w' => ∃ c' u v H', e = .returned u ∧ c'.w = w' ∧ Le c c' ∧ SR F c' H' ∧ VR c' v u ∧ (c.w.Extends c'.w ∧ K v H')
/-- likewise under a guard -/
def cgE (P : Program) (f : Nat) (args : List V) (H : Heap) (p : Path) (K : V → Prop) : Prop :=
  ∃ v, (pc p → cwE P f args H fun v' H' => v' = v ∧ H' = H) ∧ K v
@[congr] theorem cwE_congr {P : Program} {f : Nat} {args args' : List V} {H H' : Heap} {K : V → Heap → Prop} (h1 : args = args') (h2 : H = H') : cwE P f args H K = cwE P f args' H' K := by rw [h1, h2]
@[congr] theorem cgE_congr {P : Program} {f : Nat} {args args' : List V} {H H' : Heap} {p : Path} {K : V → Prop} (h1 : args = args') (h2 : H = H') : cgE P f args H p K = cgE P f args' H' p K := by rw [h1, h2]
theorem cwE_meets {f : Nat} {args : List V} {v : V} {H1 : Heap} (h : Meets P f args v H1) (hnr : ltrs 0 args = true) {K : V → Heap → Prop} (hk : K (shV (hlen H) v) (happ H (shH (hlen H) H1))) : cwE P f args H K := by
  refine ⟨h.1, fun F c hs us hsz hus => ?_⟩
  have hus' : VRs ⟨c.w, c.I, []⟩ args fun j => us[j]? := by
    have := VRs_cut args _ hnr hus
    simpa [Ctx.cut] using this
  refine Calls.mono (h.2 c.w c.I hs.imm us hsz hus') ?_
  rintro e w' ⟨c', u, rfl, rfl, h1, h2⟩
  have hx : c.w.Extends c'.w := ext_of_FR (c := ⟨c.w, c.I, []⟩) h1.fr
  obtain ⟨k1, k2⟩ := hs.call h1
  rw [hlen_eq, happ_eq] at hk
  have key := VR_sh (c := c') (c' := ⟨c'.w, c'.I, c.locs ++ c'.locs⟩) (n := H.length) rfl (fun _ h => h) (fun r l hr => by
    show (c.locs ++ c'.locs)[H.length + r]? = _
    rw [List.getElem?_append_right (by rw [hs.len]; omega), hs.len]
    simpa using hr) v u h2
  exact ⟨⟨c'.w, c'.I, c.locs ++ c'.locs⟩, u, _, _, rfl, rfl, k2, k1, key, hx, hk⟩
theorem cwE_view (d : Nat) {f : Nat} {args : List V} {v : V} {H1 : Heap} (h : Meets P f (frWs true (frD [] H d) [] H args) v H1) (hv : flat v = true) (hok : okWs (okD [] H d) [] H args) {K : V → Heap → Prop} (hk : K v H) : cwE P f args H K := by
  refine ⟨h.1, fun F c hs us hsz hus => ?_⟩
  have himm : ∀ b, FzI c [] H b → b < c.w.heap.size := by
    rintro b (h | ⟨r, cap, x, h1, h2, h3, h4⟩)
    · exact hs.imm b h
    · obtain ⟨C, el, k1, _⟩ := hs.blk r x _ h2 h4 h3
      exact (Array.getElem?_eq_some_iff.1 k1).1
  have hus' : VRs ⟨c.w, FzI c [] H, []⟩ (frWs true (frD [] H d) [] H args) fun j => us[j]? :=
    frWs_ok (top := true) (σ := []) hs (fun _ r i h => by cases h) (fun _ h => h) (frD_ok hs (fun _ h => h) d) (frD_length [] H d) args _ hok hus
  refine Calls.mono (h.2 c.w (FzI c [] H) himm us (by rw [frWs_length]; exact hsz) hus') ?_
  rintro e w' ⟨c', u, rfl, rfl, h1, h2⟩
  have hfr : FR ⟨c, fun _ => False, 0⟩ c'.w := ⟨h1.fr.os, h1.fr.tape, h1.fr.output, h1.fr.size, h1.fr.block⟩
  obtain ⟨k1, k2⟩ := hs.after hfr
  exact ⟨{ c with w := c'.w }, u, v, H, rfl, rfl, k2, k1, VR_flat v u hv h2, ext_of_FR hfr, hk⟩
theorem copy_caseE {t ty e : Nat} (hT : telem P t = some e) {z : List V} (hz : tzero P e = some z) (hb : tbytes P e ≠ 0) (hs : SR F c H)
    {A B : Option Addr} {n m cap : Nat} {f g : Nat → List V} {olds news : List Value} (ho : Rd c (tsize P e) n f A olds) (hn : Rd c (tsize P e) m g B news)
    (hnm : n = 0 ∨ 0 < m) (hfit : (n + m) * tbytes P e ≤ 140737488355328) {nl : Option Bool} (hnl : Nlr nl A) (hA : A = none → n = 0) :
    ∃ c' u, (Builtin.append_ #[t, t] ty #[.slice A n n, .slice B m cap]).run P c.w = .ok u c'.w ∧ SR F c' (H ++ [.arr (tsize P e) (n + m) (join n f g)]) ∧ Le c c' ∧
      VR c' (.own (napp nl m) H.length (tsize P e) 0 (n + m) .loose) u ∧ c.w.Extends c'.w := by
  obtain ⟨c', u, k1, k2, k3, k4⟩ := copy_case (P := P) (ty := ty) (cap := cap) hT hz hb hs ho hn hnm hfit hnl hA
  obtain ⟨c2, u2, g1, g2, g3, g4⟩ := copy_case (P := P) (ty := ty) (cap := cap) hT hz hb hs.deadAll ho hn hnm hfit hnl hA
  refine ⟨c', u, k1, k2, k3, k4, ?_⟩
  rw [k1] at g1
  simp only [Result.ok.injEq] at g1
  rw [g1.2]
  exact ext_of_FR g2.fr
/-- a slice that an append copies -/
def stayB : V → Bool
  | .own _ _ _ _ _ .loose => false
  | .own _ _ _ _ _ (.exact _) => false
  | _ => true
set_option maxHeartbeats 1000000 in
theorem appendV_okE {t ty e : Nat} (hT : telem P t = some e) {z : List V} (hz : tzero P e = some z) (hb : tbytes P e ≠ 0) (hs : SR F c H)
    {s x : V} {u v : Value} (hsv : VR c s u) (hx : VR c x v) (hst : stayB s = true) {K : V → Heap → Prop} (h : appendV (tsize P e) (tbytes P e) H s x K) :
    ∃ c' H' r y, (Builtin.append_ #[t, t] ty #[u, v]).run P c.w = .ok r c'.w ∧ SR F c' H' ∧ Le c c' ∧ VR c' y r ∧ (c.w.Extends c'.w ∧ K y H') := by
  obtain ⟨hT', he⟩ := telem_some' hT
  obtain ⟨i, hi⟩ := info_of_size he
  have hsz : tsize P e = i.size := by simp [tsize, hi]
  unfold appendV at h
  split at h
  case h_2 => exact h.elim
  rename_i q m g hv
  split at h
  · -- nil
    obtain ⟨⟨hq, hfit⟩, hK⟩ := h
    obtain ⟨B, cap, news, rfl, hmc, hn⟩ := view_ok hs he hx hv hq
    simp only [VR] at hsv
    subst hsv
    obtain ⟨olds, ho⟩ := Rd.of (c := c) (m := 0) (g := fun _ => []) (A := none) he (fun i hi => by omega)
    obtain ⟨c', r, k1, k2, k3, k4, k5⟩ := copy_caseE (P := P) (ty := ty) (cap := cap) hT hz hb hs ho hn (.inl rfl) (by rw [Nat.zero_add]; exact hfit) (nl := some true) (fun b hb => by cases hb; simp) (fun _ => rfl)
    rw [join_zero, Nat.zero_add] at k2
    rw [Nat.zero_add] at k4
    exact ⟨c', _, r, _, k1, k2, k3, k4, k5, by rw [hlen_eq, hadd_eq] at hK; exact hK⟩
  · rename_i nl b e' n f
    cases hbb : Nat.beq (tsize P e) e' with
    | false => rw [hbb] at h; exact h.elim
    | true =>
      rw [hbb] at h
      obtain rfl := beq_nat hbb
      obtain ⟨⟨hq, rfl, hnm, hfit⟩, hK⟩ := h
      obtain ⟨B, cap, news, rfl, hmc, hn⟩ := view_ok hs he hx hv hq
      have hself : view (tsize P e) H (.lst nl (.cut true) (tsize P e) n f) = some (True, n, f) := by simp [view]
      obtain ⟨A, scap, olds, hu, hsc, ho⟩ := view_ok hs he hsv hself trivial
      subst hu
      simp only [VR] at hsv
      obtain ⟨A', cap', e1, e2, e3, e4, e5, _⟩ := hsv
      simp only [Value.slice.injEq] at e1
      obtain ⟨rfl, -, rfl⟩ := e1
      obtain rfl : scap = n := e3 trivial
      obtain ⟨c', r, k1, k2, k3, k4, k5⟩ := copy_caseE (P := P) (ty := ty) (cap := cap) hT hz hb hs ho hn hnm hfit e4 (fun h => e5 h)
      exact ⟨c', _, r, _, k1, k2, k3, k4, k5, by rw [hlen_eq, hadd_eq] at hK; exact hK⟩
  · rename_i nl r e' off n b
    split at h
    · rename_i q' n'' f hself
      obtain ⟨⟨hq, hq', rfl, hnm, hfit⟩, hK⟩ := h
      have hn' : n'' = n := by
        unfold view at hself
        dsimp only at hself
        split at hself
        · rename_i e'' m' f' hb'
          cases hbb : band (Nat.beq (tsize P e) e') (Nat.beq (tsize P e) e'') with
          | false => rw [hbb] at hself; cases hself
          | true => rw [hbb] at hself; simp only [cond, Option.some.injEq, Prod.mk.injEq] at hself; exact hself.2.1.symm
        · cases hself
      subst hn'
      obtain ⟨B, cap, news, rfl, hmc, hn⟩ := view_ok hs he hx hv hq
      obtain ⟨A, scap, olds, hu, hsc, ho⟩ := view_ok hs he hsv hself hq'
      subst hu
      simp only [VR] at hsv
      obtain ⟨A', cap', e1, e2, e3, e4, e5⟩ := hsv
      simp only [Value.slice.injEq] at e1
      obtain ⟨rfl, -, rfl⟩ := e1
      obtain rfl : scap = n'' := e3 trivial
      obtain ⟨c', r', k1, k2, k3, k4, k5⟩ := copy_caseE (P := P) (ty := ty) (cap := cap) hT hz hb hs ho hn hnm hfit e4 (fun hA => by
        subst hA
        split at e5
        · obtain ⟨_, e6⟩ := e5
          rcases Nat.eq_zero_or_pos scap with h0 | h0
          · exact h0
          · have := e6 h0; cases this
        · exact e5
        · exact e5.elim)
      exact ⟨c', _, r', _, k1, k2, k3, k4, k5, by rw [hlen_eq, hadd_eq] at hK; exact hK⟩
    · exact h.elim
  · cases hst
  · cases hst
  · exact h.elim
theorem buildSliceV_okE (hs : SR F c H) {T e n : Nat} (hT : telem P T = some e) {parts : List (Nat × V)} {vals : Array (Nat × Value)} (hp : PR c parts vals.toList) {K : V → Heap → Prop}
    (h : buildSliceV (tsize P e) (tzero P e) n parts H K) : ∃ c' H' r y, (Instr.buildSlice T n vals).run P c.w = .ok r c'.w ∧ SR F c' H' ∧ Le c c' ∧ VR c' y r ∧ (c.w.Extends c'.w ∧ K y H') := by
  obtain ⟨c', H', r, y, k1, k2, k3, k4, k5⟩ := buildSliceV_ok hs hT hp h
  have h2 : buildSliceV (tsize P e) (tzero P e) n parts (H.map fun _ => .dead) fun _ _ => True := by
    unfold buildSliceV at h ⊢
    split at h
    · split at h
      · rename_i cs hcs
        simp only [hcs]
        cases hb : Nat.ble (n * tsize P e) 16777216 with
        | false => rw [hb] at h; exact h.elim
        | true => trivial
      · exact h.elim
    · exact h.elim
  obtain ⟨c2, H2, r2, y2, g1, g2, _⟩ := buildSliceV_ok hs.deadAll hT hp h2
  refine ⟨c', H', r, y, k1, k2, k3, k4, ?_, k5⟩
  rw [k1] at g1
  simp only [Result.ok.injEq] at g1
  rw [g1.2]
  exact ext_of_FR g2.fr
end
end Go.VM
end
section
set_option linter.unusedVariables false
set_option linter.unusedSimpArgs false
set_option linter.unnecessarySimpa false
namespace Go.VM
/-- a plan: what reads only first (`first`); else whichever may come up (`one`, or `alt`: this one, or what the rest says) -/
inductive Plan where
  | done
  | first (i : Nat) (s : Plan)
  | one (i : Nat) (s : Plan)
  | alt (i : Nat) (s : Plan) (t : Plan)
/-- the guards that an operation stands under, whatever came up ahead of it -/
def gpd (ops : List Oper) (E : Env) (g : Option (Nat × Bool)) : Option Path :=
  match g with
  | none => some []
  | some (i, b) => (match onth ops i with
    | some o => (match o.dst with
      | some t => (match get E t with
        | (s + 1, q, .bool x) => some (padd q (s, b, x))
        | _ => none)
      | none => none)
    | none => none)
/-- an operation that leaves all that was there -/
def xe (P : Program) (k : Nat) (o : Oper) (p : Path) (E : Env) (H : Heap) (K : Env → Heap → Prop) : Prop :=
  match o.op with
  | .alloc T => (match p, tzero P T with
    | [], some z => K (put E o.dst (k + 1) p (.ptr (hlen H) 0)) (hadd H (.box z))
    | _, _ => False)
  | .box T x => (match p, boxV (ti P T) (ev E p x) with
    | [], some cs => K (put E o.dst (k + 1) p (.ptr (hlen H) 0)) (hadd H (.box cs))
    | _, _ => False)
  | .buildSlice T n parts => (match p, telem P T with
    | [], some e => buildSliceV (tsize P e) (tzero P e) n (evp E p parts.toList) H fun v H => K (put E o.dst (k + 1) p v) H
    | _, _ => False)
  | .call c => (match c.callee with
    | .builtin .append => (match c.argTypes.toList, evs E p c.args.toList, p with
      | [t, u], [s, x], [] => bif band (stayB s) (Nat.beq t u) then (match telem P t with
        | some e => (match tzero P e with
          | some _ => bif Nat.beq (tbytes P e) 0 then False else appendV (tsize P e) (tbytes P e) H s x fun v H => K (put E o.dst (k + 1) p v) H
          | none => False)
        | none => False) else False
      | _, _, _ => False)
    | .value f => (match ev E p f with
      | .fn g first caps => (match p with
        | [] => cwE P g (app first (app (evs E p c.args.toList) caps)) H (kp K E o.dst k [])
        | y :: q => cgE P g (app first (app (evs E (y :: q) c.args.toList) caps)) H (y :: q) (kq K E o.dst k (y :: q) H))
      | _ => False)
    | _ => False)
  | _ => False
def mem (i : Nat) : List Nat → Bool
  | [] => false
  | j :: l => bor (Nat.beq i j) (mem i l)
where bor : Bool → Bool → Bool
  | true, _ => true
  | false, b => b
def xd (P : Program) (ops : List Oper) (late : List Nat) : Plan → Nat → (Env → Heap → Prop) → Env → Heap → Prop
  | .done, _, K, E, H => K E H
  | .first i s, k, K, E, H => (match onth ops i with
    | some o => (match gpd ops E o.guard with
      | some p => xo P k o p E H (xd P ops late s (k + 1) K)
      | none => False)
    | none => False)
  | .one i s, k, K, E, H => (match onth ops i with
    | some o => (match gpd ops E o.guard with
      | some p => (match mem i late with
        | true => xo P k o p E H (xd P ops late s (k + 1) K)
        | false => xe P k o p E H (xd P ops late s (k + 1) K))
      | none => False)
    | none => False)
  | .alt i s t, k, K, E, H => (match onth ops i with
    | some o => (match gpd ops E o.guard with
      | some p => (match mem i late with
        | true => xo P k o p E H (xd P ops late s (k + 1) K)
        | false => xe P k o p E H (xd P ops late s (k + 1) K))
      | none => False)
    | none => False) ∧ xd P ops late t k K E H
def Plan.isFirst : Plan → Bool
  | .first _ _ => true
  | _ => false
/-- an operation that asks only for temporaries -/
def tmpOp (o : Oper) : Bool :=
  match o.op with
  | .move _ | .assign _ | .extract _ _ => true
  | _ => false
theorem tmp_world {P : Program} {o : Oper} {a : Act} {u : Value} {w : World} (h : tmpOp o = true) (hr : (execOp a.eval o).run P w = .ok (.value u) w) (w' : World) : (execOp a.eval o).run P w' = .ok (.value u) w' := by
  unfold tmpOp at h
  split at h
  · rename_i x ho
    simp [execOp, ho] at hr ⊢; exact hr
  · rename_i x ho
    simp [execOp, ho] at hr ⊢; exact hr
  · rename_i x i ho
    simp only [execOp, ho] at hr ⊢
    generalize a.eval x = v at hr ⊢
    unfold Instr.extract at hr ⊢
    cases v with
    | tuple vs =>
      dsimp only at hr ⊢
      cases hv : vs[i]? with
      | none => rw [hv] at hr; simp at hr
      | some y => rw [hv] at hr; simpa using hr
    | _ => simp at hr
  · cases h
/-- the plan goes through all orders -/
def planB (md : Region.Mode) (ops : Array Oper) (late : List Nat) : Plan → List Nat → Nat → Array Bool → Bool
  | .done, rs, _, L => rs.isEmpty && (Region.ready md ops L).isEmpty
  | .first i s, rs, n + 1, L => (match ops[i]? with
    | some o => stillOp o && Region.free md ops L i && (Region.ready md ops L).contains i && ((late.all fun j => L.getD j false || anc md ops ops.size i j) || (tmpOp o && !mem i late)) && rs == Region.ready md ops L &&
      planB md ops late s (Region.ready md ops (L.setIfInBounds i true)) n (L.setIfInBounds i true)
    | none => false)
  | .one i s, rs, n + 1, L => rs == [i] && planB md ops late s (Region.ready md ops (L.setIfInBounds i true)) n (L.setIfInBounds i true)
  | .alt i s t, rs, n + 1, L => (match rs with
    | j :: k :: rs => i == j && planB md ops late s (Region.ready md ops (L.setIfInBounds i true)) n (L.setIfInBounds i true) && (!Plan.isFirst t && planB md ops late t (k :: rs) (n + 1) L)
    | _ => false)
  | _, _, 0, _ => false
section
variable {P : Program} {F : Fr} {c : Ctx} {E : Env} {H : Heap} {a : Act} {X : Nat → Bool} {k : Nat} {p : Path} {o : Oper} {K : Env → Heap → Prop} {Q : Exit → Act → World → Prop}
theorem gpd_ok {ops : List Oper} (hE : ER c E a) (hK : KI X k E) {g : Option (Nat × Bool)} (hg : o.guard = g) (h : gpd ops E g = some p) : KP X k p ∧ (Region.wanted o (yielded ops.toArray a.tmps) = true ↔ pc p) := by
  cases g with
  | none =>
    simp only [gpd, Option.some.injEq] at h
    subst h
    exact ⟨fun i b x h => by simp at h, by simp [Region.wanted, hg, pc]⟩
  | some ib =>
    obtain ⟨i, b⟩ := ib
    simp only [gpd] at h
    split at h
    · rename_i oi hoi
      split at h
      · rename_i t ht
        split at h
        · rename_i s q x hget
          simp only [Option.some.injEq] at h
          subst h
          have h1 := hE t
          have h2 := hK t
          rw [hget] at h1 h2
          dsimp only at h1 h2
          obtain ⟨h3, h4⟩ := h2.2 s rfl
          rw [padd_eq]
          refine ⟨fun i' b' x' hm => ?_, ?_⟩
          · rcases List.mem_append.1 hm with hm | hm
            · exact h2.1 i' b' x' hm
            · simp only [List.mem_singleton, Prod.mk.injEq] at hm
              obtain ⟨rfl, rfl, rfl⟩ := hm
              exact ⟨h4 _ rfl, h3⟩
          · have hpc : pc (q ++ [(s, b, x)]) ↔ pc q ∧ x = b := by
              rw [pc_iff, pc_iff]
              constructor
              · intro h
                exact ⟨fun i' b' x' hm => h i' b' x' (List.mem_append.2 (.inl hm)), h s b x (by simp)⟩
              · rintro ⟨h5, h6⟩ i' b' x' hm
                rcases List.mem_append.1 hm with hm | hm
                · exact h5 i' b' x' hm
                · simp only [List.mem_singleton, Prod.mk.injEq] at hm
                  obtain ⟨rfl, rfl, rfl⟩ := hm
                  exact h6
            rw [hpc]
            have hoi' : ops.toArray[i]? = some oi := by rw [List.getElem?_toArray, ← onth_eq]; exact hoi
            have hy : yielded ops.toArray a.tmps i = match a.tmps[t]? with | some (.bool b) => some b | _ => none := by
              unfold yielded
              rw [hoi']
              show (match (oi.dst).bind (a.tmps[·]?) with | some (.bool b) => some b | _ => none) = _
              rw [ht]
              rfl
            have hw : Region.wanted o (yielded ops.toArray a.tmps) = (yielded ops.toArray a.tmps i == some b) := by simp [Region.wanted, hg]
            rw [hw, hy]
            by_cases hq : pc q
            · have := h1.1 hq
              simp only [VR] at this
              have ht2 : a.tmps[t]? = some (.bool x) := by
                rw [tmpOf, Array.getD_eq_getD_getElem?] at this
                cases hh : a.tmps[t]? with
                | none => rw [hh] at this; cases this
                | some v => rw [hh] at this; simp at this; rw [this]
              simp [ht2, hq]
            · have := h1.2 hq
              have ht2 : ∀ y, a.tmps[t]? ≠ some (.bool y) := by
                intro y hy'
                rw [tmpOf, Array.getD_eq_getD_getElem?, hy'] at this
                cases this
              constructor
              · intro hh
                exfalso
                split at hh
                · rename_i y hy'; exact ht2 y hy'
                · cases hh
              · rintro ⟨h5, _⟩; exact absurd h5 hq
        · cases h
      · cases h
    · cases h
/-- what an operation that leaves all that was there comes to -/
def OpOkE (P : Program) (F : Fr) (Q : Exit → Act → World → Prop) (o : Oper) (k : Nat) (p : Path) (a : Act) (c : Ctx) (K : Env → Heap → Prop) : Prop :=
  (pc p → o.wp P a c.w (fun a' w' => c.w.Extends w' ∧ Nx F (k + 1) K a' w') Q) ∧ (¬ pc p → Nx F (k + 1) K (a.put o.dst undef) c.w)
set_option maxHeartbeats 4000000 in
theorem xe_sound (hs : St F c E H a X k) (hd : ∀ x, o.dst = some x → x < F.nt) (hp : KP X k p) (h : xe P k o p E H K) : OpOkE P F Q o k p a c K := by
  unfold xe at h
  have hev := fun hpc x => ev_ok hs.er hs.ki hp hpc x (a := a)
  split at h
  · rename_i T ho
    split at h
    · rename_i z hz
      obtain ⟨c', k1, k2, k3, k4⟩ := alloc_ok (P := P) hs.sr hz
      obtain ⟨c2, g1, g2, _, _⟩ := alloc_ok (P := P) hs.sr.deadAll hz
      rw [hlen_eq, hadd_eq] at h
      rw [k1] at g1
      simp only [Result.ok.injEq] at g1
      exact ⟨fun _ => op_value (s := Instr.alloc T true (.tuple #[])) (by simp [execOp, ho]) k1 ⟨by rw [g1.2]; exact ext_of_FR g2.fr, Nx_new hs hd k2 k3 k4 h⟩, fun hn => absurd trivial hn⟩
    · exact h.elim
  · rename_i T x ho
    split at h
    · rename_i cs hb
      obtain ⟨c', k1, k2, k3, k4⟩ := box_ok (P := P) hs.sr (hev trivial x) hb
      obtain ⟨c2, g1, g2, _, _⟩ := box_ok (P := P) hs.sr.deadAll (hev trivial x) hb
      rw [hlen_eq, hadd_eq] at h
      rw [k1] at g1
      simp only [Result.ok.injEq] at g1
      exact ⟨fun _ => op_value (s := Instr.box T (a.eval x)) (by simp [execOp, ho]) k1 ⟨by rw [g1.2]; exact ext_of_FR g2.fr, Nx_new hs hd k2 k3 k4 h⟩, fun hn => absurd trivial hn⟩
    · exact h.elim
  · rename_i T n parts ho
    split at h
    · rename_i e hT
      obtain ⟨c', H', r, y, k1, k2, k3, k4, k5, k6⟩ := buildSliceV_okE (P := P) hs.sr hT (n := n) (vals := parts.map fun (i, x) => (i, a.eval x)) (by rw [Array.toList_map]; exact evp_ok hs hp trivial _) h
      exact ⟨fun _ => op_value (s := Instr.buildSlice T n (parts.map fun (i, x) => (i, a.eval x))) (by simp [execOp, ho]) k1 ⟨k5, Nx_new hs hd k2 k3 k4 k6⟩, fun hn => absurd trivial hn⟩
    · exact h.elim
  · rename_i cl ho
    split at h
    · rename_i hb
      split at h
      · rename_i t t' x1 x2 hts hxs
        obtain ⟨y1, y2, hy, rfl, rfl⟩ := evs_pair hxs
        cases hbb : band (stayB (ev E [] y1)) (Nat.beq t t') with
        | false => rw [hbb] at h; exact h.elim
        | true =>
          rw [hbb] at h
          obtain ⟨hst, hbt⟩ := band_true hbb
          obtain rfl := beq_nat hbt
          dsimp only [cond] at h
          split at h
          · rename_i e hT
            split at h
            · rename_i z hz
              cases hb0 : Nat.beq (tbytes P e) 0 with
              | true => rw [hb0] at h; exact h.elim
              | false =>
                rw [hb0] at h
                dsimp only [cond] at h
                have hb1 : tbytes P e ≠ 0 := by intro h0; rw [h0] at hb0; simp at hb0
                obtain ⟨c', H', r, y, k1, k2, k3, k4, k5, k6⟩ := appendV_okE (P := P) (ty := o.type) hT hz hb1 hs.sr (hev trivial y1) (hev trivial y2) hst h
                have ea : cl.args = #[y1, y2] := by apply Array.ext'; simpa using hy
                have et : cl.argTypes = #[t, t] := by apply Array.ext'; simpa using hts
                refine ⟨fun _ => ?_, fun hn => absurd trivial hn⟩
                have hrun : (execOp a.eval o).run P c.w = .ok (.value r) c'.w := by
                  simp [execOp, ho, resolve, hb, invoke, builtin, ea, et, k1]
                simp only [Oper.wp, hrun, Oper.upon]
                exact ⟨k5, Nx_new hs hd k2 k3 k4 k6⟩
            · exact h.elim
          · exact h.elim
      · exact h.elim
    · rename_i f hf
      split at h
      · rename_i g first caps hv
        have call : ∀ {KK : V → Heap → Prop} {n : Act → World → Prop}, pc p → cwE P g (app first (app (evs E p cl.args.toList) caps)) H KK →
            (∀ c' H' v u, SR F c' H' → Le c c' → VR c' v u → c.w.Extends c'.w → KK v H' → n (a.put o.dst u) c'.w) → o.wp P a c.w n Q := by
          intro KK n hpc hc hn
          have hx := hev hpc f
          rw [hv] at hx
          simp only [VR] at hx
          obtain ⟨us, ws, e1, e2, e3, e4, e5⟩ := hx
          have hargs := evs_ok hs.er hs.ki hp hpc cl.args
          have hlen : (cl.args.map a.eval).size = (evs E p cl.args.toList).length := by rw [evs_eq]; simp
          have hrun : (execOp a.eval o).run P c.w = .ok (.enter g (us ++ cl.args.map a.eval ++ ws)) c.w := by
            simp only [execOp, ho, resolve, hf, e1, Deferred.ofValue, Sem.run_bind, Sem.run_pure, Result.andThen_ok, invoke]
            exact callFunc_body hc.1 _ _
          simp only [Oper.wp, hrun, Oper.upon]
          rw [app_eq, app_eq] at hc
          refine Calls.mono (hc.2 F c hs.sr (us ++ cl.args.map a.eval ++ ws) ?_ ?_) ?_
          · simp [e2, e3, hlen, Nat.add_assoc]
          · rw [Array.append_assoc]
            exact VRs_append e2 e4 (VRs_append hlen hargs e5)
          · rintro e w' ⟨c', u, v, H', rfl, rfl, k1, k2, k3, k4, k5⟩
            exact hn c' H' v u k2 k1 k3 k4 k5
        split at h
        · exact ⟨fun _ => call trivial h fun c' H' v u k1 k2 k3 k4 k5 => ⟨k4, Nx_new hs hd k1 k2 k3 k5⟩, fun hn => absurd trivial hn⟩
        · rename_i y q
          obtain ⟨v, hv1, hv2⟩ := h
          refine ⟨fun hpc => call hpc (hv1 hpc) fun c' H' v' u k1 k2 k3 k4 k5 => ?_, fun hn => Nx_put hs hd hp (fun h => absurd h hn) (fun _ => rfl) hv2⟩
          obtain ⟨rfl, rfl⟩ := k5
          exact ⟨k4, Nx_put (c := c') ⟨k1, ER_mono k2 hs.er, hs.ki, hs.ao⟩ hd hp (fun _ => k3) (fun h => absurd hpc h) hv2⟩
      · exact h.elim
    · exact h.elim
  · exact h.elim
theorem mem_true {i : Nat} {l : List Nat} : mem i l = true ↔ i ∈ l := by
  induction l with
  | nil => simp [mem]
  | cons j l ih =>
    have hb : ∀ a b, mem.bor a b = (a || b) := fun a b => by cases a <;> rfl
    simp only [mem, hb, Bool.or_eq_true, ih, List.mem_cons]
    constructor
    · rintro (h | h)
      · exact .inl (beq_nat h)
      · exact .inr h
    · rintro (h | h)
      · exact .inl (by rw [h]; exact Nat.beq_refl _)
      · exact .inr h
/-- what the choices of a plan come to -/
theorem xd_sound {ops : Array Oper} {late : List Nat} {KX : VM.X → Env → Heap → Prop} (hsel : Region.noSelect ops = true) (hnt : ∀ o ∈ ops.toList, ∀ x, o.dst = some x → x < F.nt) :
    ∀ (pl : Plan) (n : Nat) (L : Array Bool) (k : Nat) (c : Ctx) (E : Env) (H : Heap) (a : Act) (X : Nat → Bool), Closed .any ops L → St F c E H a X k → xd P ops.toList late pl k (KX .normal) E H →
      (planB .any ops late pl (Region.ready .any ops L) n L = true → wpAnyE P .any ops (lift F KX) (fun i => mem i late) n L a c.w) ∧
      (∀ rs m, n = m + 1 → rs ≠ [] → rs ⊆ Region.ready .any ops L → (∀ i s, pl ≠ .first i s) → planB .any ops late pl rs n L = true → ∀ i ∈ rs, wpOp P ops (lift F KX) i (fun a' w' => (mem i late = false → c.w.Extends w') ∧ wpAnyE P .any ops (lift F KX) (fun i => mem i late) m (L.setIfInBounds i true) a' w') a c.w) := by
  have hto : ops.toList.toArray = ops := by simp
  have step : ∀ (s : Plan) (m : Nat) (L : Array Bool) (k : Nat) (c : Ctx) (E : Env) (H : Heap) (a : Act) (X : Nat → Bool) (i : Nat),
      (∀ (k : Nat) (c : Ctx) (E : Env) (H : Heap) (a : Act) (X : Nat → Bool), St F c E H a X k → xd P ops.toList late s k (KX .normal) E H → wpAnyE P .any ops (lift F KX) (fun i => mem i late) m (L.setIfInBounds i true) a c.w) →
      St F c E H a X k →
      (match onth ops.toList i with
      | some o => (match gpd ops.toList E o.guard with
        | some p => (match mem i late with
          | true => xo P k o p E H (xd P ops.toList late s (k + 1) (KX .normal))
          | false => xe P k o p E H (xd P ops.toList late s (k + 1) (KX .normal)))
        | none => False)
      | none => False) →
      wpOp P ops (lift F KX) i (fun a' w' => (mem i late = false → c.w.Extends w') ∧ wpAnyE P .any ops (lift F KX) (fun i => mem i late) m (L.setIfInBounds i true) a' w') a c.w := by
    intro s m L k c E H a X i ih hs h
    split at h
    case h_2 => exact h.elim
    rename_i o ho
    split at h
    case h_2 => exact h.elim
    rename_i p hg
    have ho' : ops[i]? = some o := by rw [onth_eq] at ho; simpa using ho
    have hmem : o ∈ ops.toList := by
      rw [onth_eq] at ho
      exact List.mem_of_getElem? ho
    obtain ⟨hp, hw⟩ := gpd_ok hs.er hs.ki rfl hg
    rw [hto] at hw
    have nx : ∀ a' w', Nx F (k + 1) ((xd P ops.toList late s (k + 1) (KX .normal))) a' w' → wpAnyE P .any ops (lift F KX) (fun i => mem i late) m (L.setIfInBounds i true) a' w' := by
      rintro a' w' ⟨c', E', H', X', rfl, hs', hk⟩
      exact ih (k + 1) c' E' H' a' X' hs' hk
    unfold wpOp
    simp only [ho']
    split at h
    · rename_i hl
      have hok := xo_sound (Q := lift F KX) hs (hnt o hmem) hp h
      by_cases hpc : pc p
      · rw [if_pos (hw.2 hpc)]
        exact .inl (Oper.wp_mono (fun a w h => ⟨fun h' => (by rw [hl] at h'; cases h'), nx a w h⟩) (hok.1 hpc))
      · rw [if_neg (fun h => hpc (hw.1 h))]
        exact ⟨fun _ => .refl _, nx _ _ (hok.2 hpc)⟩
    · have hok := xe_sound (Q := lift F KX) hs (hnt o hmem) hp h
      by_cases hpc : pc p
      · rw [if_pos (hw.2 hpc)]
        exact .inl (Oper.wp_mono (fun a w h => ⟨fun _ => h.1, nx a w h.2⟩) (hok.1 hpc))
      · rw [if_neg (fun h => hpc (hw.1 h))]
        exact ⟨fun _ => .refl _, nx _ _ (hok.2 hpc)⟩
  intro pl
  induction pl with
  | done =>
    intro n L k c E H a X hcl hs h
    refine ⟨fun hB => ?_, fun rs m hn hne hsub _ hB => ?_⟩
    · simp only [planB, Bool.and_eq_true, List.isEmpty_iff] at hB
      exact wpAnyE_done hB.2 ⟨c, E, H, rfl, hs.sr, hs.er, hs.ao, h⟩ n
    · simp only [planB, Bool.and_eq_true, List.isEmpty_iff] at hB
      exact absurd hB.1 hne
  | first i s ih =>
    intro n L k c E H a X hcl hs h
    refine ⟨fun hB => ?_, fun rs m hn hne hsub hnf hB => absurd rfl (hnf i s)⟩
    cases n with
    | zero => simp [planB] at hB
    | succ n =>
      simp only [planB] at hB
      split at hB
      case h_2 => cases hB
      rename_i o ho
      simp only [Bool.and_eq_true, List.all_eq_true, Bool.or_eq_true, List.contains_iff_mem, Bool.not_eq_true'] at hB
      obtain ⟨⟨⟨⟨⟨b1, b2⟩, b3⟩, b4⟩, b5⟩, b6⟩ := hB
      simp only [xd] at h
      split at h
      case h_2 => exact h.elim
      rename_i o' ho'
      have : ops[i]? = some o' := by rw [onth_eq] at ho'; simpa using ho'
      obtain rfl : o = o' := Option.some.inj (ho.symm.trans this)
      split at h
      case h_2 => exact h.elim
      rename_i p hg
      have hmem : o ∈ ops.toList := by
        rw [onth_eq] at ho'
        exact List.mem_of_getElem? ho'
      obtain ⟨hp, hw⟩ := gpd_ok hs.er hs.ki rfl hg
      rw [hto] at hw
      obtain ⟨v, hK, hv⟩ := xo_still hs hp b1 h
      have hr : i ∈ Region.ready .any ops L := b3
      have go : ∀ u : Value, YieldsIf P ops c.w.Extends o u a → Nx F (k + 1) ((xd P ops.toList late s (k + 1) (KX .normal))) (a.put o.dst u) c.w → wpAnyE P .any ops (lift F KX) (fun i => mem i late) (n + 1) L a c.w := by
        rintro u hy ⟨c', E', H', X', e0, hs', hk⟩
        have := (ih n (L.setIfInBounds i true) (k + 1) c' E' H' (a.put o.dst u) X' (hcl.set hr) hs' hk).1 b6
        rw [e0] at this
        rcases b4 with b4 | b4
        · exact wpAnyE_first (N := ops.size) ho (Region.noSelect_spec hsel) (fun _ _ _ h => h.elim) n L a c.w hcl (Region.free_spec ho b2) (fun j hj => b4 j (mem_true.1 hj)) hr hy this
        · refine wpAnyE_firstP ho (Region.noSelect_spec hsel) (fun _ _ _ h => h.elim) n L a c.w hcl (Region.free_spec ho b2) b4.2 hr ?_ this
          rcases hy with ⟨g1, g2⟩ | g
          · exact .inl ⟨g1, fun w' _ => tmp_world b4.1 (g2 c.w (.refl _)) w'⟩
          · exact .inr g
      by_cases hpc : pc p
      · obtain ⟨u, hu, hvu⟩ := hv hpc
        exact go u (.inl ⟨hw.2 hpc, hu⟩) (Nx_put hs (hnt o hmem) hp (fun _ => hvu) (fun h => absurd hpc h) hK)
      · exact go undef (.inr ⟨by simpa using fun h => hpc (hw.1 h), rfl⟩) (Nx_put hs (hnt o hmem) hp (fun h => absurd h hpc) (fun _ => rfl) hK)
  | one i s ih =>
    intro n L k c E H a X hcl hs h
    have key : ∀ rs m, n = m + 1 → rs ⊆ Region.ready .any ops L → planB .any ops late (.one i s) rs n L = true → ∀ j ∈ rs, wpOp P ops (lift F KX) j (fun a' w' => (mem j late = false → c.w.Extends w') ∧ wpAnyE P .any ops (lift F KX) (fun i => mem i late) m (L.setIfInBounds j true) a' w') a c.w := by
      rintro rs m rfl hsub hB j hj
      simp only [planB, Bool.and_eq_true, beq_iff_eq] at hB
      obtain ⟨rfl, b2⟩ := hB
      obtain rfl : j = i := by simpa using hj
      exact step s m L k c E H a X j (fun k' c' E' H' a' X' hs' hk => (ih m _ k' c' E' H' a' X' (hcl.set (hsub hj)) hs' hk).1 b2) hs h
    refine ⟨fun hB => ?_, fun rs m hn hne hsub _ hB => key rs m hn hsub hB⟩
    cases n with
    | zero => simp [planB] at hB
    | succ n =>
      have hne : Region.ready .any ops L ≠ [] := by
        intro h0
        rw [h0] at hB
        simp [planB] at hB
      exact wpAnyE_all rfl hne (key _ n rfl (fun _ h => h) hB)
  | alt i s t ihs iht =>
    intro n L k c E H a X hcl hs h
    have key : ∀ rs m, n = m + 1 → rs ⊆ Region.ready .any ops L → planB .any ops late (.alt i s t) rs n L = true → ∀ j ∈ rs, wpOp P ops (lift F KX) j (fun a' w' => (mem j late = false → c.w.Extends w') ∧ wpAnyE P .any ops (lift F KX) (fun i => mem i late) m (L.setIfInBounds j true) a' w') a c.w := by
      rintro rs m rfl hsub hB j hj
      simp only [planB] at hB
      split at hB
      case h_2 => cases hB
      rename_i j1 j2 rs
      simp only [Bool.and_eq_true, beq_iff_eq] at hB
      obtain ⟨⟨rfl, b2⟩, b3⟩ := hB
      rcases List.mem_cons.1 hj with rfl | hj
      · exact step s m L k c E H a X j (fun k' c' E' H' a' X' hs' hk => (ihs m _ k' c' E' H' a' X' (hcl.set (hsub (.head _))) hs' hk).1 b2) hs h.1
      · exact (iht (m + 1) L k c E H a X hcl hs h.2).2 _ m rfl (by simp) (fun x hx => hsub (.tail _ hx)) (fun i s h => by subst h; simp [Plan.isFirst] at b3) b3.2 j hj
    refine ⟨fun hB => ?_, fun rs m hn hne hsub _ hB => key rs m hn hsub hB⟩
    cases n with
    | zero => simp [planB] at hB
    | succ n =>
      have hne : Region.ready .any ops L ≠ [] := by
        intro h0
        rw [h0] at hB
        simp [planB] at hB
      exact wpAnyE_all rfl hne (key _ n rfl (fun _ h => h) hB)
/-- A REGION THAT DRAWS ITS ORDER, by a plan. -/
theorem cx_draw {n id : Nat} {ops : Array Oper} {E : Env} {H : Heap} {K : VM.X → Env → Heap → Prop} (hm : P.follows .mixedOrders = true) (late : List Nat) (pl : Plan)
    (hB : (Region.noSelect ops && planB .any ops late pl (Region.ready .any ops (Array.replicate ops.size false)) ops.size (Array.replicate ops.size false)) = true)
    (h : xd P ops.toList late pl 0 (K .normal) (clean E) H) : cx P n (.region id ops true) E H K := by
  intro F c a hn hs he ha hok
  simp only [Bool.and_eq_true] at hB
  obtain ⟨hs', hle⟩ := hs.drew
  have hcl : Closed .any ops (Array.replicate ops.size false) := ⟨by simp, fun j oj hj hl => by
    have : (Array.replicate ops.size false).getD j false = false := by
      rcases Nat.lt_or_ge j ops.size with h | h
      · simp [h]
      · simp [h]
    rw [this] at hl
    cases hl⟩
  have := (xd_sound (F := F) (KX := K) hB.1 (okc_region hok) pl ops.size (Array.replicate ops.size false) 0 { c with w := c.w.drew } (clean E) H a _ hcl ⟨hs', ER_clean (ER_mono hle he), KI_clean E, ha⟩ h).1 hB.2
  exact wp_region_any hm (wpAny_of_E _ _ _ _ this)
/-! ### Forgetting -/
def fgE : Env → Env → Prop
  | [], _ => True
  | e :: r, E => evt E [] e.t = e.v ∧ e.p = [] ∧ fgE r E
def fgH : Heap → Heap → Prop
  | [], H => H = []
  | _ :: _, [] => False
  | b :: r, b' :: H => (b = .dead ∨ b = b') ∧ fgH r H
theorem fgH_get {H' H : Heap} (h : fgH H' H) : H'.length = H.length ∧ ∀ (r : Nat) x, H'[r]? = some x → x = .dead ∨ H[r]? = some x := by
  induction H' generalizing H with
  | nil => simp only [fgH] at h; subst h; exact ⟨rfl, fun r x h => by simp at h⟩
  | cons b H' ih =>
    cases H with
    | nil => exact h.elim
    | cons b' H =>
      obtain ⟨h1, h2⟩ := h
      obtain ⟨g1, g2⟩ := ih h2
      refine ⟨by simp [g1], fun r x hr => ?_⟩
      cases r with
      | zero => simp at hr; subst hr; rcases h1 with h1 | h1
                · exact .inl h1
                · exact .inr (by simp [h1])
      | succ r => simpa using g2 r x (by simpa using hr)
theorem SR.fg {F : Fr} {c : Ctx} {H H' : Heap} (h : SR F c H) (hf : fgH H' H) : SR F c H' := by
  obtain ⟨g1, g2⟩ := fgH_get hf
  refine ⟨h.fr, h.le, by rw [h.len, g1], fun r b l hr hl => ?_, fun r r' x x' b m m' hr hr' hx hx' hl hl' => ?_, h.imm, h.old⟩
  · rcases g2 r b hr with rfl | hr
    · cases l with
      | none => trivial
      | some l => exact fun h => h.elim
    · exact h.blk r b l hr hl
  · rcases g2 r x hr with rfl | hr
    · exact hx.elim
    · rcases g2 r' x' hr' with rfl | hr'
      · exact hx'.elim
      · exact h.inj r r' x x' b m m' hr hr' hx hx' hl hl'
theorem ER_fg {c : Ctx} {E' E : Env} {a : Act} (hE : ER c E a) (h : fgE E' E) : ER c E' a := by
  intro t
  have key : (get E' t).2.1 = [] ∧ VR c (get E' t).2.2 (tmpOf a t) := by
    induction E' with
    | nil => exact ⟨rfl, by simp [get, VR]⟩
    | cons e r ih =>
      obtain ⟨h1, h2, h4⟩ := h
      rw [get_cons]
      by_cases he : e.t = t
      · rw [if_pos he]
        subst he
        exact ⟨h2, by rw [← h1]; exact evt_top hE _⟩
      · rw [if_neg he]
        exact ih h4
  rw [key.1]
  exact ⟨fun _ => key.2, fun h => absurd trivial h⟩
/-- what follows a piece of code, from a state that says less -/
theorem cx_to {n : Nat} {code : Code} {E : Env} {H : Heap} (E2 : Env) (H2 : Heap) {K : VM.X → Env → Heap → Prop} (h : cx P n code E H fun x E' H' => (match x with
    | .normal => fgE E2 E' ∧ fgH H2 H'
    | _ => False)) (hK : K .normal E2 H2) : cx P n code E H K :=
  fun F c a hn hs he ha hok => wp_mono (h F c a hn hs he ha hok) fun e a' w' hq => by
    cases e with
    | normal =>
      obtain ⟨c', E', H', h0, h1, h2, h3, h4, h5⟩ := hq
      exact ⟨c', E2, H2, h0, h1.fg h5, ER_fg h2 h4, h3, hK⟩
    | exit i => obtain ⟨c', E', H', h0, h1, h2, h3, h4⟩ := hq; exact h4.elim
    | ret => obtain ⟨c', E', H', h0, h1, h2, h3, h4⟩ := hq; exact h4.elim
    | goto l => exact hq.elim
    | panic ch => exact hq.elim
    | outgrown => exact hq.elim
end
end Go.VM
end
section
set_option linter.unusedVariables false
set_option linter.unusedSimpArgs false
namespace Go.VM
theorem bsel_and (c a : Bool) : bsel c a false = (c && a) := by unfold bsel; cases c <;> rfl
theorem bsel_or (c a : Bool) : bsel c true a = (c || a) := by unfold bsel; cases c <;> rfl
theorem hget_nil (r : Nat) : hget [] r = .dead := by cases r <;> rfl
mutual
theorem frW_flat (g : List V → List V) (σ : List Nat) (H : Heap) (top : Bool) : ∀ v : V, flat v = true → frW top g σ H v = v
  | .bool _, _ | .int _ _, _ | .str _, _ | .nil, _ => by simp only [frW]
  | .agg cs, h => by simp only [frW, frWs_flat g σ H top cs (by simpa [flat] using h)]
  | .tup cs, h => by simp only [frW, frWs_flat g σ H top cs (by simpa [flat] using h)]
  | .bad, h | .lst _ _ _ _ _, h | .own _ _ _ _ _ _, h | .ptr _ _, h | .eptr _ _ _ _, h | .iptr _ _, h | .fn _ _ _, h => by simp [flat] at h
theorem frWs_flat (g : List V → List V) (σ : List Nat) (H : Heap) (top : Bool) : ∀ vs : List V, flats vs = true → frWs top g σ H vs = vs
  | [], _ => by simp only [frWs]
  | v :: vs, h => by
    simp only [flats] at h
    simp only [frWs, frW_flat g σ H top v (band_true h).1, frWs_flat g σ H top vs (band_true h).2]
end
mutual
theorem okW_flat (g : List V → Prop) (σ : List Nat) (H : Heap) : ∀ v : V, flat v = true → okW g σ H v
  | .bool _, _ | .int _ _, _ | .str _, _ | .nil, _ => by simp only [okW]
  | .agg cs, h => by simp only [okW]; exact okWs_flat g σ H cs (by simpa [flat] using h)
  | .tup cs, h => by simp only [okW]; exact okWs_flat g σ H cs (by simpa [flat] using h)
  | .bad, h | .lst _ _ _ _ _, h | .own _ _ _ _ _ _, h | .ptr _ _, h | .eptr _ _ _ _, h | .iptr _ _, h | .fn _ _ _, h => by simp [flat] at h
theorem okWs_flat (g : List V → Prop) (σ : List Nat) (H : Heap) : ∀ vs : List V, flats vs = true → okWs g σ H vs
  | [], _ => by simp only [okWs]
  | v :: vs, h => by
    simp only [flats] at h
    simp only [okWs]
    exact ⟨okW_flat g σ H v (band_true h).1, okWs_flat g σ H vs (band_true h).2⟩
end
/-- a call's end whose value leads nowhere -/
theorem fin_flat {v x : V} {H : Heap} (hf : flat x = true) (h : x = v) : fin 0 [] v [] x H := by
  subst h
  exact ⟨rfl, trivial, okW_flat _ _ _ _ hf, frW_flat _ _ _ _ _ hf, rfl⟩
end Go.VM
namespace Go.VM
theorem wrap64 {x : Int} (h1 : -9223372036854775808 ≤ x) (h2 : x ≤ 9223372036854775807) : IntKind.i64.wrap x = x := by
  simp only [IntKind.wrap, IntKind.signed, IntKind.bits]
  simp
  omega
end Go.VM
namespace Go.VM
/-- a contract of the library's kit, in the executor's words -/
theorem meets_pure {P : Program} {f : Nat} {args : List V} {v : V} {us0 : Array Value} {u0 : Value} (hname : fbody P f = true) (hargs : ∀ (c : Ctx) (us : Array Value), us.size = args.length → (VRs c args fun j => us[j]?) → us = us0)
    (hv : ∀ c, VR c v u0) (h : ∀ w, Calls P f us0 w fun e w' => e = .returned u0 ∧ w' = w) : Meets P f args v [] := by
  refine ⟨hname, fun w I hI us hsz hus => ?_⟩
  rw [hargs _ us hsz hus]
  refine Calls.mono (h w) ?_
  rintro e w' ⟨rfl, rfl⟩
  exact ⟨⟨w', I, []⟩, u0, rfl, rfl, ⟨⟨rfl, rfl, rfl, Nat.le_refl _, fun _ _ _ => rfl⟩, Le.refl _, rfl, fun r b l h => by simp at h, fun r r' x x' b m m' h => by simp at h, hI, fun b h => .inl h⟩, hv _⟩
theorem args2 {c : Ctx} {us : Array Value} {a b : V} {x y : Value} (hsz : us.size = 2) (h : VRs c [a, b] fun j => us[j]?) (ha : ∀ u, VR c a u → u = x) (hb : ∀ u, VR c b u → u = y) : us = #[x, y] := by
  simp only [VRs] at h
  obtain ⟨⟨u1, e1, h1⟩, ⟨u2, e2, h2⟩, _⟩ := h
  rw [ha _ h1] at e1
  rw [hb _ h2] at e2
  apply Array.ext
  · simpa using hsz
  · intro i h1 h2
    have hi : i < 2 := by omega
    match i, hi with
    | 0, _ => simpa [Array.getElem?_eq_some_iff, hsz] using e1
    | 1, _ => simpa [Array.getElem?_eq_some_iff, hsz] using e2
end Go.VM
end
section
set_option linter.unusedVariables false
set_option linter.unusedSimpArgs false
namespace Go.VM
/-! ### Piece by piece -/
/-- what follows a piece of code -/
def andThen (P : Program) (n : Nat) (b : Code) (K : X → Env → Heap → Prop) : X → Env → Heap → Prop
  | .normal, E, H => cx P n b E H K
  | .exit i, E, H => K (.exit i) E H
  | .ret, E, H => K .ret E H
/-- what follows a block -/
def ofBlock (id : Nat) (K : X → Env → Heap → Prop) : X → Env → Heap → Prop
  | .normal, E, H => K .normal E H
  | .exit i, E, H => (match Nat.beq i id with | true => K .normal E H | false => K (.exit i) E H)
  | .ret, E, H => K .ret E H
section
variable {P : Program} {n : Nat} {E : Env} {H : Heap} {K : X → Env → Heap → Prop}
theorem cx_seq {a b : Code} (h : cx P n a E H (andThen P n b K)) : cx P n (.seq a b) E H K := by
  intro F c ac hn hs he ha hok
  simp only [okc, Bool.and_eq_true] at hok
  refine wp_seq (wp_mono (h F c ac hn hs he ha hok.1) fun e a' w' hq => ?_)
  cases e with
  | normal => obtain ⟨c', E', H', rfl, h1, h2, h3, h4⟩ := hq; exact h4 F c' a' hn h1 h2 h3 hok.2
  | exit i => obtain ⟨c', E', H', rfl, h1, h2, h3, h4⟩ := hq; exact ⟨c', E', H', rfl, h1, h2, h3, h4⟩
  | ret => obtain ⟨c', E', H', rfl, h1, h2, h3, h4⟩ := hq; exact ⟨c', E', H', rfl, h1, h2, h3, h4⟩
  | goto l => exact hq.elim
  | panic ch => exact hq.elim
  | outgrown => exact hq.elim
theorem cx_region {id : Nat} {ops : Array Oper} (h : xs P ops.toList 0 ops.toList (K .normal) (clean E) H) : cx P n (.region id ops false) E H K :=
  cx_of_xc (by simp only [xc]; exact h)
theorem cx_sr {id : Nat} {ops : Array Oper} {b : Code} (h : xs P ops.toList 0 ops.toList (andThen P n b K .normal) (clean E) H) : cx P n (.seq (.region id ops false) b) E H K :=
  cx_seq (cx_region h)
theorem cx_cond {c : Operand} {t e : Code} (h : match ev (clean E) [] c with
    | .bool b => (b = true → cx P n t E H K) ∧ (b = false → cx P n e E H K)
    | _ => False) : cx P n (.cond c t e) E H K := by
  intro F cc a hn hs he ha hok
  simp only [okc, Bool.and_eq_true] at hok
  split at h
  · rename_i b hb
    have hv := ev_ok (ER_clean he) (KI_clean E) (p := []) (fun i b x h => by simp at h) trivial c
    rw [hb] at hv
    simp only [VR] at hv
    cases b with
    | true => exact wp_cond_true hv (h.1 rfl F cc a hn hs he ha hok.1)
    | false => exact wp_cond_false hv (h.2 rfl F cc a hn hs he ha hok.2)
  · exact h.elim
theorem cx_block {id : Nat} {b : Code} (h : cx P n b E H (ofBlock id K)) : cx P n (.block id b) E H K := by
  intro F c a hn hs he ha hok
  refine wp_block (wp_mono (h F c a hn hs he ha hok) fun e a' w' hq => ?_)
  cases e with
  | normal => obtain ⟨c', E', H', rfl, h1, h2, h3, h4⟩ := hq; exact ⟨c', E', H', rfl, h1, h2, h3, h4⟩
  | exit i =>
    obtain ⟨c', E', H', rfl, h1, h2, h3, h4⟩ := hq
    simp only [ofBlock] at h4
    simp only [Exit.inBlock]
    by_cases hi : i = id
    · subst hi
      rw [if_pos rfl]
      rw [Nat.beq_refl] at h4
      exact ⟨c', E', H', rfl, h1, h2, h3, h4⟩
    · rw [if_neg hi]
      have hb : Nat.beq i id = false := by
        cases hh : Nat.beq i id with
        | false => rfl
        | true => exact absurd (beq_nat hh) hi
      rw [hb] at h4
      exact ⟨c', E', H', rfl, h1, h2, h3, h4⟩
  | ret => obtain ⟨c', E', H', rfl, h1, h2, h3, h4⟩ := hq; exact ⟨c', E', H', rfl, h1, h2, h3, h4⟩
  | goto l => exact hq.elim
  | panic ch => exact hq.elim
  | outgrown => exact hq.elim
theorem cx_skip (h : K .normal E H) : cx P n .skip E H K := cx_of_xc (by simp only [xc]; exact h)
theorem cx_ret (h : K .ret E H) : cx P n .ret E H K := cx_of_xc (by simp only [xc]; exact h)
theorem cx_exit {i : Nat} (h : K (.exit i) E H) : cx P n (.exit i) E H K := cx_of_xc (by simp only [xc]; exact h)
/-- from a state that says less -/
theorem cx_less {code : Code} (E2 : Env) (H2 : Heap) (h1 : fgE E2 E) (h2 : fgH H2 H) (h : cx P n code E2 H2 K) : cx P n code E H K :=
  fun F c a hn hs he ha hok => h F c a hn (hs.fg h2) (ER_fg he h1) ha hok
theorem fgH_refl (H : Heap) : fgH H H := by
  induction H with
  | nil => rfl
  | cons b H ih => exact ⟨.inr rfl, ih⟩
/-- what is not named is forgotten -/
def keep (ts : List Nat) (E : Env) : Env :=
  match ts with
  | [] => []
  | t :: r => ⟨t, 0, [], evt E [] t⟩ :: keep r E
theorem fgE_keep (ts : List Nat) (E : Env) : fgE (keep ts E) E := by
  induction ts with
  | nil => trivial
  | cons t r ih => exact ⟨rfl, rfl, ih⟩
theorem cx_keep {code : Code} (ts : List Nat) (h : cx P n code (keep ts E) H K) : cx P n code E H K := cx_less _ _ (fgE_keep ts E) (fgH_refl H) h
theorem andThen_normal {b : Code} : andThen P n b K .normal E H = cx P n b E H K := rfl
theorem andThen_ret {b : Code} : andThen P n b K .ret E H = K .ret E H := rfl
theorem andThen_exit {b : Code} {i : Nat} : andThen P n b K (.exit i) E H = K (.exit i) E H := rfl
/-- where two ways meet: what both come to -/
theorem cx_join {a b : Code} (E2 : Env) (H2 : Heap) (h : cx P n a E H fun x E' H' => (match x with
    | .normal => fgE E2 E' ∧ fgH H2 H'
    | x => K x E' H')) (hK : cx P n b E2 H2 K) : cx P n (.seq a b) E H K := by
  refine cx_seq ?_
  intro F c ac hn hs he ha hok
  refine wp_mono (h F c ac hn hs he ha hok) fun e a' w' hq => ?_
  cases e with
  | normal =>
    obtain ⟨c', E', H', h0, h1, h2, h3, h4, h5⟩ := hq
    exact ⟨c', E2, H2, h0, h1.fg h5, ER_fg h2 h4, h3, hK⟩
  | exit i => obtain ⟨c', E', H', h0, h1, h2, h3, h4⟩ := hq; exact ⟨c', E', H', h0, h1, h2, h3, h4⟩
  | ret => obtain ⟨c', E', H', h0, h1, h2, h3, h4⟩ := hq; exact ⟨c', E', H', h0, h1, h2, h3, h4⟩
  | goto l => exact hq.elim
  | panic ch => exact hq.elim
  | outgrown => exact hq.elim
/-- a loop, by what holds at each round's head -/
theorem cx_loop {σ : Type} (inv : σ → Env) (hv : σ → Heap) (μ : σ → Nat) {b : Code} (hn : ∀ s, n ≤ hlen (hv s))
    (round : ∀ s, cx P n b (inv s) (hv s) fun x E H => match x with
      | .normal => ∃ s', μ s' < μ s ∧ sub (inv s') (hv s') E H
      | .exit i => K (.exit i) E H
      | .ret => K .ret E H)
    (s : σ) (h0 : sub (inv s) (hv s) E H) : cx P n (.loop b) E H K := by
  refine cx_sub h0 (hn s) fun F c a hF hs he ha hok => ?_
  refine wp_loop_ghost (fun m a' w' => ∃ s c', μ s = m ∧ c'.w = w' ∧ SR F c' (hv s) ∧ ER c' (inv s) a' ∧ AO F a') (μ s) ⟨s, c, rfl, rfl, hs, he, ha⟩ ?_
  rintro m a' w' ⟨s, c', rfl, rfl, hs, he, ha⟩
  refine wp_mono (round s F c' a' hF hs he ha hok) fun e a2 w2 hq => ?_
  cases e with
  | normal =>
    obtain ⟨c2, E2, H2, rfl, h1, h2, h3, s', hlt, hsub⟩ := hq
    refine ⟨μ s', hlt, s', c2.cut (hv s').length, rfl, rfl, ?_, ?_, h3⟩
    · have := hn s'
      rw [hlen_eq] at this
      exact h1.cut (Nat.le_trans hF this) hsub.2
    · have := ER_sub h2 hsub.1
      rw [hlen_eq] at this
      exact this
  | exit i => obtain ⟨c', E', H', h0, h1, h2, h3, h4⟩ := hq; exact ⟨c', E', H', h0, h1, h2, h3, h4⟩
  | ret => obtain ⟨c', E', H', h0, h1, h2, h3, h4⟩ := hq; exact ⟨c', E', H', h0, h1, h2, h3, h4⟩
  | goto l => exact hq.elim
  | panic ch => exact hq.elim
  | outgrown => exact hq.elim
end
end Go.VM
end
section
set_option linter.unusedVariables false
set_option linter.unusedSimpArgs false
namespace Go.VM
/-! ### Saying less -/
def wkT (t t' : Tg) : Prop := t' = .loose ∨ t' = t
def wkN (a b : Option Bool) : Prop := b = none ∨ b = a
mutual
/-- the second one says no more than the first one -/
def wk : V → V → Prop
  | .bad, x => x = .bad
  | .nil, x => (match x with | .bad => True | .nil => True | .lst nl t e n f => n = 0 ∧ wkN (some true) nl ∧ t = .loose | _ => False)
  | .bool b, x => (match x with | .bad => True | .bool b' => b = b' | _ => False)
  | .int k b, x => (match x with | .bad => True | .int k' b' => k = k' ∧ b = b' | _ => False)
  | .str b, x => (match x with | .bad => True | .str b' => b = b' | _ => False)
  | .lst nl t e n f, x => (match x with | .bad => True | .lst nl' t' e' n' f' => n = n' ∧ e = e' ∧ wkN nl nl' ∧ wkT t t' ∧ ∀ i, i < n → wks (f i) (f' i) | _ => False)
  | .own nl r e off n t, x => (match x with | .bad => True | .own nl' r' e' off' n' t' => r = r' ∧ e = e' ∧ off = off' ∧ n = n' ∧ wkN nl nl' ∧ wkT t t' | _ => False)
  | .agg cs, x => (match x with | .bad => True | .agg cs' => wks cs cs' | _ => False)
  | .tup cs, x => (match x with | .bad => True | .tup cs' => wks cs cs' | _ => False)
  | .ptr r off, x => (match x with | .bad => True | .ptr r' off' => r = r' ∧ off = off' | _ => False)
  | .eptr r e i off, x => (match x with | .bad => True | .eptr r' e' i' off' => r = r' ∧ e = e' ∧ i = i' ∧ off = off' | _ => False)
  | .iptr cs off, x => (match x with | .bad => True | .iptr cs' off' => off = off' ∧ wks cs cs' | _ => False)
  | .fn f a b, x => (match x with | .bad => True | .fn f' a' b' => f = f' ∧ wks a a' ∧ wks b b' | _ => False)
def wks : List V → List V → Prop
  | [], l => l = []
  | v :: vs, l => (match l with | v' :: vs' => wk v v' ∧ wks vs vs' | [] => False)
end
theorem wks_length : ∀ {vs vs' : List V}, wks vs vs' → vs'.length = vs.length
  | [], l, h => by simp only [wks] at h; subst h; rfl
  | v :: vs, [], h => by simp only [wks] at h
  | v :: vs, v' :: vs', h => by simp only [wks] at h; simp [wks_length h.2]
mutual
theorem wk_refl : ∀ v : V, wk v v
  | .bad | .nil | .bool _ | .int _ _ | .str _ | .ptr _ _ | .eptr _ _ _ _ => by simp [wk]
  | .own _ _ _ _ _ _ => by simp [wk, wkN, wkT]
  | .lst nl t e n f => by
    simp only [wk]
    exact ⟨trivial, trivial, .inr rfl, .inr rfl, fun i _ => wks_refl (f i)⟩
  | .agg cs => by simp only [wk]; exact wks_refl cs
  | .tup cs => by simp only [wk]; exact wks_refl cs
  | .iptr cs off => by simp only [wk]; exact ⟨trivial, wks_refl cs⟩
  | .fn f a b => by simp only [wk]; exact ⟨trivial, wks_refl a, wks_refl b⟩
theorem wks_refl : ∀ vs : List V, wks vs vs
  | [] => by simp [wks]
  | v :: vs => by simp only [wks]; exact ⟨wk_refl v, wks_refl vs⟩
end
theorem wkN_trans {a b c : Option Bool} (h : wkN a b) (k : wkN b c) : wkN a c := by
  rcases k with rfl | rfl
  · exact .inl rfl
  · exact h
theorem wkT_trans {a b c : Tg} (h : wkT a b) (k : wkT b c) : wkT a c := by
  rcases k with rfl | rfl
  · exact .inl rfl
  · exact h
mutual
theorem wk_trans : ∀ {a b c : V}, wk a b → wk b c → wk a c
  | .bad, b, c, h, k => by simp only [wk] at h; subst h; exact k
  | .nil, b, c, h, k => by
    cases b <;> simp only [wk] at h <;> first | exact h.elim | skip
    · simp only [wk] at k; subst k; simp only [wk]
    · exact k
    · obtain ⟨rfl, h2, rfl⟩ := h
      cases c <;> simp only [wk] at k ⊢ <;> first | exact k.elim | skip
      obtain ⟨rfl, rfl, k1, k2, _⟩ := k
      exact ⟨rfl, wkN_trans h2 k1, by rcases k2 with rfl | rfl <;> rfl⟩
  | .bool _, b, c, h, k => by cases b <;> simp only [wk] at h <;> first | exact h.elim | (subst h; exact k) | (simp only [wk] at k; subst k; simp only [wk])
  | .int _ _, b, c, h, k => by cases b <;> simp only [wk] at h <;> first | exact h.elim | (obtain ⟨rfl, rfl⟩ := h; exact k) | (simp only [wk] at k; subst k; simp only [wk])
  | .str _, b, c, h, k => by cases b <;> simp only [wk] at h <;> first | exact h.elim | (subst h; exact k) | (simp only [wk] at k; subst k; simp only [wk])
  | .ptr _ _, b, c, h, k => by cases b <;> simp only [wk] at h <;> first | exact h.elim | (obtain ⟨rfl, rfl⟩ := h; exact k) | (simp only [wk] at k; subst k; simp only [wk])
  | .eptr _ _ _ _, b, c, h, k => by cases b <;> simp only [wk] at h <;> first | exact h.elim | (obtain ⟨rfl, rfl, rfl, rfl⟩ := h; exact k) | (simp only [wk] at k; subst k; simp only [wk])
  | .own _ _ _ _ _ _, b, c, h, k => by
    cases b <;> simp only [wk] at h <;> first | exact h.elim | (simp only [wk] at k; subst k; simp only [wk]; done) | skip
    obtain ⟨rfl, rfl, rfl, rfl, h1, h2⟩ := h
    cases c <;> simp only [wk] at k ⊢ <;> first | exact k.elim | skip
    obtain ⟨rfl, rfl, rfl, rfl, k1, k2⟩ := k
    exact ⟨rfl, rfl, rfl, rfl, wkN_trans h1 k1, wkT_trans h2 k2⟩
  | .lst _ _ _ _ f, b, c, h, k => by
    cases b <;> simp only [wk] at h <;> first | exact h.elim | (simp only [wk] at k; subst k; simp only [wk]; done) | skip
    obtain ⟨rfl, rfl, h1, h2, h3⟩ := h
    cases c <;> simp only [wk] at k ⊢ <;> first | exact k.elim | skip
    obtain ⟨rfl, rfl, k1, k2, k3⟩ := k
    exact ⟨rfl, rfl, wkN_trans h1 k1, wkT_trans h2 k2, fun i hi => wks_trans (vs := f i) (h3 i hi) (k3 i hi)⟩
  | .agg cs, b, c, h, k => by
    cases b <;> simp only [wk] at h <;> first | exact h.elim | (simp only [wk] at k; subst k; simp only [wk]; done) | skip
    cases c <;> simp only [wk] at k ⊢ <;> first | exact k.elim | exact wks_trans (vs := cs) h k | skip
  | .tup cs, b, c, h, k => by
    cases b <;> simp only [wk] at h <;> first | exact h.elim | (simp only [wk] at k; subst k; simp only [wk]; done) | skip
    cases c <;> simp only [wk] at k ⊢ <;> first | exact k.elim | exact wks_trans (vs := cs) h k | skip
  | .iptr cs _, b, c, h, k => by
    cases b <;> simp only [wk] at h <;> first | exact h.elim | (simp only [wk] at k; subst k; simp only [wk]; done) | skip
    obtain ⟨rfl, h⟩ := h
    cases c <;> simp only [wk] at k ⊢ <;> first | exact k.elim | exact ⟨k.1, wks_trans (vs := cs) h k.2⟩ | skip
  | .fn f a b', b, c, h, k => by
    cases b <;> simp only [wk] at h <;> first | exact h.elim | (simp only [wk] at k; subst k; simp only [wk]; done) | skip
    obtain ⟨rfl, h1, h2⟩ := h
    cases c <;> simp only [wk] at k ⊢ <;> first | exact k.elim | exact ⟨k.1, wks_trans (vs := a) h1 k.2.1, wks_trans (vs := b') h2 k.2.2⟩ | skip
theorem wks_trans : ∀ {vs ws us : List V}, wks vs ws → wks ws us → wks vs us
  | [], ws, us, h, k => by simp only [wks] at h; subst h; exact k
  | v :: vs, [], us, h, k => by simp only [wks] at h
  | v :: vs, w :: ws, [], h, k => by simp only [wks] at k
  | v :: vs, w :: ws, u :: us, h, k => by
    simp only [wks] at h k ⊢
    exact ⟨wk_trans h.1 k.1, wks_trans h.2 k.2⟩
end
theorem wk_bad (v : V) : wk v .bad := by cases v <;> simp [wk]
theorem VR_bad {c : Ctx} {u : Value} : VR c .bad u := by simp only [VR]
theorem Nlr_wk {a b : Option Bool} {A : Option Addr} (h : wkN a b) (hA : Nlr a A) : Nlr b A := by
  rcases h with rfl | rfl
  · intro b hb; cases hb
  · exact hA
mutual
theorem VR_wk {c : Ctx} : ∀ (v v' : V) (u : Value), wk v v' → VR c v u → VR c v' u
  | .bad, v', u, h, _ => by simp only [wk] at h; subst h; exact VR_bad
  | .nil, v', u, h, H => by
    cases v' <;> simp only [wk] at h <;> first | exact VR_bad | exact H | exact h.elim | skip
    simp only [VR] at H ⊢
    subst H
    obtain ⟨rfl, h2, rfl⟩ := h
    refine ⟨none, 0, rfl, Nat.le_refl _, (fun _ => rfl), Nlr_wk h2 (fun b hb => by cases hb; simp), (fun _ => rfl), fun i hi => by omega⟩
  | .bool _, v', u, h, H => by cases v' <;> simp only [wk] at h <;> first | exact VR_bad | (subst h; exact H) | exact h.elim
  | .int _ _, v', u, h, H => by cases v' <;> simp only [wk] at h <;> first | exact VR_bad | (obtain ⟨rfl, rfl⟩ := h; exact H) | exact h.elim
  | .str _, v', u, h, H => by cases v' <;> simp only [wk] at h <;> first | exact VR_bad | (subst h; exact H) | exact h.elim
  | .ptr _ _, v', u, h, H => by cases v' <;> simp only [wk] at h <;> first | exact VR_bad | (obtain ⟨rfl, rfl⟩ := h; exact H) | exact h.elim
  | .eptr _ _ _ _, v', u, h, H => by cases v' <;> simp only [wk] at h <;> first | exact VR_bad | (obtain ⟨rfl, rfl, rfl, rfl⟩ := h; exact H) | exact h.elim
  | .own nl r e off n t, v', u, h, H => by
    cases v' <;> simp only [wk] at h <;> first | exact VR_bad | exact h.elim | skip
    obtain ⟨rfl, rfl, rfl, rfl, h1, h2⟩ := h
    simp only [VR] at H ⊢
    obtain ⟨A, cap, e1, ⟨e2, e3⟩, e4, e5, e6⟩ := H
    refine ⟨A, cap, e1, ⟨e2, fun C hC => ?_⟩, fun hC => ?_, Nlr_wk h1 e5, e6⟩
    · rcases h2 with rfl | rfl
      · cases hC
      · exact e3 C hC
    · rcases h2 with rfl | rfl
      · cases hC
      · exact e4 hC
  | .lst nl t e n f, v', u, h, H => by
    cases v' <;> simp only [wk] at h <;> first | exact VR_bad | exact h.elim | skip
    rename_i nl' t' e' n' f'
    obtain ⟨rfl, rfl, h1, h2, h3⟩ := h
    simp only [VR] at H ⊢
    obtain ⟨A, cap, e1, e2, e3, e4, e5, e6⟩ := H
    refine ⟨A, cap, e1, e2, fun hC => ?_, Nlr_wk h1 e4, e5, fun i hi => ?_⟩
    · rcases h2 with rfl | rfl
      · cases hC
      · exact e3 hC
    · obtain ⟨a, g1, g2, g3, g4, g5⟩ := e6 i hi
      exact ⟨a, g1, g2, (wks_length (h3 i hi)).trans g3, g4, VRs_wk (f i) (f' i) _ (h3 i hi) g5⟩
  | .agg cs, v', u, h, H => by
    cases v' <;> simp only [wk] at h <;> first | exact VR_bad | exact h.elim | skip
    simp only [VR] at H ⊢
    obtain ⟨us, e1, e2, e0, e3⟩ := H
    exact ⟨us, e1, by rw [wks_length h]; exact e2, by rw [wks_length h]; exact e0, VRs_wk cs _ _ h e3⟩
  | .tup cs, v', u, h, H => by
    cases v' <;> simp only [wk] at h <;> first | exact VR_bad | exact h.elim | skip
    simp only [VR] at H ⊢
    obtain ⟨us, e1, e2, e3⟩ := H
    exact ⟨us, e1, by rw [wks_length h]; exact e2, VRs_wk cs _ _ h e3⟩
  | .iptr cs off, v', u, h, H => by
    cases v' <;> simp only [wk] at h <;> first | exact VR_bad | exact h.elim | skip
    obtain ⟨rfl, h⟩ := h
    simp only [VR] at H ⊢
    obtain ⟨b, o, e1, e2, e0, e3⟩ := H
    exact ⟨b, o, e1, e2, by rw [wks_length h]; exact e0, VRs_wk cs _ _ h e3⟩
  | .fn f a b, v', u, h, H => by
    cases v' <;> simp only [wk] at h <;> first | exact VR_bad | exact h.elim | skip
    obtain ⟨rfl, h1, h2⟩ := h
    simp only [VR] at H ⊢
    obtain ⟨us, ws, e1, e2, e3, e4, e5⟩ := H
    exact ⟨us, ws, e1, by rw [wks_length h1]; exact e2, by rw [wks_length h2]; exact e3, VRs_wk a _ _ h1 e4, VRs_wk b _ _ h2 e5⟩
theorem VRs_wk {c : Ctx} : ∀ (vs vs' : List V) (g : Nat → Option Value), wks vs vs' → VRs c vs g → VRs c vs' g
  | [], l, g, h, H => by simp only [wks] at h; subst h; simp only [VRs]
  | v :: vs, [], g, h, H => by simp only [wks] at h
  | v :: vs, v' :: vs', g, h, H => by
    simp only [wks] at h
    simp only [VRs] at H ⊢
    obtain ⟨⟨u, e1, e2⟩, e3⟩ := H
    exact ⟨⟨u, e1, VR_wk v v' u h.1 e2⟩, VRs_wk vs vs' _ h.2 e3⟩
end
/-- likewise of blocks -/
def wkB : Blk → Blk → Prop
  | .box cs, x => (match x with | .dead => True | .box cs' => wks cs cs' | _ => False)
  | .arr e n f, x => (match x with | .dead => True | .arr e' n' f' => e = e' ∧ n' ≤ n ∧ ∀ i, i < n' → wks (f i) (f' i) | _ => False)
  | .dead, x => x = .dead
def wkH : Heap → Heap → Prop
  | [], H => H = []
  | b :: H, l => (match l with | b' :: H' => wkB b b' ∧ wkH H H' | [] => False)
theorem wkB_refl (b : Blk) : wkB b b := by
  cases b with
  | box cs => exact wks_refl cs
  | arr e n f => exact ⟨rfl, Nat.le_refl _, fun i _ => wks_refl _⟩
  | dead => rfl
theorem wkH_refl : ∀ H : Heap, wkH H H
  | [] => rfl
  | b :: H => ⟨wkB_refl b, wkH_refl H⟩
theorem wkH_get : ∀ {H H' : Heap}, wkH H H' → H'.length = H.length ∧ ∀ (r : Nat) x', H'[r]? = some x' → ∃ x, H[r]? = some x ∧ wkB x x'
  | [], H', h => by simp only [wkH] at h; subst h; exact ⟨rfl, fun r x h => by simp at h⟩
  | b :: H, [], h => by simp only [wkH] at h
  | b :: H, b' :: H', h => by
    simp only [wkH] at h
    obtain ⟨g1, g2⟩ := wkH_get h.2
    refine ⟨by simp [g1], fun r x' hr => ?_⟩
    cases r with
    | zero => simp at hr; subst hr; exact ⟨b, rfl, h.1⟩
    | succ r => simpa using g2 r x' (by simpa using hr)
theorem wkB_trans {a b c : Blk} (h : wkB a b) (k : wkB b c) : wkB a c := by
  cases c with
  | dead => cases a <;> simp [wkB]
  | box cs =>
    cases b with
    | dead => cases k
    | arr e n f => exact k.elim
    | box bs => cases a with
      | dead => cases h
      | arr e n f => exact h.elim
      | box as => exact wks_trans h k
  | arr e n f =>
    cases b with
    | dead => cases k
    | box bs => exact k.elim
    | arr e' n' f' => cases a with
      | dead => cases h
      | box as => exact h.elim
      | arr e'' n'' f'' =>
        obtain ⟨rfl, h2, h3⟩ := h
        obtain ⟨rfl, k2, k3⟩ := k
        exact ⟨rfl, Nat.le_trans k2 h2, fun i hi => wks_trans (h3 i (by omega)) (k3 i hi)⟩
theorem wkH_trans : ∀ {a b c : Heap}, wkH a b → wkH b c → wkH a c
  | [], b, c, h, k => by simp only [wkH] at h; subst h; exact k
  | x :: a, [], c, h, k => by simp only [wkH] at h
  | x :: a, y :: b, [], h, k => by simp only [wkH] at k
  | x :: a, y :: b, z :: c, h, k => by
    simp only [wkH] at h k ⊢
    exact ⟨wkB_trans h.1 k.1, wkH_trans h.2 k.2⟩
theorem wkB_live {x x' : Blk} (h : wkB x x') (hl : Live x') : Live x := by
  cases x <;> cases x' <;> simp_all [wkB, Live]
theorem Cont_wk {c : Ctx} {C : Array Value} {cap : Nat} {x x' : Blk} (h : wkB x x') (H : Live x' → Cont c C cap x) : Cont c C cap x' := by
  cases x' with
  | dead => trivial
  | box cs' =>
    cases x with
    | dead => cases h
    | arr e n f => exact h.elim
    | box cs =>
    have h : wks cs cs' := h
    obtain ⟨g1, g2, g3⟩ := H trivial
    exact ⟨by rw [wks_length h]; exact g1, by rw [wks_length h]; exact g2, VRs_wk _ _ _ h g3⟩
  | arr e' n' f' =>
    cases x with
    | dead => cases h
    | box cs => exact h.elim
    | arr e n f =>
    obtain ⟨rfl, h2, h3⟩ := h
    obtain ⟨g1, g2, g3⟩ := H trivial
    refine ⟨g1, by omega, fun i hi => ?_⟩
    obtain ⟨k1, k2, k3⟩ := g3 i (by omega)
    exact ⟨(wks_length (h3 i hi)).trans k1, k2, VRs_wk _ _ _ (h3 i hi) k3⟩
theorem SR.wk {F : Fr} {c : Ctx} {H H' : Heap} (h : SR F c H) (hw : wkH H H') : SR F c H' := by
  obtain ⟨g1, g2⟩ := wkH_get hw
  refine ⟨h.fr, h.le, by rw [h.len, g1], fun r b l hr hl => ?_, fun r r' x x' b m m' hr hr' hx hx' hl hl' => ?_, h.imm, h.old⟩
  · obtain ⟨x, k1, k2⟩ := g2 r b hr
    have hb := h.blk r x l k1 hl
    cases l with
    | none =>
      cases b with
      | dead => trivial
      | box cs => cases x with
        | dead => cases k2
        | arr e n f => exact k2.elim
        | box cs => exact hb.elim
      | arr e n f =>
        cases x with
        | dead => cases k2
        | box cs => exact k2.elim
        | arr e' m f' =>
          have h1 : m = 0 := hb
          have h2 : n ≤ m := k2.2.1
          show n = 0
          omega
    | some l =>
      obtain ⟨bb, m⟩ := l
      intro hlive
      obtain ⟨C, el, e1, e2, e3⟩ := hb (wkB_live k2 hlive)
      exact ⟨C, el, e1, Cont_wk k2 (fun _ => e2), e3⟩
  · obtain ⟨y, k1, k2⟩ := g2 r x hr
    obtain ⟨y', k1', k2'⟩ := g2 r' x' hr'
    exact h.inj r r' y y' b m m' k1 k1' (wkB_live k2 hx) (wkB_live k2' hx') hl hl'
/-- an environment that says no more -/
def wkE : Env → Env → Prop
  | [], _ => True
  | e :: r, E => wk (evt E [] e.t) e.v ∧ e.p = [] ∧ wkE r E
theorem ER_wk {c : Ctx} {E' E : Env} {a : Act} (hE : ER c E a) (h : wkE E' E) : ER c E' a := by
  intro t
  have key : (get E' t).2.1 = [] ∧ VR c (get E' t).2.2 (tmpOf a t) := by
    induction E' with
    | nil => exact ⟨rfl, by simp [get, VR]⟩
    | cons e r ih =>
      obtain ⟨h1, h2, h4⟩ := h
      rw [get_cons]
      by_cases he : e.t = t
      · rw [if_pos he]
        subst he
        exact ⟨h2, VR_wk _ _ _ h1 (evt_top hE _)⟩
      · rw [if_neg he]
        exact ih h4
  rw [key.1]
  exact ⟨fun _ => key.2, fun h => absurd trivial h⟩
theorem wkE_keep (ts : List Nat) (E : Env) : wkE (keep ts E) E := by
  induction ts with
  | nil => trivial
  | cons t r ih => exact ⟨wk_refl _, rfl, ih⟩
section
variable {P : Program} {n : Nat} {E : Env} {H : Heap} {K : X → Env → Heap → Prop}
theorem cx_wk {code : Code} (E2 : Env) (H2 : Heap) (h1 : wkE E2 E) (h2 : wkH H H2) (h : cx P n code E2 H2 K) : cx P n code E H K :=
  fun F c a hn hs he ha hok => h F c a hn (hs.wk h2) (ER_wk he h1) ha hok
theorem cw_wk {f : Nat} {args : List V} {K : V → Heap → Prop} (args' : List V) (H' : Heap) (h1 : wks args args') (h2 : wkH H H') (h : cw P f args' H' K) : cw P f args H K :=
  ⟨h.1, fun F c hs us hsz hus => h.2 F c (hs.wk h2) us (by rw [wks_length h1]; exact hsz) (VRs_wk _ _ _ h1 hus)⟩
theorem cwE_wk {f : Nat} {args : List V} {K : V → Heap → Prop} (args' : List V) (H' : Heap) (h1 : wks args args') (h2 : wkH H H') (h : cwE P f args' H' K) : cwE P f args H K :=
  ⟨h.1, fun F c hs us hsz hus => h.2 F c (hs.wk h2) us (by rw [wks_length h1]; exact hsz) (VRs_wk _ _ _ h1 hus)⟩
theorem Meets.wk {f : Nat} {args args' : List V} {v v' : V} {H1 H1' : Heap} (h : Meets P f args' v H1) (h1 : wks args args') (h2 : VM.wk v v') (h3 : wkH H1 H1') : Meets P f args v' H1' := by
  refine ⟨h.1, fun w I hI us hsz hus => Calls.mono (h.2 w I hI us (by rw [wks_length h1]; exact hsz) (VRs_wk _ _ _ h1 hus)) ?_⟩
  rintro e w' ⟨c', u, e1, e2, e3, e4⟩
  exact ⟨c', u, e1, e2, e3.wk h3, VR_wk _ _ _ h2 e4⟩
/-- a call's end: the results, and which of its blocks are kept -/
def finw (d : Nat) (σ : List Nat) (v : V) (H1 : Heap) (x : V) (H : Heap) : Prop :=
  okσ (hlen H) σ = true ∧ okH d σ H σ ∧ okW (okD σ H d) σ H x ∧ wk (frV d σ H x) v ∧ wkH (frH d σ H σ) H1
theorem resV_mono {E : Env} {H : Heap} {K K' : List V → Prop} (hk : ∀ l, K l → K' l) : ∀ (rs : List ResultVar) (acc : List V), resV P E H rs acc K → resV P E H rs acc K'
  | [], acc, h => hk _ h
  | .tmp t :: r, acc, h => resV_mono hk r _ h
  | .cell t T :: r, acc, h => by
    simp only [resV] at h ⊢
    split at h
    · exact resV_mono hk r _ h
    · exact h.elim
/-- A FUNCTION'S CONTRACT, from what its body comes to. -/
theorem meets_w {f : Nat} {fn : Func} {body : Code} {args : List V} {v : V} {H1 : Heap} (hf : P.funcs[f]? = some fn) (hb : fn.body = some body) (hname : fbody P f = true)
    (hok : okc fn.ntmps body = true) (hnt : args.length ≤ fn.ntmps) (d : Nat) (σ : List Nat)
    (h : cx P 0 body (argE 0 args) [] (retK P fn.results.toList (finw d σ v H1))) : Meets P f args v H1 := by
  refine ⟨hname, fun w I hI us hsz hus => calls_of_wp hf hb ?_⟩
  have hs : SR ⟨⟨w, I, []⟩, fun _ => False, fn.ntmps⟩ ⟨w, I, []⟩ [] :=
    ⟨⟨rfl, rfl, rfl, Nat.le_refl _, fun _ _ _ => rfl⟩, Le.refl _, rfl, fun r b l h => by simp at h, fun r r' x x' b m m' h => by simp at h, hI, fun b h => .inl h⟩
  have he : ER ⟨w, I, []⟩ (argE 0 args) { tmps := us ++ Array.replicate (fn.ntmps - us.size) undef, defers := [] } := argE_ER hus
  have ha : AO ⟨⟨w, I, []⟩, fun _ => False, fn.ntmps⟩ { tmps := us ++ Array.replicate (fn.ntmps - us.size) undef, defers := [] } := ⟨rfl, by simp; omega⟩
  have hw := h ⟨⟨w, I, []⟩, fun _ => False, fn.ntmps⟩ ⟨w, I, []⟩ _ (Nat.le_refl _) hs he ha hok
  refine wp_mono hw fun e a' w' hq => ?_
  have key : ∀ c E H, SR ⟨⟨w, I, []⟩, fun _ => False, fn.ntmps⟩ c H → ER c E a' → (resV P E H fn.results.toList [] fun vs => finw d σ v H1 (one vs) H) →
      ∃ u, (results fn a'.tmps).run P c.w = .ok u c.w ∧ ∃ c' u', Ending.returned u = .returned u' ∧ c'.w = c.w ∧ SR ⟨⟨w, I, []⟩, fun _ => False, 0⟩ c' H1 ∧ VR c' v u' := by
    intro c E H h1 h2 h3
    obtain ⟨x, u, k1, k2, k3⟩ := results_ok (K := finw d σ v H1) h1 h2 h3
    obtain ⟨f1, f2, f3, f4, f5⟩ := k3
    rw [hlen_eq] at f1
    obtain ⟨s1, s2⟩ := h1.fz rfl (fun _ h => h) f1 f2
    have s3 := VR_wk _ _ _ f4 (s2 x u f3 k2)
    have s1 := s1.wk f5
    exact ⟨u, k1, c.fz σ H, u, rfl, rfl, ⟨⟨s1.fr.os, s1.fr.tape, s1.fr.output, s1.fr.size, s1.fr.block⟩, s1.le, s1.len, s1.blk, s1.inj, s1.imm, s1.old⟩, s3⟩
  cases e with
  | normal =>
    obtain ⟨c, E, H, rfl, h1, h2, h3, h4⟩ := hq
    obtain ⟨u, k1, k2⟩ := key c E H h1 h2 h4
    exact ⟨h3.defers, u, k1, k2⟩
  | ret =>
    obtain ⟨c, E, H, rfl, h1, h2, h3, h4⟩ := hq
    obtain ⟨u, k1, k2⟩ := key c E H h1 h2 h4
    exact ⟨h3.defers, u, k1, k2⟩
  | exit i => obtain ⟨c, E, H, rfl, h1, h2, h3, h4⟩ := hq; exact h4.elim
  | goto l => exact hq.elim
  | panic ch => exact hq.elim
  | outgrown => exact hq.elim
/-- what a loop's head says, a state says, too: of some first blocks -/
def hprew (n : Nat) : Heap → Heap → Prop
  | [], _ => True
  | b' :: H', l => (match l with | b :: H => wkB b b' ∧ ltb n b' ∧ hprew n H' H | [] => False)
def subEw (n : Nat) : Env → Env → Prop
  | [], _ => True
  | e :: r, E => wk (evt E [] e.t) e.v ∧ e.p = [] ∧ ltr n e.v = true ∧ subEw n r E
def subw (E' : Env) (H' : Heap) (E : Env) (H : Heap) : Prop := subEw (hlen H') E' E ∧ hprew (hlen H') H' H
theorem hprew_split {n : Nat} : ∀ {H' H : Heap}, hprew n H' H → ∃ H2, wkH H H2 ∧ hpre n H' H2
  | [], H, _ => ⟨H, wkH_refl H, trivial⟩
  | b' :: H', [], h => h.elim
  | b' :: H', b :: H, h => by
    obtain ⟨h1, h2, h3⟩ := h
    obtain ⟨H2, k1, k2⟩ := hprew_split h3
    exact ⟨b' :: H2, ⟨h1, k1⟩, rfl, h2, k2⟩
theorem subEw_wkE {n : Nat} {E' E : Env} (h : subEw n E' E) : wkE E' E := by
  induction E' with
  | nil => trivial
  | cons e r ih => exact ⟨h.1, h.2.1, ih h.2.2.2⟩
/-- an environment of values with blocks ahead of the n-th, alone, is kept by a cut -/
theorem ER_cutw {c : Ctx} {n : Nat} {E' E : Env} {a : Act} (hE : ER c E a) (h : subEw n E' E) : ER (c.cut n) E' a := by
  intro t
  have key : (get E' t).2.1 = [] ∧ VR (c.cut n) (get E' t).2.2 (tmpOf a t) := by
    induction E' with
    | nil => exact ⟨rfl, by simp [get, VR]⟩
    | cons e r ih =>
      obtain ⟨h1, h2, h3, h4⟩ := h
      rw [get_cons]
      by_cases he : e.t = t
      · rw [if_pos he]
        subst he
        exact ⟨h2, VR_cut _ _ h3 (VR_wk _ _ _ h1 (evt_top hE _))⟩
      · rw [if_neg he]
        exact ih h4
  rw [key.1]
  exact ⟨fun _ => key.2, fun h => absurd trivial h⟩
theorem cx_subw {code : Code} {E E' : Env} {H H' : Heap} {K : X → Env → Heap → Prop} (hs : subw E' H' E H) (hn : n ≤ hlen H') (h : cx P n code E' H' K) : cx P n code E H K :=
  fun F c a hF hsr he ha hok => by
    rw [hlen_eq] at hn
    obtain ⟨H2, k1, k2⟩ := hprew_split hs.2
    have h1 := (hsr.wk k1).cut (Nat.le_trans hF hn) k2
    have h2 := ER_cutw he hs.1
    rw [hlen_eq] at h2
    exact h F (c.cut H'.length) a hF h1 h2 ha hok
/-- what a round of a loop comes to -/
def rndK {σ : Type} (inv : σ → Env) (hv : σ → Heap) (μ : σ → Nat) (s : σ) (K : X → Env → Heap → Prop) : X → Env → Heap → Prop
  | .normal, E, H => ∃ s', μ s' < μ s ∧ subw (inv s') (hv s') E H
  | .exit i, E, H => K (.exit i) E H
  | .ret, E, H => K .ret E H
/-- a loop, by what holds at each round's head -/
theorem cx_loopw {σ : Type} (inv : σ → Env) (hv : σ → Heap) (μ : σ → Nat) {b : Code} (hn : ∀ s, n ≤ hlen (hv s))
    (s : σ) (h0 : subw (inv s) (hv s) E H)
    (round : ∀ s, cx P n b (inv s) (hv s) (rndK inv hv μ s K)) : cx P n (.loop b) E H K := by
  refine cx_subw h0 (hn s) fun F c a hF hs he ha hok => ?_
  refine wp_loop_ghost (fun m a' w' => ∃ s c', μ s = m ∧ c'.w = w' ∧ SR F c' (hv s) ∧ ER c' (inv s) a' ∧ AO F a') (μ s) ⟨s, c, rfl, rfl, hs, he, ha⟩ ?_
  rintro m a' w' ⟨s, c', rfl, rfl, hs, he, ha⟩
  refine wp_mono (round s F c' a' hF hs he ha hok) fun e a2 w2 hq => ?_
  cases e with
  | normal =>
    obtain ⟨c2, E2, H2, rfl, h1, h2, h3, s', hlt, hsub⟩ := hq
    obtain ⟨H3, k1, k2⟩ := hprew_split hsub.2
    refine ⟨μ s', hlt, s', c2.cut (hv s').length, rfl, rfl, ?_, ?_, h3⟩
    · have := hn s'
      rw [hlen_eq] at this
      exact (h1.wk k1).cut (Nat.le_trans hF this) k2
    · have := ER_cutw h2 hsub.1
      rw [hlen_eq] at this
      exact this
  | exit i => obtain ⟨c', E', H', h0, h1, h2, h3, h4⟩ := hq; exact ⟨c', E', H', h0, h1, h2, h3, h4⟩
  | ret => obtain ⟨c', E', H', h0, h1, h2, h3, h4⟩ := hq; exact ⟨c', E', H', h0, h1, h2, h3, h4⟩
  | goto l => exact hq.elim
  | panic ch => exact hq.elim
  | outgrown => exact hq.elim
/-- where two ways meet: what both come to -/
theorem cx_joinw {a b : Code} (E2 : Env) (H2 : Heap) (h : cx P n a E H fun x E' H' => (match x with
    | .normal => wkE E2 E' ∧ wkH H' H2
    | x => K x E' H')) (hK : cx P n b E2 H2 K) : cx P n (.seq a b) E H K := by
  refine cx_seq ?_
  intro F c ac hn hs he ha hok
  refine wp_mono (h F c ac hn hs he ha hok) fun e a' w' hq => ?_
  cases e with
  | normal =>
    obtain ⟨c', E', H', h0, h1, h2, h3, h4, h5⟩ := hq
    exact ⟨c', E2, H2, h0, h1.wk h5, ER_wk h2 h4, h3, hK⟩
  | exit i => obtain ⟨c', E', H', h0, h1, h2, h3, h4⟩ := hq; exact ⟨c', E', H', h0, h1, h2, h3, h4⟩
  | ret => obtain ⟨c', E', H', h0, h1, h2, h3, h4⟩ := hq; exact ⟨c', E', H', h0, h1, h2, h3, h4⟩
  | goto l => exact hq.elim
  | panic ch => exact hq.elim
  | outgrown => exact hq.elim
/-- a test whose value is known by name -/
theorem cx_if {c : Operand} {t e : Code} (b : Bool) (hb : ev (clean E) [] c = .bool b) (h1 : b = true → cx P n t E H K) (h2 : b = false → cx P n e E H K) : cx P n (.cond c t e) E H K :=
  cx_cond (by rw [hb]; exact ⟨h1, h2⟩)
end
end Go.VM
end
section
set_option linter.unusedVariables false
set_option linter.unusedSimpArgs false
namespace Go.VM
/-! ### Calls that write blocks of their caller's: a contract over these blocks alone -/
section
variable (g : Nat → Option Nat)
mutual
/-- blocks under other numbers; what has none is not known -/
def rnV : V → V
  | .own nl r e off n t => (match g r with | some i => .own nl i e off n t | none => .bad)
  | .ptr r off => (match g r with | some i => .ptr i off | none => .bad)
  | .eptr r e i off => (match g r with | some j => .eptr j e i off | none => .bad)
  | .agg cs => .agg (rnVs cs)
  | .tup cs => .tup (rnVs cs)
  | .fn f a b => .fn f (rnVs a) (rnVs b)
  | v => v
def rnVs : List V → List V
  | [] => []
  | v :: vs => rnV v :: rnVs vs
end
def rnB : Blk → Blk
  | .box cs => .box (rnVs g cs)
  | .arr e n f => .arr e n fun i => rnVs g (f i)
  | .dead => .dead
def rnH : Heap → Heap
  | [] => []
  | b :: H => rnB g b :: rnH H
end
theorem rnVs_length (g : Nat → Option Nat) (vs : List V) : (rnVs g vs).length = vs.length := by
  induction vs with
  | nil => simp [rnVs]
  | cons v vs ih => simp [rnVs, ih]
theorem rnH_get (g : Nat → Option Nat) (H : Heap) (r : Nat) : (rnH g H)[r]? = (H[r]?).map (rnB g) := by
  induction H generalizing r with
  | nil => simp [rnH]
  | cons b H ih => cases r <;> simp [rnH, ih]
theorem rnH_length (g : Nat → Option Nat) (H : Heap) : (rnH g H).length = H.length := by
  induction H with
  | nil => simp [rnH]
  | cons b H ih => simp [rnH, ih]
theorem Live_rn {g : Nat → Option Nat} {x : Blk} : Live (rnB g x) ↔ Live x := by cases x <;> simp [rnB, Live]
section
variable {c : Ctx} {g : Nat → Option Nat} {I : Nat → Prop} {L : List (Option (Nat × Nat))}
mutual
theorem VR_rn (hI : ∀ b, c.I b → I b) (hL : ∀ (r i : Nat) (l : Option (Nat × Nat)), g r = some i → c.locs[r]? = some l → L[i]? = some l) : ∀ (v : V) (u : Value), VR c v u → VR ⟨c.w, I, L⟩ (rnV g v) u
  | .bad, _, _ => by simp only [rnV, VR]
  | .nil, _, h => by simpa only [rnV, VR] using h
  | .bool _, _, h => by simpa only [rnV, VR] using h
  | .int _ _, _, h => by simpa only [rnV, VR] using h
  | .str _, _, h => by simpa only [rnV, VR] using h
  | .lst nl t e m f, u, h => by
    simp only [rnV]
    exact VR_mono (c := ⟨c.w, c.I, []⟩) (c' := ⟨c.w, I, L⟩) ⟨fun r x e => by simp at e, hI, fun _ _ => rfl⟩ _ _ (by simpa only [VR] using h)
  | .iptr cs off, u, h => by
    simp only [rnV]
    exact VR_mono (c := ⟨c.w, c.I, []⟩) (c' := ⟨c.w, I, L⟩) ⟨fun r x e => by simp at e, hI, fun _ _ => rfl⟩ _ _ (by simpa only [VR] using h)
  | .own nl r e off n t, u, h => by
    simp only [rnV]
    cases hg : g r with
    | none => simp only [VR]
    | some i =>
      simp only [VR] at h ⊢
      obtain ⟨A, cap, e1, e2, e3, e4, e5⟩ := h
      refine ⟨A, cap, e1, e2, e3, e4, ?_⟩
      cases hr : c.locs[r]? with
      | none => rw [hr] at e5; exact e5.elim
      | some l => rw [hL r i l hg hr]; rw [hr] at e5; exact e5
  | .ptr r off, u, h => by
    simp only [rnV]
    cases hg : g r with
    | none => simp only [VR]
    | some i =>
      simp only [VR] at h ⊢
      cases hr : c.locs[r]? with
      | none => rw [hr] at h; exact h.elim
      | some l => rw [hL r i l hg hr]; rw [hr] at h; exact h
  | .eptr r e j off, u, h => by
    simp only [rnV]
    cases hg : g r with
    | none => simp only [VR]
    | some i =>
      simp only [VR] at h ⊢
      cases hr : c.locs[r]? with
      | none => rw [hr] at h; exact h.elim
      | some l => rw [hL r i l hg hr]; rw [hr] at h; exact h
  | .agg cs, u, h => by
    simp only [rnV, VR] at h ⊢
    obtain ⟨us, e1, e2, e0, e3⟩ := h
    exact ⟨us, e1, by rw [rnVs_length]; exact e2, by rw [rnVs_length]; exact e0, VRs_rn hI hL cs _ e3⟩
  | .tup cs, u, h => by
    simp only [rnV, VR] at h ⊢
    obtain ⟨us, e1, e2, e3⟩ := h
    exact ⟨us, e1, by rw [rnVs_length]; exact e2, VRs_rn hI hL cs _ e3⟩
  | .fn f a b, u, h => by
    simp only [rnV, VR] at h ⊢
    obtain ⟨us, ws, e1, e2, e3, e4, e5⟩ := h
    exact ⟨us, ws, e1, by rw [rnVs_length]; exact e2, by rw [rnVs_length]; exact e3, VRs_rn hI hL a _ e4, VRs_rn hI hL b _ e5⟩
theorem VRs_rn (hI : ∀ b, c.I b → I b) (hL : ∀ (r i : Nat) (l : Option (Nat × Nat)), g r = some i → c.locs[r]? = some l → L[i]? = some l) : ∀ (vs : List V) (gt : Nat → Option Value), VRs c vs gt → VRs ⟨c.w, I, L⟩ (rnVs g vs) gt
  | [], _, _ => by simp only [rnVs, VRs]
  | v :: vs, gt, h => by
    simp only [rnVs, VRs] at h ⊢
    obtain ⟨⟨u, e1, e2⟩, e3⟩ := h
    exact ⟨⟨u, e1, VR_rn hI hL v u e2⟩, VRs_rn hI hL vs _ e3⟩
end
theorem Cont_rn (hI : ∀ b, c.I b → I b) (hL : ∀ (r i : Nat) (l : Option (Nat × Nat)), g r = some i → c.locs[r]? = some l → L[i]? = some l) {C : Array Value} {cap : Nat} {x : Blk} (h : Cont c C cap x) : Cont ⟨c.w, I, L⟩ C cap (rnB g x) := by
  cases x with
  | box cs => exact ⟨by rw [rnVs_length]; exact h.1, by rw [rnVs_length]; exact h.2.1, VRs_rn hI hL _ _ h.2.2⟩
  | arr e m f => exact ⟨h.1, h.2.1, fun i hi => ⟨by rw [rnVs_length]; exact (h.2.2 i hi).1, (h.2.2 i hi).2.1, VRs_rn hI hL _ _ (h.2.2 i hi).2.2⟩⟩
  | dead => trivial
end
/-- some blocks alone, in this order -/
def selH (τ : List Nat) (H : Heap) : List Nat → Heap
  | [] => []
  | r :: l => rnB (idx τ) (hget H r) :: selH τ H l
abbrev Ctx.sel (c : Ctx) (τ : List Nat) : Ctx := ⟨c.w, c.I, τ.map fun r => (match c.locs[r]? with | some l => l | none => none)⟩
theorem selH_get {τ : List Nat} {H : Heap} (l : List Nat) (i : Nat) : (selH τ H l)[i]? = (l[i]?).map fun r => rnB (idx τ) (hget H r) := by
  induction l generalizing i with
  | nil => simp [selH]
  | cons r l ih => cases i <;> simp [selH, ih]
theorem selH_length {τ : List Nat} {H : Heap} (l : List Nat) : (selH τ H l).length = l.length := by
  induction l with
  | nil => simp [selH]
  | cons r l ih => simp [selH, ih]
theorem idx_get {σ : List Nat} (hnd : σ.Nodup) {i r : Nat} (h : σ[i]? = some r) : idx σ r = some i := by
  cases hi : idx σ r with
  | none => exact absurd (List.mem_of_getElem? h) (idx_none hi)
  | some j =>
    have := idx_some hi
    rw [(List.getElem?_inj (List.getElem?_eq_some_iff.1 this).1 hnd).1 (this.trans h.symm)]
section
variable {F : Fr} {c : Ctx} {H : Heap} {τ : List Nat}
theorem sel_loc (hs : SR F c H) (hτ : okσ H.length τ = true) : (∀ (i : Nat) (l : Option (Nat × Nat)), (c.sel τ).locs[i]? = some l → ∃ r, τ[i]? = some r ∧ c.locs[r]? = some l) ∧
    (∀ (r i : Nat) (l : Option (Nat × Nat)), idx τ r = some i → c.locs[r]? = some l → (c.sel τ).locs[i]? = some l) := by
  obtain ⟨hnd, hlt⟩ := okσ_spec hτ
  constructor
  · intro i l hl
    simp only [List.getElem?_map, Option.map_eq_some_iff] at hl
    obtain ⟨r, hr, hl⟩ := hl
    refine ⟨r, hr, ?_⟩
    have : r < c.locs.length := by rw [hs.len]; exact hlt r (List.mem_of_getElem? hr)
    rw [List.getElem?_eq_getElem this] at hl ⊢
    simp only at hl
    rw [hl]
  · intro r i l hi hl
    simp only [List.getElem?_map, idx_some hi, Option.map_some, hl]
/-- where the call began, of some blocks alone -/
theorem SR.sel (hs : SR F c H) (hτ : okσ H.length τ = true) (h0 : ∀ (r : Nat) (x : Option (Nat × Nat)), F.c0.locs[r]? = some x → (c.sel τ).locs[r]? = some x) : SR F (c.sel τ) (selH τ H τ) := by
  obtain ⟨hnd, hlt⟩ := okσ_spec hτ
  obtain ⟨hl1, hl2⟩ := sel_loc hs hτ
  refine ⟨hs.fr, ⟨h0, hs.le.I, hs.le.heap⟩, by simp [selH_length], fun i x l hi hl => ?_, fun i i' x x' b m m' hi hi' hx hx' hl hl' => ?_, hs.imm, hs.old⟩
  · rw [selH_get] at hi
    obtain ⟨r, hr, hlr⟩ := hl1 i l hl
    rw [hr] at hi
    simp only [Option.map_some, Option.some.injEq] at hi
    subst hi
    obtain ⟨g1, g2⟩ := hs.get hlr
    cases l with
    | none =>
      cases hx : hget H r with
      | box cs => rw [hx] at g2; exact g2.elim
      | arr e n f => rw [hx] at g2; exact g2
      | dead => trivial
    | some l =>
      obtain ⟨b, m⟩ := l
      intro hlive
      obtain ⟨C, el, k1, k2, k3, k4⟩ := g2 (Live_rn.1 hlive)
      exact ⟨C, el, k1, Cont_rn (fun _ h => h) hl2 k2, k3, k4⟩
  · obtain ⟨r, hr, hlr⟩ := hl1 i _ hl
    obtain ⟨r', hr', hlr'⟩ := hl1 i' _ hl'
    rw [selH_get, hr] at hi
    rw [selH_get, hr'] at hi'
    simp only [Option.map_some, Option.some.injEq] at hi hi'
    subst hi hi'
    have := hs.inj r r' _ _ b m m' (hs.get hlr).1 (hs.get hlr').1 (Live_rn.1 hx) (Live_rn.1 hx') hlr hlr'
    subst this
    exact (List.getElem?_inj (List.getElem?_eq_some_iff.1 hr).1 hnd).1 (hr.trans hr'.symm)
/-- the frame of a call that may write these blocks -/
abbrev Fr.sel (c : Ctx) (H : Heap) (τ : List Nat) : Fr := ⟨c.sel τ, fun b => ∃ r m x, r ∈ τ ∧ H[r]? = some x ∧ Live x ∧ c.locs[r]? = some (some (b, m)), 0⟩
theorem SR.sel_here (hs : SR F c H) (hτ : okσ H.length τ = true) : SR (Fr.sel c H τ) (c.sel τ) (selH τ H τ) := by
  obtain ⟨hnd, hlt⟩ := okσ_spec hτ
  obtain ⟨hl1, hl2⟩ := sel_loc hs hτ
  refine ⟨⟨rfl, rfl, rfl, Nat.le_refl _, fun _ _ _ => rfl⟩, Le.refl _, by simp [selH_length], fun i x l hi hl => ?_, fun i i' x x' b m m' hi hi' hx hx' hl hl' => ?_, hs.imm, fun b h => .inl h⟩
  · rw [selH_get] at hi
    obtain ⟨r, hr, hlr⟩ := hl1 i l hl
    rw [hr] at hi
    simp only [Option.map_some, Option.some.injEq] at hi
    subst hi
    obtain ⟨g1, g2⟩ := hs.get hlr
    cases l with
    | none =>
      cases hx : hget H r with
      | box cs => rw [hx] at g2; exact g2.elim
      | arr e n f => rw [hx] at g2; exact g2
      | dead => trivial
    | some l =>
      obtain ⟨b, m⟩ := l
      intro hlive
      obtain ⟨C, el, k1, k2, k3, k4⟩ := g2 (Live_rn.1 hlive)
      exact ⟨C, el, k1, Cont_rn (fun _ h => h) hl2 k2, k3, .inr ⟨r, m, _, List.mem_of_getElem? hr, g1, Live_rn.1 hlive, hlr⟩⟩
  · obtain ⟨r, hr, hlr⟩ := hl1 i _ hl
    obtain ⟨r', hr', hlr'⟩ := hl1 i' _ hl'
    rw [selH_get, hr] at hi
    rw [selH_get, hr'] at hi'
    simp only [Option.map_some, Option.some.injEq] at hi hi'
    subst hi hi'
    have := hs.inj r r' _ _ b m m' (hs.get hlr).1 (hs.get hlr').1 (Live_rn.1 hx) (Live_rn.1 hx') hlr hlr'
    subst this
    exact (List.getElem?_inj (List.getElem?_eq_some_iff.1 hr).1 hnd).1 (hr.trans hr'.symm)
end
/-- blocks back under the caller's numbers: the first ones are these, others come behind -/
def bkf : List Nat → Nat → Nat → Nat
  | [], n, i => n + i
  | r :: _, _, 0 => r
  | _ :: ρ, n, i + 1 => bkf ρ n i
/-- the caller's blocks behind the call -/
def updH : Heap → List Nat → Heap → Heap
  | H, [], l => happ H l
  | H, r :: ρ, l => (match l with | b :: l => updH (hset H r b) ρ l | [] => H)
theorem bkf_lt : ∀ (ρ : List Nat) (n i : Nat), i < ρ.length → ρ[i]? = some (bkf ρ n i)
  | [], _, _, h => by simp at h
  | r :: ρ, n, 0, _ => by simp [bkf]
  | r :: ρ, n, i + 1, h => by simpa [bkf] using bkf_lt ρ n i (by simpa using h)
theorem bkf_ge : ∀ (ρ : List Nat) (n i : Nat), ρ.length ≤ i → bkf ρ n i = n + (i - ρ.length)
  | [], _, _, _ => by simp [bkf]
  | r :: ρ, n, 0, h => by simp at h
  | r :: ρ, n, i + 1, h => by
    have := bkf_ge ρ n i (by simpa using h)
    simp only [bkf, this, List.length_cons]
    omega
theorem updH_spec : ∀ (ρ : List Nat) (H l : Heap), ρ.Nodup → (∀ r ∈ ρ, r < H.length) → ρ.length ≤ l.length →
    (updH H ρ l).length = H.length + (l.length - ρ.length) ∧ (∀ (i r : Nat), ρ[i]? = some r → (updH H ρ l)[r]? = l[i]?) ∧ (∀ r : Nat, r < H.length → r ∉ ρ → (updH H ρ l)[r]? = H[r]?) ∧
    (∀ r : Nat, H.length ≤ r → (updH H ρ l)[r]? = l[ρ.length + (r - H.length)]?)
  | [], H, l, _, _, _ => by
    simp only [updH, happ_eq]
    refine ⟨by simp, fun i r h => by simp at h, fun r hr _ => List.getElem?_append_left hr, fun r hr => ?_⟩
    rw [List.getElem?_append_right hr]
    simp
  | r0 :: ρ, H, [], _, _, h => by simp at h
  | r0 :: ρ, H, b :: l, hnd, hlt, hle => by
    obtain ⟨h1, h2⟩ := List.nodup_cons.1 hnd
    have hr0 := hlt r0 (by simp)
    obtain ⟨k1, k2, k3, k4⟩ := updH_spec ρ (hset H r0 b) l h2 (fun r hr => by rw [hset_length]; exact hlt r (by simp [hr])) (by simpa using hle)
    rw [hset_length] at k1 k3 k4
    simp only [updH]
    refine ⟨by rw [k1]; simp, fun i r hi => ?_, fun r hr hn => ?_, fun r hr => ?_⟩
    · cases i with
      | zero =>
        simp only [List.getElem?_cons_zero, Option.some.injEq] at hi
        subst hi
        rw [k3 _ hr0 h1, hset_get, if_pos ⟨rfl, hr0⟩]
        simp
      | succ i => simpa using k2 i r (by simpa using hi)
    · simp only [List.mem_cons, not_or] at hn
      rw [k3 r hr hn.2, hset_get, if_neg (by rintro ⟨rfl, _⟩; exact hn.1 rfl)]
    · rw [k4 r hr]
      have : (r0 :: ρ).length + (r - H.length) = ρ.length + (r - H.length) + 1 := by simp; omega
      rw [this, List.getElem?_cons_succ]
section
variable {F : Fr} {c : Ctx} {H : Heap} {ρ : List Nat}
/-- THE STATE BEHIND A CALL THAT MAY WRITE THESE BLOCKS. -/
theorem SR.frame (hs : SR F c H) (hρ : okσ H.length ρ = true) {c3 : Ctx} {H1 : Heap} (h3 : SR (Fr.sel c H ρ) c3 H1) (hle : ρ.length ≤ H1.length) :
    SR F ⟨c3.w, c3.I, c.locs ++ c3.locs.drop ρ.length⟩ (updH H ρ (rnH (fun i => some (bkf ρ H.length i)) H1)) ∧ Le c ⟨c3.w, c3.I, c.locs ++ c3.locs.drop ρ.length⟩ ∧
    ∀ v u, VR c3 v u → VR ⟨c3.w, c3.I, c.locs ++ c3.locs.drop ρ.length⟩ (rnV (fun i => some (bkf ρ H.length i)) v) u := by
  obtain ⟨hnd, hlt⟩ := okσ_spec hρ
  have hlen := hs.len
  have hlen3 := h3.len
  obtain ⟨u1, u2, u3, u4⟩ := updH_spec ρ H (rnH (fun i => some (bkf ρ H.length i)) H1) hnd hlt (by rw [rnH_length]; exact hle)
  -- places of the blocks
  have hl2 := (sel_loc hs hρ).2
  have hloc3 : ∀ (i r : Nat) (l : Option (Nat × Nat)), ρ[i]? = some r → c.locs[r]? = some l → c3.locs[i]? = some l := fun i r l hi hl => h3.le.locs i l (hl2 r i l (idx_get hnd hi) hl)
  have hlocs : ∀ (i : Nat) (l : Option (Nat × Nat)), c3.locs[i]? = some l → (c.locs ++ c3.locs.drop ρ.length)[bkf ρ H.length i]? = some l := by
    intro i l hl
    by_cases hi : i < ρ.length
    · have hr := bkf_lt ρ H.length i hi
      have hrl := hlt _ (List.mem_of_getElem? hr)
      rw [List.getElem?_append_left (by omega)]
      have h1 : c.locs[bkf ρ H.length i]? = some (c.locs[bkf ρ H.length i]'(by omega)) := List.getElem?_eq_getElem (by omega)
      have := hloc3 i _ _ hr h1
      rw [hl] at this
      rw [h1, ← Option.some.inj this]
    · rw [bkf_ge ρ _ i (by omega), List.getElem?_append_right (by omega), List.getElem?_drop]
      rw [show ρ.length + (H.length + (i - ρ.length) - c.locs.length) = i from by omega]
      exact hl
  have hbk : ∀ (r i : Nat) (l : Option (Nat × Nat)), (fun i => some (bkf ρ H.length i)) r = some i → c3.locs[r]? = some l → (c.locs ++ c3.locs.drop ρ.length)[i]? = some l := by
    intro r i l h hl
    simp only [Option.some.injEq] at h
    subst h
    exact hlocs r l hl
  -- blocks that were there
  have hX : ∀ b, (Fr.sel c H ρ).X b → ¬ c.I b ∧ Wr F b ∧ b < c.w.heap.size := by
    rintro b ⟨r, m, x, h1, h2, h3, h4⟩
    obtain ⟨C, el, k1, _, k3, k4⟩ := hs.blk r x _ h2 h4 h3
    exact ⟨k3, k4, (Array.getElem?_eq_some_iff.1 k1).1⟩
  have hsame : ∀ b, b < c.w.heap.size → ¬ (Fr.sel c H ρ).X b → c3.w.heap[b]? = c.w.heap[b]? := fun b hb hx => h3.fr.block b hb hx
  have hsz : c.w.heap.size ≤ c3.w.heap.size := h3.fr.size
  have hJ1 : ∀ b, c3.I b → c.I b ∨ c.w.heap.size ≤ b := h3.old
  have hle' : Le c ⟨c3.w, c3.I, c.locs ++ c3.locs.drop ρ.length⟩ :=
    ⟨fun r x e => by rw [List.getElem?_append_left (List.getElem?_eq_some_iff.1 e).1]; exact e, h3.le.I, fun b hb => hsame b (hs.imm b hb) fun hx => (hX b hx).1 hb⟩
  have hWr : ∀ b, Wr (Fr.sel c H ρ) b → Wr F b := by
    rintro b (hb | hb)
    · exact .inl (Nat.le_trans hs.fr.size hb)
    · exact (hX b hb).2.1
  have key : ∀ (r : Nat) (y : Blk) (l : Option (Nat × Nat)), (updH H ρ (rnH (fun i => some (bkf ρ H.length i)) H1))[r]? = some y → (c.locs ++ c3.locs.drop ρ.length)[r]? = some l →
      (r ∉ ρ ∧ H[r]? = some y ∧ c.locs[r]? = some l) ∨ (∃ i x, r = bkf ρ H.length i ∧ H1[i]? = some x ∧ y = rnB (fun i => some (bkf ρ H.length i)) x ∧ c3.locs[i]? = some l) := by
    intro r y l hr hl
    by_cases hlt' : r < H.length
    · rw [List.getElem?_append_left (by omega)] at hl
      by_cases hm : r ∈ ρ
      · obtain ⟨i, hi, hri⟩ := List.getElem_of_mem hm
        have hi' : ρ[i]? = some r := by rw [List.getElem?_eq_getElem hi, hri]
        rw [u2 i r hi', rnH_get] at hr
        cases hx : H1[i]? with
        | none => rw [hx] at hr; cases hr
        | some x =>
          rw [hx] at hr
          simp only [Option.map_some, Option.some.injEq] at hr
          have hb := bkf_lt ρ H.length i hi
          rw [hi'] at hb
          exact .inr ⟨i, x, Option.some.inj hb, hx, hr.symm, hloc3 i r l hi' hl⟩
      · rw [u3 r hlt' hm] at hr
        exact .inl ⟨hm, hr, hl⟩
    · rw [u4 r (by omega), rnH_get] at hr
      rw [List.getElem?_append_right (by omega), List.getElem?_drop] at hl
      cases hx : H1[ρ.length + (r - H.length)]? with
      | none => rw [hx] at hr; cases hr
      | some x =>
        rw [hx] at hr
        simp only [Option.map_some, Option.some.injEq] at hr
        refine .inr ⟨ρ.length + (r - H.length), x, ?_, hx, hr.symm, ?_⟩
        · rw [bkf_ge _ _ _ (by omega)]; omega
        · rw [hlen] at hl; exact hl
  refine ⟨⟨?_, hs.le.trans hle', ?_, ?_, ?_, h3.imm, ?_⟩, hle', fun v u h => VR_rn (fun _ h => h) hbk v u h⟩
  · refine ⟨h3.fr.os.trans hs.fr.os, h3.fr.tape.trans hs.fr.tape, h3.fr.output.trans hs.fr.output, Nat.le_trans hs.fr.size hsz, fun k hk hx => ?_⟩
    show c3.w.heap[k]? = _
    rw [hsame k (Nat.lt_of_lt_of_le hk hs.fr.size) fun hx' => ?_]
    · exact hs.fr.block k hk hx
    · rcases (hX k hx').2.1 with h | h
      · omega
      · exact hx h
  · rw [u1, rnH_length]
    simp [hlen, hlen3]
  · intro r y l hr hl
    rcases key r y l hr hl with ⟨a0, a1, a2⟩ | ⟨i, x, rfl, a2, rfl, a4⟩
    · refine (hs.blk r y l a1 a2).mono hle' fun b m e hlive => ?_
      subst e
      obtain ⟨C', el', g1, _, g3, _⟩ := hs.blk r y _ a1 a2 hlive
      have hb : b < c.w.heap.size := (Array.getElem?_eq_some_iff.1 g1).1
      refine ⟨hsame b hb ?_, fun hj => ?_⟩
      · rintro ⟨r', m', x', h1, h2, h4, h5⟩
        have := hs.inj r r' y x' b m m' a1 h2 hlive h4 a2 h5
        subst this
        exact a0 h1
      · rcases hJ1 b hj with h | h
        · exact g3 h
        · omega
    · have hb := h3.blk i x l a2 a4
      cases l with
      | none => cases x <;> first | exact hb | exact hb.elim
      | some l =>
        obtain ⟨b, m⟩ := l
        intro hlive
        obtain ⟨C, el, g1, g2, g3, g4⟩ := hb (Live_rn.1 hlive)
        exact ⟨C, el, g1, Cont_rn (c := c3) (I := c3.I) (fun _ h => h) hbk g2, g3, hWr b g4⟩
  · intro r r' y y' b m m' hr hr' hy hy' hl hl'
    have hnew : ∀ (i : Nat) (x : Blk), H1[i]? = some x → Live x → c3.locs[i]? = some (some (b, m)) → ∀ (q : Nat) (z : Blk) (m2 : Nat), q ∉ ρ → H[q]? = some z → Live z → c.locs[q]? = some (some (b, m2)) → False := by
      intro i x hx hlx hlc q z m2 hq hz hlz hlq
      obtain ⟨C, el, k1, _, _, _⟩ := hs.blk q z _ hz hlq hlz
      have hbs : b < c.w.heap.size := (Array.getElem?_eq_some_iff.1 k1).1
      obtain ⟨C', el', _, _, _, h4 | h4⟩ := h3.blk i x _ hx hlc hlx
      · have : c.w.heap.size ≤ b := h4
        omega
      · obtain ⟨r', m', x', h1, h2, h5, h6⟩ := h4
        have := hs.inj q r' z x' b m2 m' hz h2 hlz h5 hlq h6
        subst this
        exact hq h1
    have hnew' : ∀ (i : Nat) (x : Blk), H1[i]? = some x → Live x → c3.locs[i]? = some (some (b, m')) → ∀ (q : Nat) (z : Blk) (m2 : Nat), q ∉ ρ → H[q]? = some z → Live z → c.locs[q]? = some (some (b, m2)) → False := by
      intro i x hx hlx hlc q z m2 hq hz hlz hlq
      obtain ⟨C, el, k1, _, _, _⟩ := hs.blk q z _ hz hlq hlz
      have hbs : b < c.w.heap.size := (Array.getElem?_eq_some_iff.1 k1).1
      obtain ⟨C', el', _, _, _, h4 | h4⟩ := h3.blk i x _ hx hlc hlx
      · have : c.w.heap.size ≤ b := h4
        omega
      · obtain ⟨r', m', x', h1, h2, h5, h6⟩ := h4
        have := hs.inj q r' z x' b m2 m' hz h2 hlz h5 hlq h6
        subst this
        exact hq h1
    rcases key r y _ hr hl with ⟨a0, a1, a2⟩ | ⟨i, x, rfl, a2, rfl, a4⟩ <;> rcases key r' y' _ hr' hl' with ⟨b0, b1, b2⟩ | ⟨i', x', rfl, b2, rfl, b4⟩
    · exact hs.inj r r' y y' b m m' a1 b1 hy hy' a2 b2
    · exact (hnew' i' x' b2 (Live_rn.1 hy') b4 r y m a0 a1 hy a2).elim
    · exact (hnew i x a2 (Live_rn.1 hy) a4 r' y' m' b0 b1 hy' b2).elim
    · rw [h3.inj i i' x x' b m m' a2 b2 (Live_rn.1 hy) (Live_rn.1 hy') a4 b4]
  · intro b hb
    rcases hJ1 b hb with h | h
    · exact hs.old b h
    · exact .inr (Nat.le_trans hs.fr.size h)
end
/-- the first n numbers, in order, and others behind them -/
def preσ : Nat → Nat → List Nat → Bool
  | _, 0, _ => true
  | _, _ + 1, [] => false
  | k, n + 1, r :: l => band (Nat.beq r k) (preσ (k + 1) n l)
theorem preσ_get : ∀ (n k : Nat) (l : List Nat), preσ k n l = true → ∀ i, i < n → l[i]? = some (k + i)
  | 0, _, _, _, i, h => by omega
  | n + 1, _, [], h, _, _ => by simp [preσ] at h
  | n + 1, k, r :: l, h, i, hi => by
    simp only [preσ] at h
    obtain ⟨h1, h2⟩ := band_true h
    cases i with
    | zero => simp [beq_nat h1]
    | succ i =>
      have := preσ_get n (k + 1) l h2 i (by omega)
      simp only [List.getElem?_cons_succ, this]
      congr 1
      omega
/-- what a call over some blocks alone comes to: they, under their numbers, and others behind them (`τ`: which ones are kept) -/
def Ends (n : Nat) (v : V) (H1 : Heap) (x : V) (H : Heap) : Prop := ∃ τ, okσ (hlen H) τ = true ∧ preσ 0 n τ = true ∧ wk (rnV (idx τ) x) v ∧ wkH (selH τ H τ) H1
/-- THE CONTRACT OF A CALL THAT MAY WRITE BLOCKS OF ITS CALLER'S. -/
def Does (P : Program) (f : Nat) (args : List V) (H0 : Heap) (v : V) (H1 : Heap) : Prop := cw P f args H0 (Ends (hlen H0) v H1)
theorem wkH_length {H H' : Heap} (h : wkH H H') : H'.length = H.length := (wkH_get h).1
/-- a call by such a contract: `ρ` tells which blocks of the caller's are the contract's first ones -/
theorem cw_does {P : Program} {f : Nat} {args args' : List V} {H0 H1 H : Heap} {v : V} (h : Does P f args' H0 v H1) (ρ : List Nat) (hρ : okσ (hlen H) ρ = true)
    (ha : wks (rnVs (idx ρ) args) args') (hH : wkH (selH ρ H ρ) H0) {K : V → Heap → Prop} (hk : K (rnV (fun i => some (bkf ρ (hlen H) i)) v) (updH H ρ (rnH (fun i => some (bkf ρ (hlen H) i)) H1))) : cw P f args H K := by
  rw [hlen_eq] at hρ
  rw [hlen_eq] at hk
  refine ⟨h.1, fun F c hs us hsz hus => ?_⟩
  have h2 := (hs.sel_here hρ).wk hH
  have hl2 := (sel_loc hs hρ).2
  have hargs : VRs (c.sel ρ) args' fun j => us[j]? := VRs_wk _ _ _ ha (VRs_rn (c := c) (I := c.I) (L := (c.sel ρ).locs) (fun _ h => h) hl2 args _ hus)
  have hcall := h.2 _ _ h2 us (by rw [wks_length ha, rnVs_length]; exact hsz) hargs
  refine Calls.mono hcall ?_
  rintro e w' ⟨c', u, v', H', rfl, rfl, hle, h3, h4, τ, t1, t2, t3, t4⟩
  rw [hlen_eq] at t1
  have h0 : H0.length = ρ.length := by rw [wkH_length hH, selH_length]
  have hpre : ∀ (r : Nat) (x : Option (Nat × Nat)), (Fr.sel c H ρ).c0.locs[r]? = some x → (c'.sel τ).locs[r]? = some x := by
    intro r x hx
    have hr : r < H0.length := by
      rw [h0]
      have := (List.getElem?_eq_some_iff.1 hx).1
      simpa using this
    rw [hlen_eq] at t2
    have hτ := preσ_get _ _ _ t2 r hr
    have hx' : c'.locs[r]? = some x := hle.locs r x hx
    simp only [Nat.zero_add] at hτ
    simp only [List.getElem?_map, hτ, Option.map_some, hx']
  have h5 := (h3.sel t1 hpre).wk t4
  have h6 : VR (c'.sel τ) v u := VR_wk _ _ _ t3 (VR_rn (c := c') (I := c'.I) (L := (c'.sel τ).locs) (fun _ h => h) (sel_loc h3 t1).2 v' u h4)
  have hle1 : ρ.length ≤ H1.length := by
    rw [wkH_length t4, selH_length, ← h0]
    rw [hlen_eq] at t2
    rcases Nat.lt_or_ge τ.length H0.length with h | h
    · have := preσ_get _ _ _ t2 τ.length h
      simp at this
    · exact h
  obtain ⟨k1, k2, k3⟩ := hs.frame hρ h5 hle1
  exact ⟨⟨c'.w, c'.I, c.locs ++ (c'.sel τ).locs.drop ρ.length⟩, u, _, _, rfl, rfl, k2, k1, k3 v u h6, hk⟩
/-- such a contract, from a walk of the body -/
theorem does_cx {P : Program} {f : Nat} {fn : Func} {body : Code} {args : List V} {H0 : Heap} {v : V} {H1 : Heap} (hf : P.funcs[f]? = some fn) (hb : fn.body = some body) (hname : fbody P f = true)
    (hok : okc fn.ntmps body = true) (hnt : args.length ≤ fn.ntmps) (h : cx P (hlen H0) body (argE 0 args) H0 (retK P fn.results.toList (Ends (hlen H0) v H1))) : Does P f args H0 v H1 :=
  cw_cx hf hb hname hok hnt h
end Go.VM
end
