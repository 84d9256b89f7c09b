import Derived.Test.YtkcbjhjpepdkcaaVMd
import Derived.Laws.Strings
import Derived.Laws.Tables
import Derived.Laws.CopyRow
set_option linter.unusedVariables false
set_option linter.unusedSimpArgs false
set_option linter.unnecessarySimpa false
namespace Go.VM
section
variable {P : Program} {c : Ctx} {w : World}
theorem un_ok {op : UnOp} {x z : V} {u : Value} (hx : VR c x u) (h : (un op x).has z) : ∃ r, (Op.unary op u).run P w = .ok r w ∧ VR c z r := by
  unfold un at h
  split at h
  · simp only [R.has] at h; subst h; simp only [VR] at hx; subst hx; exact ⟨_, by simp [Op.unary]; rfl, by simp [VR]⟩
  · simp only [R.has] at h; subst h; simp only [VR] at hx; subst hx; exact ⟨_, by simp [Op.unary, Op.intArith]; rfl, by simp [VR]⟩
  · exact h.elim
theorem extract_ok {i : Nat} {x z : V} {u : Value} (hx : VR c x u) (h : (extractV x i).has z) : ∃ r, (Instr.extract u i).run P w = .ok r w ∧ VR c z r := by
  unfold extractV at h
  split at h
  · rename_i vs
    simp only [VR] at hx
    obtain ⟨us, rfl, hl, hs⟩ := hx
    cases hb : Nat.blt i (len vs) with
    | false => rw [hb] at h; exact h.elim
    | true =>
      rw [hb] at h
      simp only [cond, R.has] at h
      subst h
      have hi : i < vs.length := by rw [← len_eq]; exact Nat.blt_eq ▸ hb
      obtain ⟨r, hr, hv⟩ := VRs_get hs (nth_eq vs i hi)
      exact ⟨r, by simp [Instr.extract, hr], hv⟩
  · exact h.elim
theorem info_of_und {t : Nat} {d : TypeDesc} (h : P.underlying t = some d) : ∃ i, P.info? t = some i := by
  unfold Program.underlying at h
  cases hi : P.info? t with
  | none => rw [hi] at h; cases h
  | some i => exact ⟨i, rfl⟩
theorem run_sizeOf {t : Nat} {i : TypeInfo} (h : P.info? t = some i) : (sizeOf t).run P w = .ok (tsize P t) w := by
  simp [sizeOf, typeInfo, h, tsize]
theorem tfield_some {T f k t : Nat} (h : tfield P T f = some (k, t)) : ∃ fs fld, P.underlying T = some (.struct fs) ∧ fs[f]? = some fld ∧ fld.offset = k ∧ fld.type = t ∧ tsize P t ≠ 0 := by
  unfold tfield at h
  split at h
  · rename_i fs hfs
    split at h
    · rename_i fld hf
      split at h
      · cases h
      · rename_i h0
        cases h
        exact ⟨fs, fld, hfs, hf, rfl, rfl, h0⟩
    · cases h
  · cases h
theorem info_of_size {t : Nat} (h : tsize P t ≠ 0) : ∃ i, P.info? t = some i := by
  unfold tsize at h
  cases hi : P.info? t with
  | none => rw [hi] at h; exact absurd rfl h
  | some i => exact ⟨i, rfl⟩
theorem fieldAddr_ok {T f : Nat} {x z : V} {u : Value} (hx : VR c x u) (h : (fieldAddr (tfield P T f) x).has z) : ∃ r, (Instr.fieldAt T u f).run P w = .ok r w ∧ VR c z r := by
  cases ho : tfield P T f with
  | none => rw [ho] at h; exact h.elim
  | some o =>
    obtain ⟨k, t⟩ := o
    obtain ⟨fs, fld, hT, hf, rfl, rfl, h0⟩ := tfield_some ho
    obtain ⟨i, hi⟩ := info_of_size h0
    have key : ∀ b o, (Instr.fieldAt T (.pointer (some ⟨b, o, none⟩)) f).run P w = .ok (.pointer (some ⟨b, o + fld.offset, none⟩)) w := fun b o => by
      simp [Instr.fieldAt, run_underlying hT, hf, Instr.sureAddr, fieldPlace, run_sizeOf hi, h0, Addr.add_lit]
    rw [ho] at h
    unfold fieldAddr at h
    dsimp only at h
    split at h
    · rename_i r off
      simp only [R.has] at h; subst h
      simp only [VR] at hx
      split at hx
      · rename_i b m hr
        subst hx
        exact ⟨_, key b off, by simp only [VR]; rw [hr]⟩
      · exact hx.elim
    · rename_i r e i off
      simp only [R.has] at h; subst h
      simp only [VR] at hx
      split at hx
      · rename_i b m hr
        subst hx
        exact ⟨_, key b _, by simp only [VR]; rw [hr]; simp [Nat.add_assoc]⟩
      · exact hx.elim
    · rename_i cs off
      simp only [R.has] at h; subst h
      simp only [VR] at hx
      obtain ⟨b, o, rfl, h1, h2, h3⟩ := hx
      refine ⟨_, key b _, ?_⟩
      simp only [VR]
      exact ⟨b, o, by simp [Nat.add_assoc], h1, h2, h3⟩
    · exact h.elim
theorem indexS_ok {T : Nat} {x i z : V} {u v : Value} (hx : VR c x u) (hi : VR c i v) (h : (indexS (tkind P T) x i).has z) : ∃ r, (Instr.index T u v).run P w = .ok r w ∧ VR c z r := by
  unfold indexS at h
  split at h
  · rename_i s k n hk
    obtain ⟨⟨h0, h1⟩, rfl⟩ := h
    simp only [VR] at hx hi
    subst hx hi
    have hs : (⟨s.toArray⟩ : ByteArray).size = s.length := by simp [ByteArray.size]
    have h2 : 0 ≤ n ∧ n < (((⟨s.toArray⟩ : ByteArray).size : Nat) : Int) := by rw [hs]; exact ⟨h0, h1⟩
    refine ⟨_, by rw [run_index_string w T _ k n (kind_str hk), dif_pos h2], ?_⟩
    simp only [VR]
    congr 2
    have h3 : n.toNat < s.length := by omega
    have h4 : (⟨s.toArray⟩ : ByteArray)[n.toNat]'(by rw [hs]; exact h3) = s[n.toNat] := by
      show s.toArray[n.toNat] = _
      simp
    rw [h4]; simp [List.getD, h3]
  · exact h.elim
theorem telem_some' {T e : Nat} (h : telem P T = some e) : P.underlying T = some (.slice e) ∧ tsize P e ≠ 0 := by
  unfold telem at h
  split at h
  · split at h
    · cases h
    · cases h; exact ⟨by assumption, by assumption⟩
  · cases h
theorem telem_some {T e : Nat} (h : telem P T = some e) : P.underlying T = some (.slice e) := (telem_some' h).1
theorem elem_eq {T e : Nat} (h : P.underlying T = some (.slice e)) : P.elem T = e := by simp [Program.elem, h]
theorem slice_elem {T e : Nat} (h : P.underlying T = some (.slice e)) : P.underlying T = some (.slice (P.elem T)) := by rw [elem_eq h]; exact h
theorem add_add (a : Addr) (m n : Nat) : (a.add m).add n = a.add (m + n) := by
  by_cases hm : m = 0
  · subst hm; simp [Addr.add]
  · by_cases hn : n = 0
    · subst hn; simp [Addr.add]
    · simp [Addr.add, hm, hn, Nat.add_assoc]
theorem add_block (a : Addr) (k : Nat) : (a.add k).block = a.block := by unfold Addr.add; split <;> rfl
theorem cell_spot {w : World} {a : Addr} {x : Value} (h : w.cell? a = some x) : a.spot = none := by
  unfold World.cell? at h
  split at h
  · split at h
    · cases h
    · rename_i hs; simpa using hs
  · cases h
theorem add_spot {a : Addr} (h : a.spot = none) (k : Nat) : a.add k = ⟨a.block, a.off + k, none⟩ := by
  obtain ⟨b, o, s⟩ := a
  dsimp only at h
  subst h
  exact Addr.add_lit b o k
theorem indexAddr_ok {T e : Nat} (hT : telem P T = some e) {x i z : V} {u v : Value} (hx : VR c x u) (hi : VR c i v) (h : (indexAddr (tsize P e) x i).has z) : ∃ r, (Instr.indexAt T u v).run P w = .ok r w ∧ VR c z r := by
  obtain ⟨hT', he⟩ := telem_some' hT
  obtain ⟨ie, hie⟩ := info_of_size he
  have key : ∀ a len cap k (n : Int), 0 ≤ n → n < (len : Nat) → (Instr.indexAt T (.slice (some a) len cap) (.int k n)).run P w = .ok (.pointer (some (a.add (n.toNat * tsize P e)))) w := fun a len cap k n h0 h1 => by
    rw [run_indexAt_slice w T a len cap k n (slice_elem hT'), if_pos ⟨h0, h1⟩, elem_eq hT', run_sizeOf hie]
    simp
  unfold indexAddr at h
  split at h
  · rename_i nl t e' n f k m
    cases hb : Nat.beq (tsize P e) e' with
    | false => rw [hb] at h; exact h.elim
    | true =>
      rw [hb] at h
      obtain rfl := beq_nat hb
      obtain ⟨⟨h0, h1⟩, rfl⟩ := h
      simp only [VR] at hx hi
      subst hi
      obtain ⟨A, cap, rfl, h2, h3, h4, h5, h6⟩ := hx
      obtain ⟨a, rfl, ia, el, ho, hs⟩ := h6 m.toNat (by omega)
      refine ⟨_, key a n cap k m h0 h1, ?_⟩
      have hsp : a.spot = none ∨ 0 < m.toNat * tsize P e := by
        rcases Nat.eq_zero_or_pos (m.toNat * tsize P e) with h | h
        · left
          have : ∃ u, c.w.cell? (a.add (m.toNat * tsize P e + 0)) = some u := by
            have h0 : 0 < (f m.toNat).length := by omega
            obtain ⟨u, hu, _⟩ := VRs_get hs (nth_eq _ 0 h0)
            exact ⟨u, hu⟩
          obtain ⟨u, hu⟩ := this
          rw [h] at hu
          exact cell_spot (a := a) (by simpa [Addr.add] using hu)
        · exact .inr h
      have hadd : a.add (m.toNat * tsize P e) = ⟨a.block, a.off + m.toNat * tsize P e, none⟩ := by
        rcases hsp with h | h
        · exact add_spot h _
        · unfold Addr.add; rw [if_neg (by omega)]
      have hadd2 : ∀ j, a.add (m.toNat * tsize P e + j) = ⟨a.block, a.off + m.toNat * tsize P e + j, none⟩ := fun j => by
        rw [← add_add, hadd, Addr.add_lit]
      simp only [VR]
      refine ⟨a.block, a.off + m.toNat * tsize P e, by rw [hadd]; simp, ia, ?_, ?_⟩
      · rw [el]; intro j x hj hx; exact ho j x hj ((congrArg c.w.cell? (hadd2 j)).trans hx)
      · exact VRs_congr hs fun j _ => (congrArg c.w.cell? (hadd2 j)).symm
  · rename_i nl r e' off n t k m
    cases hb : Nat.beq (tsize P e) e' with
    | false => rw [hb] at h; exact h.elim
    | true =>
      rw [hb] at h
      obtain rfl := beq_nat hb
      obtain ⟨⟨h0, h1⟩, rfl⟩ := h
      simp only [VR] at hx hi
      subst hi
      obtain ⟨A, cap, rfl, h2, h3, h4, h5⟩ := hx
      split at h5
      · rename_i b mm hr
        obtain ⟨h5, h6⟩ := h5
        obtain rfl := h6 (by omega)
        refine ⟨_, key _ n cap k m h0 h1, ?_⟩
        simp only [VR]
        rw [hr]
        simp [Addr.add_lit, Nat.add_mul]
      · omega
      · exact h5.elim
  · exact h.elim
theorem VRs_list {cs : List V} {g : Nat → Option Value} (H : VRs c cs g) : ∃ us : List Value, us.length = cs.length ∧ (∀ j : Nat, j < cs.length → us[j]? = g j) ∧ VRs c cs fun j => us[j]? := by
  induction cs generalizing g with
  | nil => exact ⟨[], rfl, fun j hj => by simp at hj, by simp only [VRs]⟩
  | cons x xs ih =>
    simp only [VRs] at H
    obtain ⟨⟨u, hu, hx⟩, hs⟩ := H
    obtain ⟨us, h1, h2, h3⟩ := ih hs
    refine ⟨u :: us, by simp [h1], fun j hj => ?_, ?_⟩
    · cases j with
      | zero => simp [hu]
      | succ j => simpa using h2 j (by simpa using hj)
    · simp only [VRs]
      exact ⟨⟨u, by simp, hx⟩, by simpa using h3⟩
theorem VRs_drop {cs : List V} {g : Nat → Option Value} (H : VRs c cs g) (k : Nat) : VRs c (cs.drop k) fun j => g (k + j) :=
  VRs_of fun i v hi => VRs_get H (by simpa using hi)
theorem VRs_take {cs : List V} {g : Nat → Option Value} (H : VRs c cs g) (k : Nat) : VRs c (cs.take k) g :=
  VRs_of fun i v hi => VRs_get H (by
    rw [List.getElem?_take] at hi
    split at hi
    · exact hi
    · cases hi)
theorem tagg_run {T : Nat} {b : Bool} (h : tagg P T = some b) : (isAgg T).run P w = .ok b w := by
  unfold tagg at h
  split at h
  · rename_i hT; cases h; simp [isAgg, run_underlying hT]
  · rename_i hT; cases h; simp [isAgg, run_underlying hT]
  · rename_i d h1 h2 hT
    cases h
    simp only [isAgg, Sem.run_bind, run_underlying hT, Result.andThen_ok]
    cases d <;> simp_all
  · cases h
theorem tagg_info {T : Nat} {b : Bool} (h : tagg P T = some b) : ∃ i, P.info? T = some i := by
  unfold tagg at h
  split at h
  · exact info_of_und (by assumption)
  · exact info_of_und (by assumption)
  · exact info_of_und (by assumption)
  · cases h
theorem loadV_ok {T : Nat} {cs : List V} {off : Nat} {z : V} {g : Nat → Option Value} {b o : Nat} (H : VRs c cs g) (ho : One cs.length g) (hg : ∀ j x, j < cs.length → g j = some x → w.cell? ⟨b, o + j, none⟩ = some x)
    (h : (loadV (ti P T) cs off).has z) : ∃ r, (loadVar T ⟨b, o + off, none⟩).run P w = .ok r w ∧ VR c z r := by
  unfold loadV at h
  dsimp only [ti] at h
  split at h
  · rename_i hT
    cases hb : Nat.ble (off + tsize P T) (len cs) with
    | false => rw [hb] at h; exact h.elim
    | true =>
      rw [hb] at h
      simp only [cond, R.has] at h
      subst h
      have hle : off + tsize P T ≤ cs.length := by rw [← len_eq]; exact Nat.le_of_ble_eq_true hb
      obtain ⟨i, hi⟩ := tagg_info hT
      have H2 := VRs_take (VRs_drop H off) (tsize P T)
      obtain ⟨us, h1, h2, h3⟩ := VRs_list H2
      have hul : us.length = tsize P T := by rw [h1]; simp; omega
      have hrun : (loadCells ⟨b, o + off, none⟩ (tsize P T)).run P w = .ok us.toArray w := by
        rw [← hul]
        refine run_loadCells_list w _ us fun j v hj => ?_
        rw [Addr.add_lit]
        have hjl : j < us.length := (List.getElem?_eq_some_iff.1 hj).1
        have := h2 j (by simp; omega)
        rw [this] at hj
        have := hg (off + j) v (by omega) hj
        rw [Nat.add_assoc]; exact this
      refine ⟨.agg us.toArray, by simp [loadVar, tagg_run hT, run_sizeOf hi, hrun], ?_⟩
      simp only [VR]
      rw [dr_eq, tk_eq]
      refine ⟨us.toArray, rfl, by simp [h1], ?_, by simpa using h3⟩
      intro j x hj hx
      have := h2 j hj
      simp only [List.getElem?_toArray] at hx
      rw [this] at hx
      refine ho (off + j) x ?_ hx
      simp at hj; omega
  · rename_i hT
    cases hb : Nat.blt off (len cs) with
    | false => rw [hb] at h; exact h.elim
    | true =>
      rw [hb] at h
      simp only [cond, R.has] at h
      subst h
      have hlt : off < cs.length := by rw [← len_eq]; exact Nat.blt_eq ▸ hb
      obtain ⟨u, hu, hv⟩ := VRs_get H (nth_eq cs off hlt)
      refine ⟨u, ?_, hv⟩
      have hc := hg off u hlt hu
      simp [loadVar, tagg_run hT, Go.load, Sem.run, hc]
  · exact h.elim
theorem sliceS_ok {T : Nat} (hT : P.underlying T = some .string) {s : List UInt8} {lo hi : Option V} {z : V} {lo' hi' : Option Value}
    (hl : match lo, lo' with | none, none => True | some x, some u => VR c x u | _, _ => False) (hh : match hi, hi' with | none, none => True | some x, some u => VR c x u | _, _ => False)
    (h : (sliceS s lo hi).has z) : ∃ r, (Instr.sliceAt T (.string ⟨s.toArray⟩) lo' hi' none).run P w = .ok r w ∧ VR c z r := by
  have hs : (⟨s.toArray⟩ : ByteArray).size = s.length := by simp [ByteArray.size]
  have hex : ∀ a b, (⟨s.toArray⟩ : ByteArray).extract a b = ⟨((s.take b).drop a).toArray⟩ := fun a b => by
    apply ByteArray.ext
    rw [ByteArray.data_extract]
    apply Array.ext'
    simp [List.extract_eq_take_drop, List.drop_take]
  rw [run_sliceAt_string w T _ lo' hi' none hT]
  unfold sliceS at h
  split at h
  · cases lo' <;> cases hi' <;> simp at hl hh
    simp only [R.has] at h; subst h
    rw [run_slice_string_all w T _ hT, hex, hs]
    exact ⟨_, rfl, by simp [VR]⟩
  · cases lo' <;> cases hi' <;> simp at hl hh
    obtain ⟨⟨h0, h1⟩, rfl⟩ := h
    simp only [VR] at hl; subst hl
    rw [run_slice_string_l w T _ hT _ _ h0 (by rw [hs]; exact h1), hex, hs]
    exact ⟨_, rfl, by simp [VR]⟩
  · cases lo' <;> cases hi' <;> simp at hl hh
    obtain ⟨⟨h0, h1⟩, rfl⟩ := h
    simp only [VR] at hh; subst hh
    rw [run_slice_string_h w T _ hT _ _ h0 (by rw [hs]; exact h1), hex]
    exact ⟨_, rfl, by simp [VR]⟩
  · cases lo' <;> cases hi' <;> simp at hl hh
    obtain ⟨⟨h0, h1, h2⟩, rfl⟩ := h
    simp only [VR] at hl hh; subst hl hh
    rename_i _ l _ h
    refine ⟨.string ⟨((s.take h.toNat).drop l.toNat).toArray⟩, ?_, by simp only [VR]⟩
    have e1 : (h.toNat : Int) = h := Int.toNat_of_nonneg (by omega)
    simp [Instr.slice, run_underlying hT, Instr.sliceBounds, run_sliceBound, h0, h1, h2, hs, hex, e1, (by omega : 0 ≤ h)]
  · exact h.elim
def OR (c : Ctx) : Option V → Option Value → Prop
  | none, none => True
  | some x, some u => VR c x u
  | _, _ => False
theorem bounds_ok {n cap : Nat} {t t' : Tg} {l h : Nat} {q : Prop} {lo hi mx : Option V} {lo' hi' mx' : Option Value} (hl : OR c lo lo') (hh : OR c hi hi') (hm : OR c mx mx')
    (hn : n ≤ cap) (ht : t = .cut true → cap = n) {cp : Nat} (hcp : cp ≤ cap) (hx : ∀ C, t = .exact C → cap = C) (hc : cutV n cp t lo hi mx = .cut l h t' q) (hq : q) :
    ∃ m, (Instr.sliceBounds true n cap lo' hi' mx').run P w = .ok (l, h, m) w ∧ l ≤ h ∧ h ≤ m ∧ m ≤ cap ∧ (h ≤ n ∨ h ≤ cp) ∧ ((t' = .cut true → m = h) ∧ ∀ C, t' = .exact C → m - l = C) := by
  have sh1 : ∀ l, shT t l = .cut true → t = .cut true := fun l h => by cases t <;> simp_all [shT]
  have sh2 : ∀ l C, shT t l = .exact C → cap - l = C := fun l C h => by
    cases t with
    | exact D => have := hx D rfl; simp only [shT, Tg.exact.injEq] at h; omega
    | _ => simp [shT] at h
  have hi1 : ∀ l, hiT t l = .cut true → False := fun l h => by cases t <;> simp [hiT] at h
  have hi2 : ∀ l C, hiT t l = .exact C → cap - l = C := fun l C h => by
    cases t with
    | exact D => have := hx D rfl; simp only [hiT, Tg.exact.injEq] at h; omega
    | _ => simp [hiT] at h
  unfold cutV at hc
  split at hc
  · cases lo' <;> cases hi' <;> cases mx' <;> simp [OR] at hl hh hm
    cases hc
    exact ⟨cap, by simp [Instr.sliceBounds], by omega, hn, by omega, .inl (by omega), ht, fun C h => by rw [← hx C h]; omega⟩
  · cases lo' <;> cases hi' <;> cases mx' <;> simp [OR] at hl hh hm
    cases hc
    simp only [VR] at hl; subst hl
    obtain ⟨h0, h1⟩ := hq
    exact ⟨cap, by simp [Instr.sliceBounds, run_sliceBound, h0, h1], by omega, hn, by omega, .inl (by omega), fun h => ht (sh1 _ h), fun C h => sh2 _ C h⟩
  · cases lo' <;> cases hi' <;> cases mx' <;> simp [OR] at hl hh hm
    cases hc
    simp only [VR] at hh; subst hh
    obtain ⟨h0, h1⟩ := hq
    have h2 : ∀ x : Int, x ≤ cp → x ≤ cap := fun x hx => by omega
    exact ⟨cap, by simp [Instr.sliceBounds, run_sliceBound, h0, h2 _ h1], by omega, by omega, by omega, .inr (by omega), fun h => (hi1 _ h).elim, fun C h => hi2 _ C h⟩
  · cases lo' <;> cases hi' <;> cases mx' <;> simp [OR] at hl hh hm
    cases hc
    simp only [VR] at hl hh; subst hl hh
    rename_i _ l _ h
    obtain ⟨h0, h1, h2⟩ := hq
    have e1 : (h.toNat : Int) = h := Int.toNat_of_nonneg (by omega)
    have h3 : h ≤ cap := by omega
    exact ⟨cap, by simp [Instr.sliceBounds, run_sliceBound, h0, h1, h3, e1, (by omega : 0 ≤ h)], by omega, by omega, by omega, .inr (by omega), fun h => (hi1 _ h).elim, fun C h => hi2 _ C h⟩
  · cases lo' <;> cases hi' <;> cases mx' <;> simp [OR] at hl hh hm
    cases hc
    simp only [VR] at hm hh; subst hm hh
    rename_i _ h _ m
    obtain ⟨h0, h1, h2⟩ := hq
    have e1 : (m.toNat : Int) = m := Int.toNat_of_nonneg (by omega)
    have h3 : m ≤ cap := by omega
    refine ⟨m.toNat, by simp [Instr.sliceBounds, run_sliceBound, h0, h1, h3, e1, (by omega : 0 ≤ m)], by omega, by omega, by omega, .inl (by omega), fun e => ?_, fun C e => by cases e⟩
    simp only [Tg.cut.injEq, decide_eq_true_eq] at e
    rw [e]
  · cases lo' <;> cases hi' <;> cases mx' <;> simp [OR] at hl hh hm
    cases hc
    simp only [VR] at hl hm hh; subst hl hm hh
    rename_i _ l _ h _ m
    obtain ⟨h00, h0, h1, h2⟩ := hq
    have e1 : (m.toNat : Int) = m := Int.toNat_of_nonneg (by omega)
    have e2 : (h.toNat : Int) = h := Int.toNat_of_nonneg (by omega)
    have h3 : m ≤ cap := by omega
    refine ⟨m.toNat, by simp [Instr.sliceBounds, run_sliceBound, h00, h0, h1, h3, e1, e2, (by omega : 0 ≤ m), (by omega : 0 ≤ h)], by omega, by omega, by omega, .inl (by omega), fun e => ?_, fun C e => by cases e⟩
    simp only [Tg.cut.injEq, decide_eq_true_eq] at e
    rw [e]
  · cases hc
theorem sliceV_ok {T : Nat} {x z : V} {u : Value} {lo hi mx : Option V} {lo' hi' mx' : Option Value} (hx : VR c x u) (hl : OR c lo lo') (hh : OR c hi hi') (hm : OR c mx mx')
    {es : Nat} (hes : ∀ e, P.underlying T = some (.slice e) → es ≠ 0 → telem P T = some e ∧ es = tsize P e)
    (h : (sliceV (tkind P T) es x lo hi mx).has z) : ∃ r, (Instr.sliceAt T u lo' hi' mx').run P w = .ok r w ∧ VR c z r := by
  unfold sliceV at h
  have hkk : ∀ k, (match tkind P T with | .slice => bif Nat.beq es 0 then TK.other else tkind P T | _ => tkind P T) = k → (k = .str → tkind P T = .str) ∧ (k = .slice → tkind P T = .slice ∧ es ≠ 0) := by
    intro k hk
    split at hk
    · rename_i h1
      cases hb : Nat.beq es 0 with
      | true => rw [hb] at hk; subst hk; exact ⟨(fun h => by cases h), (fun h => by cases h)⟩
      | false =>
        rw [hb] at hk
        simp only [cond] at hk
        rw [← hk]
        refine ⟨fun h => h, fun h => ⟨h, ?_⟩⟩
        rintro rfl
        simp at hb
    · rename_i h1
      rw [← hk]
      exact ⟨fun h => h, fun h => absurd h h1⟩
  split at h
  · rename_i s hk
    replace hk := (hkk _ hk).1 rfl
    cases mx' <;> simp [OR] at hm
    simp only [VR] at hx; subst hx
    refine sliceS_ok (kind_str hk) (lo := lo) (hi := hi) ?_ ?_ h
    · cases lo <;> cases lo' <;> simpa [OR] using hl
    · cases hi <;> cases hi' <;> simpa [OR] using hh
  · rename_i mx2 nl t e' n f hk
    obtain ⟨hk, hes0⟩ := (hkk _ hk).2 rfl
    obtain ⟨e, hT⟩ := kind_slice hk
    obtain ⟨he, hes⟩ := hes e hT hes0
    subst hes
    obtain ⟨_, he0⟩ := telem_some' he
    obtain ⟨ie, hie⟩ := info_of_size he0
    cases hb : Nat.beq (tsize P e) e' with
    | false => rw [hb] at h; exact h.elim
    | true =>
      rw [hb] at h
      obtain rfl := beq_nat hb
      dsimp only [cond] at h
      split at h
      · rename_i l h' t' q hc
        obtain ⟨hq, rfl⟩ := h
        simp only [VR] at hx
        obtain ⟨A, cap, rfl, h2, h3, h4, h5, h6⟩ := hx
        obtain ⟨m, hrun, b1, b2, b3, b4, b5, b6⟩ := bounds_ok (P := P) (w := w) hl hh hm h2 (fun h => h3 (by cases t <;> simp_all [unx])) (cp := n) h2 (fun C h => by cases t <;> simp [unx] at h) hc hq
        refine ⟨sliced A l h' m (tsize P e), ?_, ?_⟩
        · rw [run_sliceAt_slice w T _ _ _ _ (slice_elem hT), run_slice_any w T A n cap (slice_elem hT), hrun, elem_eq hT]
          simp [run_sizeOf hie]
        · simp only [VR, sliced]
          refine ⟨_, _, rfl, by omega, fun e => by rw [b5 e], ?_, ?_, ?_⟩
          · intro b hb; rw [h4 b hb]; cases A <;> simp; split <;> simp
          · intro hA
            have : A = none := by cases A <;> simp at hA <;> first | rfl | (split at hA <;> simp at hA)
            have := h5 this
            omega
          · intro i hi
            obtain ⟨a, rfl, ia, el, ho, hs⟩ := h6 (l + i) (by omega)
            have hml : m ≠ l := by omega
            refine ⟨a.add (l * tsize P e), by simp [hml], by rw [add_block]; exact ia, el, ?_, ?_⟩
            · intro j x hj hx
              exact ho j x hj ((congrArg c.w.cell? (by rw [add_add, Nat.add_mul, Nat.add_assoc])).trans hx)
            · exact VRs_congr hs fun j _ => congrArg c.w.cell? (by rw [add_add, Nat.add_mul, Nat.add_assoc])
      · exact h.elim
  · rename_i mx2 nl r e' off n t hk
    obtain ⟨hk, hes0⟩ := (hkk _ hk).2 rfl
    obtain ⟨e, hT⟩ := kind_slice hk
    obtain ⟨he, hes⟩ := hes e hT hes0
    subst hes
    obtain ⟨_, he0⟩ := telem_some' he
    obtain ⟨ie, hie⟩ := info_of_size he0
    cases hb : Nat.beq (tsize P e) e' with
    | false => rw [hb] at h; exact h.elim
    | true =>
      rw [hb] at h
      obtain rfl := beq_nat hb
      dsimp only [cond] at h
      split at h
      · rename_i l h' t' q hc
        obtain ⟨hq, rfl⟩ := h
        simp only [VR] at hx
        obtain ⟨A, cap, rfl, h2, h3, h4, h5⟩ := hx
        obtain ⟨m, hrun, b1, b2, b3, b4, b5, b6⟩ := bounds_ok (P := P) (w := w) hl hh hm h2.1 h3 (cp := cpT t n) (by cases t <;> simp only [cpT] <;> first | exact h2.1 | (have := h2.2 _ rfl; omega)) h2.2 hc hq
        refine ⟨sliced A l h' m (tsize P e), ?_, ?_⟩
        · rw [run_sliceAt_slice w T _ _ _ _ (slice_elem hT), run_slice_any w T A n cap (slice_elem hT), hrun, elem_eq hT]
          simp [run_sizeOf hie]
        · simp only [VR, sliced]
          refine ⟨_, _, rfl, ⟨by omega, b6⟩, fun e => by rw [b5 e], ?_, ?_⟩
          · intro b hb; rw [h4 b hb]; cases A <;> simp; split <;> simp
          · split at h5
            · obtain ⟨h5, h6⟩ := h5
              refine ⟨by omega, fun hp => ?_⟩
              have hml : m ≠ l := by omega
              rw [h6 (by omega)]
              simp [hml, Addr.add_lit, Nat.add_mul]
            · omega
            · exact h5
      · exact h.elim
  · exact h.elim
theorem len_ok {T ty : Nat} {x z : V} {u : Value} (hx : VR c x u) (h : (vlen (tkind P T) x).has z) : ∃ r, (Builtin.len_ #[T] ty #[u]).run P w = .ok r w ∧ VR c z r := by
  unfold vlen at h
  split at h
  · rename_i s hk
    simp only [R.has] at h; subst h
    simp only [VR] at hx; subst hx
    exact ⟨_, run_len_string w T ty _ (kind_str hk), by simp [VR, goInt, ByteArray.size]⟩
  · rename_i nl t e n f hk
    obtain ⟨e, hT⟩ := kind_slice hk
    simp only [R.has] at h; subst h
    simp only [VR] at hx
    obtain ⟨A, cap, rfl, _⟩ := hx
    exact ⟨_, run_len_slice w T ty A n cap (slice_elem hT), by simp [VR, goInt]⟩
  · rename_i nl r e off n t hk
    obtain ⟨e, hT⟩ := kind_slice hk
    simp only [R.has] at h; subst h
    simp only [VR] at hx
    obtain ⟨A, cap, rfl, _⟩ := hx
    exact ⟨_, run_len_slice w T ty A n cap (slice_elem hT), by simp [VR, goInt]⟩
  · rename_i hk
    obtain ⟨e, hT⟩ := kind_slice hk
    simp only [R.has] at h; subst h
    simp only [VR] at hx; subst hx
    exact ⟨_, run_len_slice w T ty none 0 0 (slice_elem hT), by simp [VR, goInt]⟩
  · exact h.elim
end
end Go.VM
