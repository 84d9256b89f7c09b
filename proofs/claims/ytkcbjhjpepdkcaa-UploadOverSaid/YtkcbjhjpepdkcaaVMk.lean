import Derived.Test.YtkcbjhjpepdkcaaVMj
import Derived.Laws.Build
set_option linter.unusedVariables false
set_option linter.unusedSimpArgs false
set_option linter.unnecessarySimpa false
namespace Go.VM
/-- operands that read as parts -/
inductive PR (c : Ctx) : List (Nat × V) → List (Nat × Value) → Prop where
  | nil : PR c [] []
  | cons {i : Nat} {v : V} {u : Value} {l : List (Nat × V)} {m : List (Nat × Value)} : VR c v u → PR c l m → PR c ((i, v) :: l) ((i, u) :: m)
theorem set_fold (off : Nat) : ∀ (vs : List Value) (k : Nat) (cells : Array Value), off + k + vs.length ≤ cells.size →
    ((vs.zipIdx k).foldl (fun cs (x : Value × Nat) => cs.setIfInBounds (off + x.2) x.1) cells).size = cells.size ∧
    ∀ i : Nat, ((vs.zipIdx k).foldl (fun cs (x : Value × Nat) => cs.setIfInBounds (off + x.2) x.1) cells)[i]? = if off + k ≤ i ∧ i - (off + k) < vs.length then vs[i - (off + k)]? else cells[i]?
  | [], k, cells, _ => by simp
  | v :: vs, k, cells, h => by
    have h' : off + (k + 1) + vs.length ≤ (cells.setIfInBounds (off + k) v).size := by simp at h ⊢; omega
    obtain ⟨h1, h2⟩ := set_fold off vs (k + 1) (cells.setIfInBounds (off + k) v) h'
    simp only [List.zipIdx_cons, List.foldl_cons]
    refine ⟨by rw [h1]; simp, fun i => ?_⟩
    rw [h2]
    have hk : off + k < cells.size := by simp at h; omega
    by_cases hi : i = off + k
    · subst hi
      rw [if_neg (by omega), if_pos ⟨by omega, by simp⟩]
      simp [Array.getElem?_setIfInBounds, hk]
    · by_cases h3 : off + (k + 1) ≤ i ∧ i - (off + (k + 1)) < vs.length
      · rw [if_pos h3, if_pos ⟨by omega, by simp; omega⟩]
        have : i - (off + k) = (i - (off + (k + 1))) + 1 := by omega
        rw [this, List.getElem?_cons_succ]
      · rw [if_neg h3, if_neg (by simp; omega)]
        rw [Array.getElem?_setIfInBounds_ne (by omega)]
section
variable {P : Program} {F : Fr} {c : Ctx} {H : Heap}
theorem fill_ok {pl : Nat → Option (Nat × Nat)} : ∀ {parts : List (Nat × V)} {vals : List (Nat × Value)} (hp : PR c parts vals) {cs cs' : List V} {us : Array Value},
    us.size = cs.length → One cs.length (fun j => us[j]?) → (VRs c cs fun j => us[j]?) → fillV pl cs parts = some cs' →
    ∃ us', Instr.fill pl us vals = some us' ∧ us'.size = cs'.length ∧ One cs'.length (fun j => us'[j]?) ∧ (VRs c cs' fun j => us'[j]?) ∧ cs'.length = cs.length := by
  intro parts vals hp
  induction hp with
  | nil =>
    intro cs cs' us h1 h2 h3 h
    simp only [fillV, Option.some.injEq] at h
    subst h
    exact ⟨us, rfl, h1, h2, h3, rfl⟩
  | @cons i v u l m hv hp ih =>
    intro cs cs' us h1 h2 h3 h
    simp only [fillV] at h
    split at h
    · rename_i off n vs hpl hcv
      cases hb : band (Nat.beq (len vs) n) (Nat.ble (off + n) (len cs)) with
      | false => rw [hb] at h; cases h
      | true =>
        rw [hb] at h
        dsimp only [cond] at h
        obtain ⟨hb1, hb2⟩ := band_true hb
        have hn := beq_nat hb1
        rw [len_eq] at hn
        have hle : off + n ≤ cs.length := by rw [← len_eq cs]; exact Nat.le_of_ble_eq_true hb2
        obtain ⟨k1, k2, k3⟩ := cells_ok hv hcv
        have hf := set_fold off u.cells.toList 0 us (by simp [k1]; omega)
        obtain ⟨f1, f2⟩ := hf
        have hfold : (u.cells.zipIdx.foldl (fun cs (x : Value × Nat) => cs.setIfInBounds (off + x.2) x.1) us) = ((u.cells.toList.zipIdx 0).foldl (fun cs (x : Value × Nat) => cs.setIfInBounds (off + x.2) x.1) us) := by
          rw [← Array.foldl_toList, Array.toList_zipIdx]
        have f3 : ∀ j : Nat, (u.cells.zipIdx.foldl (fun cs (x : Value × Nat) => cs.setIfInBounds (off + x.2) x.1) us)[j]? = if off ≤ j ∧ j - off < vs.length then u.cells[j - off]? else us[j]? := fun j => by
          rw [hfold, f2]; simp [k1]
        have hsz : (u.cells.zipIdx.foldl (fun cs (x : Value × Nat) => cs.setIfInBounds (off + x.2) x.1) us).size = (spl cs off vs).length := by
          rw [hfold, f1, h1, spl_length]
        obtain ⟨us', g1, g2, g3, g4, g5⟩ := ih hsz (by
          intro j y hj hy
          rw [spl_length] at hj
          replace hy := (f3 j).symm.trans hy
          split at hy
          · rename_i hc; exact k2 _ y hc.2 hy
          · exact h2 j y hj hy) (by
          refine VRs_of fun j w hj => ?_
          have hjl : j < cs.length := by
            have := (List.getElem?_eq_some_iff.1 hj).1
            rwa [spl_length] at this
          rw [spl_get _ _ _ _ hjl] at hj
          simp only [f3]
          split at hj
          · rename_i hc; rw [if_pos hc]; exact VRs_get k3 hj
          · rename_i hc; rw [if_neg hc]; exact VRs_get h3 hj) h
        refine ⟨us', ?_, g2, g3, g4, by rw [g5, spl_length]⟩
        simp only [Instr.fill, hpl]
        rw [if_neg (by simp [k1, hn]; omega)]
        exact g1
    · cases h
theorem pnth_eq (pl : List (Nat × Nat)) (k : Nat) : pnth pl k = pl.toArray[k]? := by
  rw [List.getElem?_toArray]
  induction pl generalizing k with
  | nil => simp [pnth]
  | cons x xs ih => cases k with
    | zero => simp [pnth]
    | succ k => simp [pnth]; exact ih k
theorem aps_eq (a b : List V) : rep.aps a b = a ++ b := by induction a <;> simp_all [rep.aps]
theorem rep_length (n : Nat) (z : List V) : (rep n z).length = n * z.length := by
  induction n with
  | zero => simp [rep]
  | succ n ih => simp [rep, aps_eq, ih, Nat.add_mul]; omega
theorem rep_get (n : Nat) (z : List V) (q : Nat) (h : q < n * z.length) : (rep n z)[q]? = z[q % z.length]? := by
  induction n generalizing q with
  | zero => simp at h
  | succ n ih =>
    simp only [rep, aps_eq]
    by_cases hq : q < z.length
    · rw [List.getElem?_append_left hq, Nat.mod_eq_of_lt hq]
    · rw [List.getElem?_append_right (by omega), ih (q - z.length) (by rw [Nat.add_mul] at h; omega)]
      congr 1
      rw [← Nat.mod_eq_sub_mod (by omega)]
theorem build_ok {T : Nat} {z cs : List V} {pl : List (Nat × Nat)} (hz : tzero P T = some z) (hpl : tplaces P T = some pl) {parts : List (Nat × V)} {vals : Array (Nat × Value)} (hp : PR c parts vals.toList)
    (h : fillV (pnth pl) z parts = some cs) : ∃ u, (Instr.build T vals).run P c.w = .ok u c.w ∧ VR c (.agg cs) u := by
  obtain ⟨i, v, hi, hv, rfl, h3, h4⟩ := tzero_some hz
  unfold tplaces at hpl
  split at hpl
  · rename_i fs hT
    have hpn : ∀ k, pnth pl k = pl.toArray[k]? := pnth_eq pl
    have hl : (ofVs v.cells.toList).length = v.cells.size := by rw [ofVs_eq]; simp
    obtain ⟨us', g1, g2, g3, g4, _⟩ := fill_ok hp (us := v.cells) hl.symm (fun j x hj hx => h3 x (by
      have hx' : v.cells[j]? = some x := hx
      rw [← Array.getElem?_toList] at hx'
      exact List.mem_of_getElem? hx')) (by simpa using VRs_ofVs (c := c) v.cells.toList) h
    refine ⟨.agg us', run_build c.w T vals us' ?_, by simp only [VR]; exact ⟨us', rfl, g2, g3, g4⟩⟩
    unfold Program.built
    simp only [hi, hT, hv, hpl]
    rw [← g1]
    congr 1
    funext k
    exact (hpn k).symm
  · cases hpl
theorem buildSliceV_ok (hs : SR F c H) {T e n : Nat} (hT : telem P T = some e) {parts : List (Nat × V)} {vals : Array (Nat × Value)} (hp : PR c parts vals.toList) {K : V → Heap → Prop}
    (h : buildSliceV (tsize P e) (tzero P e) n parts H K) : ∃ c' H' r y, (Instr.buildSlice T n vals).run P c.w = .ok r c'.w ∧ SR F c' H' ∧ Le c c' ∧ VR c' y r ∧ K y H' := by
  obtain ⟨hT', he⟩ := telem_some' hT
  obtain ⟨i, hi⟩ := info_of_size he
  unfold buildSliceV at h
  split at h
  · rename_i z hz
    split at h
    · rename_i cs hf
      cases hb : Nat.ble (n * tsize P e) 16777216 with
      | false => rw [hb] at h; exact h.elim
      | true =>
        rw [hb] at h
        dsimp only [cond] at h
        have hle : ¬ (2 ^ 24 < n * tsize P e) := by have := Nat.le_of_ble_eq_true hb; omega
        obtain ⟨u, z1, z2, z3, z4, z5⟩ := zero_ok (c := c) hz
        have hz0 : 0 < z.length := by rw [z5]; omega
        have hget : ∀ q : Nat, q < n * tsize P e → ((Array.range (n * tsize P e)).map (u.cells[· % u.cells.size]!))[q]? = u.cells[q % z.length]? := by
          intro q hq
          have hm : q % z.length < u.cells.size := by rw [z2]; exact Nat.mod_lt _ hz0
          simp [hq, z2]
          rw [getElem!_pos u.cells (q % z.length) hm]; simp [hm]
        have hlen : (rep n z).length = n * tsize P e := by rw [rep_length, z5]
        obtain ⟨us', g1, g2, g3, g4, g5⟩ := fill_ok hp (us := (Array.range (n * tsize P e)).map (u.cells[· % u.cells.size]!)) (by simp [hlen]) (by
          intro j y hj hy
          rw [hlen] at hj
          replace hy := (hget j hj).symm.trans hy
          exact z3 _ y (Nat.mod_lt _ hz0) hy) (by
          refine VRs_of fun j w hj => ?_
          have hjl : j < n * tsize P e := by rw [← hlen]; exact (List.getElem?_eq_some_iff.1 hj).1
          rw [rep_get n z j (by rw [z5]; exact hjl)] at hj
          simp only [hget j hjl]
          exact VRs_get z4 hj) hf
        have hcs : cs.length = n * tsize P e := by rw [g5, hlen]
        have hrun : (Instr.buildSlice T n vals).run P c.w = .ok (.slice (some ⟨c.w.heap.size, 0, none⟩) n n) (c.w.alloc (.cells us' e)) := by
          by_cases hn0 : n * tsize P e = 0
          · have hfill : Instr.fill (fun i_1 => some (i_1 * tsize P e, tsize P e)) #[] vals.toList = some us' := by
              have : (Array.range (n * tsize P e)).map (u.cells[· % u.cells.size]!) = #[] := by rw [hn0]; simp
              rw [this] at g1; exact g1
            simp [Instr.buildSlice, run_underlying hT', run_sizeOf hi, hn0, Array.range_zero', hfill, newRow]
          · simp [Instr.buildSlice, run_underlying hT', run_sizeOf hi, hle, hn0, z1, g1, newRow]
        have hC : Cont c us' n (.arr (tsize P e) n (mkArr (tsize P e) n cs)) := by
          refine ⟨by rw [g2, hcs], Nat.le_refl _, fun q hq => ?_⟩
          have hmk : mkArr (tsize P e) n cs q = (cs.drop (q * tsize P e)).take (tsize P e) := by
            unfold mkArr
            split
            · have : q = 0 := by omega
              subst this
              simp
              rw [List.take_of_length_le (by rw [hcs]; omega)]
            · show tk _ (dr _ cs) = _
              rw [tk_eq, dr_eq]
          have hqn : q * tsize P e + tsize P e ≤ n * tsize P e := by
            have : (q + 1) * tsize P e ≤ n * tsize P e := Nat.mul_le_mul_right _ hq
            rwa [Nat.add_mul, Nat.one_mul] at this
          rw [hmk]
          refine ⟨by simp [hcs]; omega, fun j y hj hy => g3 (q * tsize P e + j) y (by omega) hy, ?_⟩
          exact VRs_take (VRs_drop g4 _) _
        obtain ⟨k1, k2⟩ := hs.new _ us' e n hC
        rw [hlen_eq, hadd_eq] at h
        refine ⟨_, _, _, _, hrun, k1, k2, ?_, h⟩
        simp only [VR]
        refine ⟨_, _, rfl, ⟨Nat.le_refl _, fun C h => by cases h⟩, (fun _ => rfl), (fun b hb => by cases hb; simp), ?_⟩
        have : (c.locs ++ [some (c.w.heap.size, n)])[H.length]? = some (some (c.w.heap.size, n)) := by
          rw [List.getElem?_append_right (by rw [hs.len]; exact Nat.le_refl _)]
          simp [hs.len]
        rw [this]
        simp
    · exact h.elim
  · exact h.elim
end
end Go.VM
