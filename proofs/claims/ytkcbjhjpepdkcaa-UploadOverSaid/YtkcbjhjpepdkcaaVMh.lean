import Derived.Test.YtkcbjhjpepdkcaaVMg
set_option linter.unusedVariables false
set_option linter.unusedSimpArgs false
set_option linter.unnecessarySimpa false
namespace Go.VM
theorem splice_get (l vs : List Value) (o i : Nat) (h : o + vs.length ≤ l.length) :
    (l.take o ++ vs ++ l.drop (o + vs.length))[i]? = if o ≤ i ∧ i - o < vs.length then vs[i - o]? else l[i]? := by
  have ho : (l.take o).length = o := by simp; omega
  by_cases h1 : i < o
  · rw [if_neg (by omega), List.append_assoc, List.getElem?_append_left (by omega), List.getElem?_take, if_pos h1]
  · by_cases h2 : i - o < vs.length
    · rw [if_pos ⟨by omega, h2⟩, List.append_assoc, List.getElem?_append_right (by omega), ho, List.getElem?_append_left h2]
    · rw [if_neg (by omega), List.getElem?_append_right (by simp; omega), List.getElem?_drop]
      congr 1
      simp
      omega
section
variable {P : Program} {F : Fr} {c : Ctx} {H : Heap}
theorem One_list {n : Nat} {us : List Value} (h : One n fun j => us[j]?) (hl : us.length ≤ n) : ∀ v ∈ us, v.oneCell' = true := by
  intro v hv
  obtain ⟨j, hj, rfl⟩ := List.getElem_of_mem hv
  exact h j _ (by omega) (by simp [hj])
theorem newVar_ok (hs : SR F c H) {T : Nat} {u : Value} {cs : List V} (h1 : u.cells.size = cs.length) (h2 : One cs.length fun j => u.cells[j]?) (h3 : VRs c cs fun j => u.cells[j]?) :
    ∃ c', (do pure (Value.pointer (some (← newVar T u))) : Sem Value).run P c.w = .ok (.pointer (some ⟨c.w.heap.size, 0, none⟩)) c'.w ∧ SR F c' (H ++ [.box cs]) ∧ Le c c' ∧ VR c' (.ptr H.length 0) (.pointer (some ⟨c.w.heap.size, 0, none⟩)) := by
  obtain ⟨a, b⟩ := hs.new (.box cs) u.cells T 1 ⟨h1, h2, h3⟩
  refine ⟨_, ?_, a, b, ?_⟩
  · simp [newVar, newRow]
  · simp only [VR]
    rw [List.getElem?_append_right (by rw [hs.len]; exact Nat.le_refl _)]
    simp [hs.len]
theorem VRs_ofVs (l : List Value) : VRs c (ofVs l) fun j => l[j]? := by
  rw [ofVs_eq]
  refine VRs_of fun i v hi => ?_
  simp only [List.getElem?_map, Option.map_eq_some_iff] at hi
  obtain ⟨x, hx, rfl⟩ := hi
  exact ⟨x, hx, VR_ofV c x⟩
theorem tzero_some {T : Nat} {z : List V} (h : tzero P T = some z) : ∃ i v, P.info? T = some i ∧ i.zero = some v ∧ z = ofVs v.cells.toList ∧ (∀ x ∈ v.cells.toList, x.oneCell' = true) ∧ v.cells.size = i.size := by
  unfold tzero at h
  split at h
  · rename_i i hi
    split at h
    · rename_i v hv
      split at h
      · rename_i hc
        cases h
        simp only [Bool.and_eq_true, beq_iff_eq, List.all_eq_true] at hc
        exact ⟨i, v, hi, hv, rfl, hc.1, hc.2⟩
      · cases h
    · cases h
  · cases h
theorem zero_ok {T : Nat} {z : List V} (h : tzero P T = some z) : ∃ u, (∀ w, (zeroValue T).run P w = .ok u w) ∧ u.cells.size = z.length ∧ One z.length (fun j => u.cells[j]?) ∧ (VRs c z fun j => u.cells[j]?) ∧ z.length = tsize P T := by
  obtain ⟨i, v, h1, h2, rfl, h3, h4⟩ := tzero_some h
  have hl : (ofVs v.cells.toList).length = v.cells.size := by rw [ofVs_eq]; simp
  refine ⟨v, fun w => by simp [zeroValue, typeInfo, h1, h2], hl.symm, fun j x hj hx => h3 x ?_, by simpa using VRs_ofVs (c := c) v.cells.toList, by rw [hl, h4]; simp [tsize, h1]⟩
  have hx' : v.cells[j]? = some x := hx
  rw [← Array.getElem?_toList] at hx'
  exact List.mem_of_getElem? hx'
theorem alloc_ok (hs : SR F c H) {T : Nat} {z : List V} (h : tzero P T = some z) :
    ∃ c', (Instr.alloc T true (.tuple #[])).run P c.w = .ok (.pointer (some ⟨c.w.heap.size, 0, none⟩)) c'.w ∧ SR F c' (H ++ [.box z]) ∧ Le c c' ∧ VR c' (.ptr H.length 0) (.pointer (some ⟨c.w.heap.size, 0, none⟩)) := by
  obtain ⟨u, hu, h1, h2, h3, _⟩ := zero_ok (c := c) h
  obtain ⟨c', g1, g2, g3, g4⟩ := newVar_ok (P := P) (T := T) hs h1 h2 h3
  refine ⟨c', ?_, g2, g3, g4⟩
  rw [← g1]
  simp [Instr.alloc, hu]
theorem box_ok (hs : SR F c H) {T : Nat} {x : V} {u : Value} {cs : List V} (hx : VR c x u) (h : boxV (ti P T) x = some cs) :
    ∃ c', (Instr.box T u).run P c.w = .ok (.pointer (some ⟨c.w.heap.size, 0, none⟩)) c'.w ∧ SR F c' (H ++ [.box cs]) ∧ Le c c' ∧ VR c' (.ptr H.length 0) (.pointer (some ⟨c.w.heap.size, 0, none⟩)) := by
  obtain ⟨h1, h2, h3, _⟩ := boxV_ok hx h
  exact newVar_ok (P := P) (T := T) hs h1 h2 h3
theorem store_ok (hs : SR F c H) {T : Nat} {av xv : V} {a x : Value} (ha : VR c av a) (hx : VR c xv x) {K : Heap → Prop} (h : storeV (ti P T) H av xv K) :
    ∃ c' H', (Instr.storeAt T a x).run P c.w = .ok () c'.w ∧ SR F c' H' ∧ Le c c' ∧ K H' := by
  unfold storeV at h
  split at h
  · rename_i vs hv
    obtain ⟨h1, h2, h3, ⟨i, hi⟩, h5⟩ := boxV_ok hx hv
    have hsz : x.cells.size = tsize P T := by omega
    have hone : ∀ v ∈ x.cells.toList, v.oneCell' = true := One_list (n := vs.length) (by simpa using h2) (by simp [h1])
    have hstore : ∀ b o C el, c.w.heap[b]? = some (.cells C el) → o + vs.length ≤ C.size →
        (Instr.storeAt T (.pointer (some ⟨b, o, none⟩)) x).run P c.w = .ok () (c.w.setRow b (C.toList.take o ++ x.cells.toList ++ C.toList.drop (o + x.cells.toList.length)).toArray) := by
      intro b o C el hb hle
      have := run_storeCells_at P b o el x.cells.toList 0 C c.w hb (by simp [h1]; omega) hone
      simp only [Instr.storeAt, Instr.sureAddr, storeVar, Sem.run_bind, Sem.run_pure, Result.andThen_ok, run_sizeOf hi, hsz, ne_eq, not_true_eq_false, if_false, this, Nat.add_zero]
    split at h
    · rename_i r off
      simp only [VR] at ha
      split at ha
      · rename_i b m hr
        subst ha
        split at h
        · rename_i cs hb
          cases hbb : Nat.ble (off + len vs) (len cs) with
          | false => rw [hbb] at h; exact h.elim
          | true =>
            rw [hbb] at h
            dsimp only [cond] at h
            have hle : off + vs.length ≤ cs.length := by rw [← len_eq, ← len_eq]; exact Nat.le_of_ble_eq_true hbb
            have hlive := hget_live hb trivial
            obtain ⟨C, el, g1, ⟨g2, g3, g4⟩, _⟩ := hs.blk r _ _ hlive hr trivial
            have HS := hs.set hlive trivial hr (.box (spl cs off vs)) (C.toList.take off ++ x.cells.toList ++ C.toList.drop (off + x.cells.toList.length)).toArray (cap := m) (by
              have hg : ∀ j, (C.toList.take off ++ x.cells.toList ++ C.toList.drop (off + x.cells.toList.length)).toArray[j]? = if off ≤ j ∧ j - off < vs.length then x.cells[j - off]? else C[j]? := fun j => by
                rw [List.getElem?_toArray, splice_get _ _ _ _ (by simp [h1]; omega)]
                simp [h1]
              refine ⟨by simp [spl_length, h1, g2]; omega, ?_, ?_⟩
              · intro j y hj hy
                rw [spl_length] at hj
                replace hy := (hg _).symm.trans hy
                split at hy
                · rename_i hc; exact h2 (j - off) y hc.2 hy
                · exact g3 j y hj hy
              · refine VRs_of fun j v hj => ?_
                have hjl : j < cs.length := by
                  have := (List.getElem?_eq_some_iff.1 hj).1
                  rwa [spl_length] at this
                rw [spl_get _ _ _ _ hjl] at hj
                simp only [hg]
                split at hj
                · rename_i hc; rw [if_pos hc]; exact VRs_get h3 hj
                · rename_i hc; rw [if_neg hc]; exact VRs_get g4 hj)
            exact ⟨{ c with w := _ }, _, hstore b off C el g1 (by omega), HS.1, HS.2, h⟩
        · exact h.elim
      · exact ha.elim
    · rename_i r e i' off
      simp only [VR] at ha
      split at ha
      · rename_i b m hr
        subst ha
        split at h
        · rename_i e' n f hb
          cases hbb : band (Nat.beq e e') (Nat.ble (off + len vs) e) with
          | false => rw [hbb] at h; exact h.elim
          | true =>
            rw [hbb] at h
            dsimp only [cond] at h
            obtain ⟨hb1, hb2⟩ := band_true hbb
            obtain rfl := beq_nat hb1
            have hle : off + vs.length ≤ e := by rw [← len_eq]; exact Nat.le_of_ble_eq_true hb2
            obtain ⟨hi', hK⟩ := h
            have hi' : _ < _ := hi'
            have hlive := hget_live hb trivial
            obtain ⟨C, el, g1, ⟨g2, g3, g4⟩, _⟩ := hs.blk r _ _ hlive hr trivial
            have hCs : i' * e + e ≤ C.size := by
              rw [g2]
              have : (i' + 1) * e ≤ m * e := Nat.mul_le_mul_right _ (by omega)
              rw [Nat.add_mul, Nat.one_mul] at this
              exact this
            have hg : ∀ j, (C.toList.take (i' * e + off) ++ x.cells.toList ++ C.toList.drop (i' * e + off + x.cells.toList.length)).toArray[j]? = if i' * e + off ≤ j ∧ j - (i' * e + off) < vs.length then x.cells[j - (i' * e + off)]? else C[j]? := fun j => by
              rw [List.getElem?_toArray, splice_get _ _ _ _ (by simp [h1]; omega)]
              simp [h1]
            have HS := hs.set hlive trivial hr (.arr e n fun j => bif Nat.beq j i' then spl (f j) off vs else f j) (C.toList.take (i' * e + off) ++ x.cells.toList ++ C.toList.drop (i' * e + off + x.cells.toList.length)).toArray (cap := m) (by
              refine ⟨by simp [h1]; omega, g3, fun q hq => ?_⟩
              obtain ⟨k1, k2, k3⟩ := g4 q hq
              by_cases hqi : q = i'
              · subst hqi
                have hbq : Nat.beq q q = true := Nat.beq_refl q
                simp only [hbq, cond]
                refine ⟨by rw [spl_length]; exact k1, ?_, ?_⟩
                · intro j y hj hy
                  replace hy := (hg _).symm.trans hy
                  split at hy
                  · rename_i hc; exact h2 _ y hc.2 hy
                  · exact k2 j y hj hy
                · refine VRs_of fun j v hj => ?_
                  have hjl : j < (f q).length := by
                    have := (List.getElem?_eq_some_iff.1 hj).1
                    rwa [spl_length] at this
                  rw [spl_get _ _ _ _ hjl] at hj
                  simp only [hg]
                  split at hj
                  · rename_i hc
                    rw [if_pos (by omega)]
                    have : q * e + j - (q * e + off) = j - off := by omega
                    rw [this]
                    exact VRs_get h3 hj
                  · rename_i hc
                    rw [if_neg (by omega)]
                    exact VRs_get k3 hj
              · have hbq : Nat.beq q i' = false := by
                  cases hh : Nat.beq q i' with
                  | false => rfl
                  | true => exact absurd (beq_nat hh) hqi
                simp only [hbq, cond]
                have hout : ∀ j, j < e → ¬ (i' * e + off ≤ q * e + j ∧ q * e + j - (i' * e + off) < vs.length) := by
                  intro j hj hcc
                  rcases Nat.lt_or_gt_of_ne hqi with hlt | hgt
                  · have : (q + 1) * e ≤ i' * e := Nat.mul_le_mul_right _ hlt
                    rw [Nat.add_mul, Nat.one_mul] at this
                    omega
                  · have : (i' + 1) * e ≤ q * e := Nat.mul_le_mul_right _ hgt
                    rw [Nat.add_mul, Nat.one_mul] at this
                    omega
                refine ⟨k1, ?_, ?_⟩
                · intro j y hj hy
                  replace hy := (hg _).symm.trans hy
                  rw [if_neg (hout j hj)] at hy
                  exact k2 j y hj hy
                · refine VRs_congr k3 fun j hj => ?_
                  exact (hg _).trans (if_neg (hout j (by omega))))
            exact ⟨{ c with w := _ }, _, hstore b (i' * e + off) C el g1 (by omega), HS.1, HS.2, hK⟩
        · exact h.elim
      · exact ha.elim
    · exact h.elim
  · exact h.elim
end
end Go.VM
