import Derived.Test.YtkcbjhjpepdkcaaVMh
set_option linter.unusedVariables false
set_option linter.unusedSimpArgs false
set_option linter.unnecessarySimpa false
namespace Go.VM
/-- the cells of a slice that is read -/
structure Rd (c : Ctx) (es m : Nat) (g : Nat → List V) (A : Option Addr) (news : List Value) : Prop where
  len : news.length = m * es
  get : ∀ (j : Nat) v, news[j]? = some v → ∃ a, A = some a ∧ c.w.cell? (a.add j) = some v
  elt : ∀ i, i < m → (g i).length = es ∧ One es (fun j => news[i * es + j]?) ∧ VRs c (g i) fun j => news[i * es + j]?
section
variable {P : Program} {F : Fr} {c : Ctx} {H : Heap}
theorem Rd.of {es m : Nat} (hes : es ≠ 0) {g : Nat → List V} {A : Option Addr}
    (h : ∀ i, i < m → ∃ a, A = some a ∧ (g i).length = es ∧ One es (fun j => c.w.cell? (a.add (i * es + j))) ∧ VRs c (g i) fun j => c.w.cell? (a.add (i * es + j))) : ∃ news, Rd c es m g A news := by
  let cl : Nat → Option Value := fun q => match A with | some a => c.w.cell? (a.add q) | none => none
  have hcl : ∀ q, q < m * es → ∃ v, cl q = some v := by
    intro q hq
    have hi : q / es < m := Nat.div_lt_of_lt_mul (by rw [Nat.mul_comm]; exact hq)
    obtain ⟨a, rfl, h1, _, h3⟩ := h (q / es) hi
    have hj : q % es < (g (q / es)).length := by rw [h1]; exact Nat.mod_lt _ (by omega)
    obtain ⟨u, hu, _⟩ := VRs_get h3 (nth_eq _ _ hj)
    have hq' : q / es * es + q % es = q := by rw [Nat.mul_comm]; exact Nat.div_add_mod q es
    rw [hq'] at hu
    exact ⟨u, hu⟩
  refine ⟨(List.range (m * es)).map fun q => (cl q).getD undef, ⟨by simp, ?_, ?_⟩⟩
  · intro j v hj
    simp only [List.getElem?_map, Option.map_eq_some_iff] at hj
    obtain ⟨q, hq, rfl⟩ := hj
    have hjl : j < m * es := by simpa using (List.getElem?_eq_some_iff.1 hq).1
    rw [List.getElem?_range hjl] at hq
    cases hq
    obtain ⟨v, hv⟩ := hcl j hjl
    rw [hv]
    cases A with
    | none => cases hv
    | some a => exact ⟨a, rfl, hv⟩
  · intro i hi
    obtain ⟨a, rfl, h1, h2, h3⟩ := h i hi
    have key : ∀ j, j < es → ((List.range (m * es)).map fun q => (cl q).getD undef)[i * es + j]? = c.w.cell? (a.add (i * es + j)) := by
      intro j hj
      have hlt : i * es + j < m * es := by
        have : (i + 1) * es ≤ m * es := Nat.mul_le_mul_right _ hi
        rw [Nat.add_mul, Nat.one_mul] at this
        omega
      rw [List.getElem?_map, List.getElem?_range hlt]
      obtain ⟨v, hv⟩ := hcl _ hlt
      simp only [Option.map_some, hv, Option.getD_some]
      exact hv.symm
    exact ⟨h1, h2.mono key, VRs_congr h3 fun j hj => key j (by omega)⟩
theorem Rd.mono {c' : Ctx} {es m : Nat} {g : Nat → List V} {A : Option Addr} {news : List Value} (h : Rd c es m g A news) (hle : Le c c') (hw : c'.w.heap = c.w.heap) : Rd c' es m g A news :=
  ⟨h.len, fun j v hj => by
    obtain ⟨a, ha, hc⟩ := h.get j v hj
    exact ⟨a, ha, by simpa [World.cell?, hw] using hc⟩, fun i hi => ⟨(h.elt i hi).1, (h.elt i hi).2.1, VRs_mono hle _ _ _ (fun _ _ h => h) (h.elt i hi).2.2⟩⟩
theorem Rd.first {es m : Nat} {g : Nat → List V} {A : Option Addr} {news : List Value} (h : Rd c es m g A news) (n cap : Nat) : (Builtin.firstCells es m (.slice A n cap)).run P c.w = .ok news.toArray c.w := by
  cases A with
  | none =>
    have : news = [] := by
      cases news with
      | nil => rfl
      | cons v vs => obtain ⟨a, ha, _⟩ := h.get 0 v rfl; cases ha
    subst this
    exact run_firstCells_none c.w es m n cap
  | some a =>
    refine run_firstCells_some c.w es m a n cap news h.len fun j v hj => ?_
    obtain ⟨a', ha, hc⟩ := h.get j v hj
    cases ha
    exact hc
theorem view_ok (hs : SR F c H) {es : Nat} (hes : es ≠ 0) {x : V} {u : Value} (hx : VR c x u) {q : Prop} {m : Nat} {g : Nat → List V} (h : view es H x = some (q, m, g)) (hq : q) :
    ∃ A cap news, u = .slice A m cap ∧ m ≤ cap ∧ Rd c es m g A news := by
  unfold view at h
  split at h
  · cases h
    simp only [VR] at hx
    subst hx
    obtain ⟨news, hn⟩ := Rd.of (c := c) (m := 0) (g := fun _ => []) (A := none) hes (fun i hi => by omega)
    exact ⟨none, 0, news, rfl, Nat.le_refl _, hn⟩
  · rename_i nl t e' n f
    cases hb : Nat.beq es e' with
    | false => rw [hb] at h; cases h
    | true =>
      rw [hb] at h
      obtain rfl := beq_nat hb
      simp only [cond, Option.some.injEq, Prod.mk.injEq] at h
      obtain ⟨-, e1, e2⟩ := h
      rw [← e1, ← e2]
      simp only [VR] at hx
      obtain ⟨A, cap, rfl, h2, h3, h4, h5, h6⟩ := hx
      obtain ⟨news, hn⟩ := Rd.of (c := c) (m := n) (g := f) (A := A) hes (fun i hi => by
        obtain ⟨a, ha, _, k1, k2, k3⟩ := h6 i hi
        exact ⟨a, ha, k1, k2, VRs.ofBare k3⟩)
      exact ⟨A, cap, news, rfl, h2, hn⟩
  · rename_i nl r e' off n t
    split at h
    · rename_i e'' m' f hb
      cases hbb : band (Nat.beq es e') (Nat.beq es e'') with
      | false => rw [hbb] at h; cases h
      | true =>
        rw [hbb] at h
        obtain ⟨hb1, hb2⟩ := band_true hbb
        obtain rfl := beq_nat hb1
        obtain rfl := beq_nat hb2
        simp only [cond, Option.some.injEq, Prod.mk.injEq] at h
        obtain ⟨e0, e1, e2⟩ := h
        rw [← e1, ← e2]
        rw [← e0] at hq
        simp only [VR] at hx
        obtain ⟨A, cap, rfl, h2, h3, h4, h5⟩ := hx
        cases hr : c.locs[r]? with
        | none => rw [hr] at h5; exact h5.elim
        | some l =>
          rw [hr] at h5
          obtain ⟨g1, g2⟩ := hs.get hr
          rw [hb] at g2
          cases l with
          | none =>
            dsimp only at h5
            obtain ⟨news, hn⟩ := Rd.of (c := c) (m := n) (g := fun i => f (off + i)) (A := A) hes (fun i hi => by omega)
            exact ⟨A, cap, news, rfl, h2.1, hn⟩
          | some l =>
            obtain ⟨b, mm⟩ := l
            dsimp only at h5
            obtain ⟨C, el, k1, ⟨k2, k3, k4⟩, _⟩ := g2 trivial
            obtain ⟨h5, h6⟩ := h5
            obtain ⟨news, hn⟩ := Rd.of (c := c) (m := n) (g := fun i => f (off + i)) (A := A) hes (fun i hi => by
              obtain ⟨p1, p2, p3⟩ := k4 (off + i) (by omega)
              have key : ∀ j, c.w.cell? ((⟨b, off * es, none⟩ : Addr).add (i * es + j)) = C[(off + i) * es + j]? := fun j => by
                rw [Addr.add_lit, cell_row k1, Nat.add_mul, Nat.add_assoc]
              exact ⟨_, h6 (by omega), p1, p2.mono fun j _ => key j, VRs_congr p3 fun j _ => key j⟩)
            exact ⟨A, cap, news, rfl, h2.1, hn⟩
    · cases h
  · cases h
theorem le_grownCap (w : World) (need old : Nat) (e : TypeId) : need ≤ grownCap w need old e := by
  simp [grownCap, Question.cut]
theorem zeroCells_size (z : Array Value) (n : Nat) : (Builtin.zeroCells z n).size = n * z.size := by simp [Builtin.zeroCells]
/-- an append that makes a new row -/
theorem run_append_new (w : World) (t ty e : TypeId) (i : TypeInfo) (z : Value) (ht : P.underlying t = some (.slice e)) (hi : P.info? e = some i) (hz : i.zero = some z)
    (A B : Option Addr) (sLen sCap n cap : Nat) (olds news : List Value) (ho : (Builtin.firstCells i.size sLen (.slice A sLen sCap)).run P w.drew = .ok olds.toArray w.drew)
    (hn : (Builtin.firstCells i.size n (.slice B n cap)).run P w.drew = .ok news.toArray w.drew)
    (hg : sCap < sLen + n) (hb : 0 < i.bytes) (hfit : (sLen + n) * i.bytes ≤ 140737488355328) :
    (Builtin.append_ #[t, t] ty #[.slice A sLen sCap, .slice B n cap]).run P w =
      .ok (.slice (some ⟨w.heap.size, 0, none⟩) (sLen + n) (grownCap w (sLen + n) sCap e))
        (w.drew.alloc (.cells ((olds ++ news).toArray ++ Builtin.zeroCells z.cells (grownCap w (sLen + n) sCap e - (sLen + n))) e)) := by
  have hn' : ¬ (sLen + n ≤ sCap) := by omega
  have hle : sLen + n ≤ 140737488355328 := Nat.le_trans (Nat.le_mul_of_pos_right _ hb) hfit
  have h63 : ¬ (9223372036854775807 < ((sLen : Int) + (n : Int))) := by omega
  have h48 : ¬ (281474976710656 < Builtin.nextslicecap (sLen + n) sCap * i.bytes) := by
    have := growslice_fits hg hfit; omega
  simp [Builtin.append_, run_underlying ht, sizeOf, typeInfo, zeroValue, hi, hz, Builtin.lenOf, hn', h63, h48, Question.forced, hn, ho, newRow, grownCap]
  congr 2
  apply Array.ext'
  simp
/-- an append for which there is room -/
theorem run_append_in (w : World) (t ty e : TypeId) (i : TypeInfo) (ht : P.underlying t = some (.slice e)) (hi : P.info? e = some i)
    (A B : Option Addr) (sLen sCap n cap : Nat) (news : List Value)
    (hn : (Builtin.firstCells i.size n (.slice B n cap)).run P w = .ok news.toArray w) (hg : sLen + n ≤ sCap) {w' : World}
    (hst : match A with | some a => (storeCells (a.add (sLen * i.size)) news).run P w = .ok () w' | none => w' = w) :
    (Builtin.append_ #[t, t] ty #[.slice A sLen sCap, .slice B n cap]).run P w = .ok (.slice A (sLen + n) sCap) w' := by
  cases A with
  | none =>
    dsimp only at hst
    subst hst
    simp [Builtin.append_, run_underlying ht, sizeOf, typeInfo, hi, Builtin.lenOf, hg, hn]
  | some a =>
    dsimp only at hst
    simp [Builtin.append_, run_underlying ht, sizeOf, typeInfo, hi, Builtin.lenOf, hg, hn, hst]
theorem join_lt {n i : Nat} (f g : Nat → List V) (h : i < n) : join n f g i = f i := by
  have : Nat.blt i n = true := by simp [Nat.blt_eq, h]
  simp [join, this]
theorem join_ge {n i : Nat} (f g : Nat → List V) (h : ¬ i < n) : join n f g i = g (i - n) := by
  have : Nat.blt i n = false := by
    cases hb : Nat.blt i n with
    | false => rfl
    | true => exact absurd (by simpa using hb) h
  simp [join, this]
theorem join_cont {e n m : Nat} {f g : Nat → List V} {A B : Option Addr} {olds news : List Value} (ho : Rd c e n f A olds) (hn : Rd c e m g B news) {C : Array Value} {cap : Nat}
    (hC : C.size = cap * e) (hcap : n + m ≤ cap) (hget : ∀ j, j < (n + m) * e → C[j]? = (olds ++ news)[j]?) : Cont c C cap (.arr e (n + m) (join n f g)) := by
  refine ⟨hC, hcap, fun i hi => ?_⟩
  have hlt : ∀ j, j < e → i * e + j < (n + m) * e := fun j hj => by
    have : (i + 1) * e ≤ (n + m) * e := Nat.mul_le_mul_right _ hi
    rw [Nat.add_mul, Nat.one_mul] at this
    omega
  by_cases h : i < n
  · rw [join_lt f g h]
    obtain ⟨p1, p2, p3⟩ := ho.elt i h
    have key : ∀ j, j < e → C[i * e + j]? = olds[i * e + j]? := fun j hj => by
      rw [hget _ (hlt j hj), List.getElem?_append_left]
      rw [ho.len]
      have : (i + 1) * e ≤ n * e := Nat.mul_le_mul_right _ h
      rw [Nat.add_mul, Nat.one_mul] at this
      omega
    exact ⟨p1, p2.mono key, VRs_congr p3 fun j hj => key j (by omega)⟩
  · rw [join_ge f g h]
    obtain ⟨p1, p2, p3⟩ := hn.elt (i - n) (by omega)
    have key : ∀ j, j < e → C[i * e + j]? = news[(i - n) * e + j]? := fun j hj => by
      have h1 : n * e ≤ i * e := Nat.mul_le_mul_right _ (by omega)
      have h2 : (i - n) * e = i * e - n * e := Nat.sub_mul i n e
      rw [hget _ (hlt j hj), List.getElem?_append_right (by rw [ho.len]; omega), ho.len]
      congr 1
      omega
    exact ⟨p1, p2.mono key, VRs_congr p3 fun j hj => key j (by omega)⟩
/-- the value of a slice that a call owns whole -/
theorem own_new {c' : Ctx} {r b cap n e : Nat} {nl : Option Bool} (hr : c'.locs[r]? = some (some (b, cap))) (hnl : nl ≠ some true) (hn : n ≤ cap) : VR c' (.own nl r e 0 n .loose) (.slice (some ⟨b, 0, none⟩) n cap) := by
  simp only [VR]
  refine ⟨_, _, rfl, ⟨hn, fun C h => by cases h⟩, (fun h => by cases h), (fun b hb => by cases b <;> simp_all), ?_⟩
  rw [hr]
  simp
theorem append_grow {t ty e : Nat} (hT : telem P t = some e) {z : List V} (hz : tzero P e = some z) (hb : tbytes P e ≠ 0) (hs : SR F c H)
    {A B : Option Addr} {n sCap m cap : Nat} {f g : Nat → List V} {olds news : List Value} (ho : Rd c (tsize P e) n f A olds) (hn : Rd c (tsize P e) m g B news)
    (hg : sCap < n + m) (hfit : (n + m) * tbytes P e ≤ 140737488355328) (nl : Option Bool) (hnl : nl = some true → n = 0) :
    ∃ c' u, (Builtin.append_ #[t, t] ty #[.slice A n sCap, .slice B m cap]).run P c.w = .ok u c'.w ∧ SR F c' (H ++ [.arr (tsize P e) (n + m) (join n f g)]) ∧ Le c c' ∧
      VR c' (.own (napp nl m) H.length (tsize P e) 0 (n + m) .loose) u := by
  have hmn : napp nl m ≠ some true := fun h => by
    cases m with
    | zero => have := hnl h; omega
    | succ m => simp [napp] at h
  obtain ⟨i, v, hi, hv, rfl, h3, h4⟩ := tzero_some hz
  have hsz : tsize P e = i.size := by simp [tsize, hi]
  have hby : tbytes P e = i.bytes := by simp [tbytes, hi]
  obtain ⟨hs1, hle1⟩ := hs.drew
  have ho1 := (ho.mono hle1 rfl).first n sCap (P := P)
  have hn1 := (hn.mono hle1 rfl).first m cap (P := P)
  have hrun := run_append_new (P := P) c.w t ty e i v (telem_some hT) hi hv A B n sCap m cap olds news (by rw [← hsz]; exact ho1) (by rw [← hsz]; exact hn1) hg (by omega) (by rw [← hby]; exact hfit)
  have hgc := le_grownCap c.w (n + m) sCap e
  have hlen : (olds ++ news).length = (n + m) * i.size := by simp [ho.len, hn.len, hsz, Nat.add_mul]
  have hC := join_cont (ho.mono hle1 rfl) (hn.mono hle1 rfl) (C := (olds ++ news).toArray ++ Builtin.zeroCells v.cells (grownCap c.w (n + m) sCap e - (n + m))) (cap := grownCap c.w (n + m) sCap e)
    (by
      rw [Array.size_append, zeroCells_size, h4, List.size_toArray, hlen, hsz, ← Nat.add_mul]
      congr 1
      omega) hgc (fun j hj => by
      rw [Array.getElem?_append_left (by rw [List.size_toArray, hlen, ← hsz]; exact hj), List.getElem?_toArray])
  obtain ⟨k1, k2⟩ := hs1.new _ _ e _ hC
  refine ⟨_, _, hrun, k1, hle1.trans k2, own_new (b := c.w.heap.size) ?_ ?_ hgc⟩
  · show (c.locs ++ [_])[H.length]? = _
    rw [List.getElem?_append_right (by rw [hs.len]; exact Nat.le_refl _)]
    simp [hs.len]
  · exact hmn
end
end Go.VM
