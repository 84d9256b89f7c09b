import Derived.Test.YtkcbjhjpepdkcaaVMi
set_option linter.unusedVariables false
set_option linter.unusedSimpArgs false
set_option linter.unnecessarySimpa false
namespace Go.VM
section
variable {P : Program} {F : Fr} {c : Ctx} {H : Heap}
theorem join_zero (f g : Nat → List V) : join 0 f g = g := by
  funext i
  rw [join_ge f g (Nat.not_lt_zero i), Nat.sub_zero]
theorem hset_hset (H : Heap) (r : Nat) (a b : Blk) : hset (hset H r a) r b = hset H r b := by
  induction H generalizing r with
  | nil => simp [hset]
  | cons x xs ih => cases r <;> simp [hset, ih]
theorem hset_self (H : Heap) (r : Nat) : hset H r (hget H r) = H := by
  induction H generalizing r with
  | nil => simp [hset]
  | cons x xs ih => cases r with
    | zero => simp [hset, hget]
    | succ r => simp [hset, hget]; exact ih r
theorem hget_hset (H : Heap) (r : Nat) (a : Blk) (h : r < H.length) : hget (hset H r a) r = a := by
  induction H generalizing r with
  | nil => simp at h
  | cons x xs ih => cases r with
    | zero => simp [hset, hget]
    | succ r => simp [hset, hget]; exact ih r (by simpa using h)
/-- an append of nothing to nothing -/
theorem append_none {t ty e : Nat} (hT : telem P t = some e) (hs : SR F c H) {A B : Option Addr} {cap : Nat} {g : Nat → List V} {news : List Value} (hn : Rd c (tsize P e) 0 g B news) {nl : Option Bool} (hnl : Nlr nl A) (f : Nat → List V) :
    ∃ c' u, (Builtin.append_ #[t, t] ty #[.slice A 0 0, .slice B 0 cap]).run P c.w = .ok u c'.w ∧ SR F c' (H ++ [.arr (tsize P e) 0 f]) ∧ Le c c' ∧ VR c' (.own nl H.length (tsize P e) 0 0 .loose) u := by
  obtain ⟨hT', he⟩ := telem_some' hT
  obtain ⟨i, hi⟩ := info_of_size he
  have hsz : tsize P e = i.size := by simp [tsize, hi]
  have hnews : news = [] := by
    have := hn.len
    simpa using this
  subst hnews
  have hrun := run_append_in (P := P) c.w t ty e i hT' hi A B 0 0 0 cap [] (by rw [← hsz]; exact hn.first 0 cap) (Nat.le_refl _) (w' := c.w) (by
    cases A with
    | none => rfl
    | some a => simp [storeCells])
  obtain ⟨k1, k2⟩ := hs.virt (tsize P e) f
  refine ⟨{ c with locs := c.locs ++ [none] }, _, hrun, k1, k2, ?_⟩
  simp only [VR]
  refine ⟨A, 0, rfl, ⟨Nat.le_refl _, fun C h => by cases h⟩, (fun h => by cases h), hnl, ?_⟩
  show match (c.locs ++ [none])[H.length]? with | some (some (b, m)) => _ | some none => _ | none => _
  rw [List.getElem?_append_right (by rw [hs.len]; exact Nat.le_refl _)]
  simp [hs.len]
theorem copy_case {t ty e : Nat} (hT : telem P t = some e) {z : List V} (hz : tzero P e = some z) (hb : tbytes P e ≠ 0) (hs : SR F c H)
    {A B : Option Addr} {n m cap : Nat} {f g : Nat → List V} {olds news : List Value} (ho : Rd c (tsize P e) n f A olds) (hn : Rd c (tsize P e) m g B news)
    (hnm : n = 0 ∨ 0 < m) (hfit : (n + m) * tbytes P e ≤ 140737488355328) {nl : Option Bool} (hnl : Nlr nl A) (hA : A = none → n = 0) :
    ∃ c' u, (Builtin.append_ #[t, t] ty #[.slice A n n, .slice B m cap]).run P c.w = .ok u c'.w ∧ SR F c' (H ++ [.arr (tsize P e) (n + m) (join n f g)]) ∧ Le c c' ∧
      VR c' (.own (napp nl m) H.length (tsize P e) 0 (n + m) .loose) u := by
  by_cases hm : m = 0
  · subst hm
    obtain rfl : n = 0 := by omega
    have := append_none (P := P) (ty := ty) (cap := cap) hT hs hn hnl (join 0 f g)
    simpa [napp] using this
  · exact append_grow (P := P) (ty := ty) hT hz hb hs ho hn (by omega) hfit nl fun h => hA ((hnl true h).1 rfl)
theorem over_cont {e n' m i0 cap : Nat} {f g : Nat → List V} {C C' : Array Value} {news : List Value} (hC : Cont c C cap (.arr e n' f)) (hnl : news.length = m * e) (hne : ∀ i, i < m → (g i).length = e ∧ One e (fun j => news[i * e + j]?) ∧ VRs c (g i) fun j => news[i * e + j]?) (hi0 : i0 ≤ n') (hcap : i0 + m ≤ cap)
    (hsz : C'.size = C.size) (hget : ∀ j : Nat, C'[j]? = if i0 * e ≤ j ∧ j - i0 * e < news.length then news[j - i0 * e]? else C[j]?) : Cont c C' cap (.arr e (max n' (i0 + m)) (over i0 m g f)) := by
  obtain ⟨h1, h2, h3⟩ := hC
  refine ⟨hsz.trans h1, by omega, fun i hi => ?_⟩
  by_cases hin : i0 ≤ i ∧ i < i0 + m
  · have hov : over i0 m g f i = g (i - i0) := if_pos hin
    rw [hov]
    obtain ⟨p1, p2, p3⟩ := hne (i - i0) (by omega)
    have hle : i0 * e ≤ i * e := Nat.mul_le_mul_right _ hin.1
    have hme : (i - i0 + 1) * e ≤ m * e := Nat.mul_le_mul_right _ (by omega)
    have hsub : (i - i0) * e = i * e - i0 * e := Nat.sub_mul _ _ _
    rw [Nat.add_mul, Nat.one_mul] at hme
    have key : ∀ j, j < e → C'[i * e + j]? = news[(i - i0) * e + j]? := fun j hj => by
      rw [hget, if_pos ⟨by omega, by rw [hnl]; omega⟩]
      congr 1
      omega
    exact ⟨p1, p2.mono key, VRs_congr p3 fun j hj => key j (by omega)⟩
  · have hov : over i0 m g f i = f i := if_neg hin
    rw [hov]
    obtain ⟨p1, p2, p3⟩ := h3 i (by omega)
    have key : ∀ j, j < e → C'[i * e + j]? = C[i * e + j]? := fun j hj => by
      rw [hget, if_neg ?_]
      rintro ⟨q1, q2⟩
      rw [hnl] at q2
      have : i * e + j < (i0 + m) * e := by rw [Nat.add_mul]; omega
      apply hin
      constructor
      · exact Nat.le_of_not_lt fun hlt => by
          have : (i + 1) * e ≤ i0 * e := Nat.mul_le_mul_right _ hlt
          rw [Nat.add_mul, Nat.one_mul] at this
          omega
      · exact Nat.lt_of_not_le fun hge => by
          have : (i0 + m) * e ≤ i * e := Nat.mul_le_mul_right _ hge
          omega
    exact ⟨p1, p2.mono key, VRs_congr p3 fun j hj => key j (by omega)⟩
set_option maxHeartbeats 2000000 in
theorem appendV_ok {t ty e : Nat} (hT : telem P t = some e) {z : List V} (hz : tzero P e = some z) (hb : tbytes P e ≠ 0) (hs : SR F c H)
    {s x : V} {u v : Value} (hsv : VR c s u) (hx : VR c x v) {K : V → Heap → Prop} (h : appendV (tsize P e) (tbytes P e) H s x K) :
    ∃ c' H' r y, (Builtin.append_ #[t, t] ty #[u, v]).run P c.w = .ok r c'.w ∧ SR F c' H' ∧ Le c c' ∧ VR c' y r ∧ K y H' := by
  obtain ⟨hT', he⟩ := telem_some' hT
  obtain ⟨i, hi⟩ := info_of_size he
  have hsz : tsize P e = i.size := by simp [tsize, hi]
  unfold appendV at h
  split at h
  case h_2 => exact h.elim
  rename_i q m g hv
  split at h
  · -- nil
    obtain ⟨⟨hq, hfit⟩, hK⟩ := h
    obtain ⟨B, cap, news, rfl, hmc, hn⟩ := view_ok hs he hx hv hq
    simp only [VR] at hsv
    subst hsv
    obtain ⟨olds, ho⟩ := Rd.of (c := c) (m := 0) (g := fun _ => []) (A := none) he (fun i hi => by omega)
    obtain ⟨c', r, k1, k2, k3, k4⟩ := copy_case (P := P) (ty := ty) (cap := cap) hT hz hb hs ho hn (.inl rfl) (by rw [Nat.zero_add]; exact hfit) (nl := some true) (fun b hb => by cases hb; simp) (fun _ => rfl)
    rw [join_zero, Nat.zero_add] at k2
    rw [Nat.zero_add] at k4
    exact ⟨c', _, r, _, k1, k2, k3, k4, by rw [hlen_eq, hadd_eq] at hK; exact hK⟩
  · rename_i nl b e' n f
    cases hbb : Nat.beq (tsize P e) e' with
    | false => rw [hbb] at h; exact h.elim
    | true =>
      rw [hbb] at h
      obtain rfl := beq_nat hbb
      obtain ⟨⟨hq, rfl, hnm, hfit⟩, hK⟩ := h
      obtain ⟨B, cap, news, rfl, hmc, hn⟩ := view_ok hs he hx hv hq
      have hself : view (tsize P e) H (.lst nl (.cut true) (tsize P e) n f) = some (True, n, f) := by simp [view]
      obtain ⟨A, scap, olds, hu, hsc, ho⟩ := view_ok hs he hsv hself trivial
      subst hu
      simp only [VR] at hsv
      obtain ⟨A', cap', e1, e2, e3, e4, e5, _⟩ := hsv
      simp only [Value.slice.injEq] at e1
      obtain ⟨rfl, -, rfl⟩ := e1
      obtain rfl : scap = n := e3 trivial
      obtain ⟨c', r, k1, k2, k3, k4⟩ := copy_case (P := P) (ty := ty) (cap := cap) hT hz hb hs ho hn hnm hfit e4 (fun h => e5 h)
      exact ⟨c', _, r, _, k1, k2, k3, k4, by rw [hlen_eq, hadd_eq] at hK; exact hK⟩
  · rename_i nl r e' off n b
    split at h
    · rename_i q' n'' f hself
      obtain ⟨⟨hq, hq', rfl, hnm, hfit⟩, hK⟩ := h
      have hn' : n'' = n := by
        unfold view at hself
        dsimp only at hself
        split at hself
        · rename_i e'' m' f' hb'
          cases hbb : band (Nat.beq (tsize P e) e') (Nat.beq (tsize P e) e'') with
          | false => rw [hbb] at hself; cases hself
          | true => rw [hbb] at hself; simp only [cond, Option.some.injEq, Prod.mk.injEq] at hself; exact hself.2.1.symm
        · cases hself
      subst hn'
      obtain ⟨B, cap, news, rfl, hmc, hn⟩ := view_ok hs he hx hv hq
      obtain ⟨A, scap, olds, hu, hsc, ho⟩ := view_ok hs he hsv hself hq'
      subst hu
      simp only [VR] at hsv
      obtain ⟨A', cap', e1, e2, e3, e4, e5⟩ := hsv
      simp only [Value.slice.injEq] at e1
      obtain ⟨rfl, -, rfl⟩ := e1
      obtain rfl : scap = n'' := e3 trivial
      obtain ⟨c', r', k1, k2, k3, k4⟩ := copy_case (P := P) (ty := ty) (cap := cap) hT hz hb hs ho hn hnm hfit e4 (fun hA => by
        subst hA
        split at e5
        · obtain ⟨_, e6⟩ := e5
          rcases Nat.eq_zero_or_pos scap with h0 | h0
          · exact h0
          · have := e6 h0; cases this
        · exact e5
        · exact e5.elim)
      exact ⟨c', _, r', _, k1, k2, k3, k4, by rw [hlen_eq, hadd_eq] at hK; exact hK⟩
    · exact h.elim
  · rename_i nl r e' off n
    split at h
    case h_2 => exact h.elim
    rename_i e'' n' f hblk
    cases hbb : band (Nat.beq (tsize P e) e') (Nat.beq (tsize P e) e'') with
    | false => rw [hbb] at h; exact h.elim
    | true =>
      rw [hbb] at h
      dsimp only [cond] at h
      obtain ⟨⟨hq, h0, hnn, hfit⟩, hK⟩ := h
      have hself : view (tsize P e) H (.own nl r e' off n .loose) = some (off + n ≤ n', n, fun i => f (off + i)) := by simp [view, hblk, hbb]
      obtain ⟨hb1, hb2⟩ := band_true hbb
      obtain rfl := beq_nat hb1
      obtain rfl := beq_nat hb2
      obtain ⟨B, cap, news, rfl, hmc, hn⟩ := view_ok hs he hx hv hq
      obtain ⟨A, scap, olds, hu, hsc, ho⟩ := view_ok hs he hsv hself (by omega)
      subst hu h0 hnn
      simp only [Nat.zero_add] at ho
      have hlen' : (hset H r .dead).length = H.length := hset_length _ _ _
      rw [hlen_eq, hadd_eq] at hK
      simp only [VR] at hsv
      obtain ⟨A', cap', e1, e2, e3, e4, e5⟩ := hsv
      simp only [Value.slice.injEq] at e1
      obtain ⟨rfl, -, rfl⟩ := e1
      have hA0 : A = none → scap = 0 := fun hA => by
        subst hA
        split at e5
        · rcases Nat.eq_zero_or_pos scap with h0 | h0
          · exact h0
          · have := e5.2 h0; cases this
        · exact e5
        · exact e5.elim
      by_cases hroom : n + m ≤ scap
      · by_cases hsc0 : scap = 0
        · subst hsc0
          obtain rfl : n = 0 := by omega
          obtain rfl : m = 0 := by omega
          obtain ⟨c', u, k1, k2, k3, k4⟩ := append_none (P := P) (ty := ty) (cap := cap) hT (hs.dead r) hn e4 (join 0 f g)
          rw [hlen'] at k4
          exact ⟨c', _, u, _, k1, k2, k3, k4, by simpa [napp] using hK⟩
        · -- in place
          have hpos : 0 < scap := by omega
          split at e5
          · rename_i b capr hr
            obtain ⟨e5, e6⟩ := e5
            obtain rfl := e6 hpos
            have hnl : Nlr (napp nl m) (some (⟨b, 0 * tsize P e, none⟩ : Addr)) := by
              intro b' hb'
              cases m with
              | zero => exact e4 b' hb'
              | succ m => cases hb'; simp
            have hlive := hget_live hblk trivial
            have hrl : r < H.length := hs.lt hr
            obtain ⟨C, el, g1, ⟨g2, g3, g4⟩, _⟩ := hs.blk r _ _ hlive hr trivial
            have hones : ∀ v ∈ news, v.oneCell' = true := by
              intro v hv
              obtain ⟨j, hj, rfl⟩ := List.getElem_of_mem hv
              have hjm : j < m * tsize P e := by rw [← hn.len]; exact hj
              have hd : j / tsize P e < m := Nat.div_lt_of_lt_mul (by rw [Nat.mul_comm]; exact hjm)
              obtain ⟨_, p2, _⟩ := hn.elt _ hd
              have hq' : j / tsize P e * tsize P e + j % tsize P e = j := by rw [Nat.mul_comm]; exact Nat.div_add_mod j _
              exact p2 (j % tsize P e) _ (Nat.mod_lt _ (by omega)) (by dsimp only; rw [hq']; simp [hj])
            have hCs : n * tsize P e + news.length ≤ C.size := by
              rw [hn.len, g2, ← Nat.add_mul]
              exact Nat.mul_le_mul_right _ (by omega)
            have hst := run_storeCells_at P b (n * tsize P e) el news 0 C c.w g1 (by omega) hones
            have hrun := run_append_in (P := P) c.w t ty e i hT' hi (some ⟨b, 0 * tsize P e, none⟩) B n scap m cap news (by rw [← hsz]; exact hn.first m cap) hroom
              (w' := c.w.setRow b (C.toList.take (n * tsize P e) ++ news ++ C.toList.drop (n * tsize P e + news.length)).toArray) (by
                dsimp only
                rw [← hsz, Nat.zero_mul, Addr.add_lit, Nat.zero_add]
                simpa using hst)
            have hgetC : ∀ j, (C.toList.take (n * tsize P e) ++ news ++ C.toList.drop (n * tsize P e + news.length)).toArray[j]? = if n * tsize P e ≤ j ∧ j - n * tsize P e < news.length then news[j - n * tsize P e]? else C[j]? := fun j => by
              rw [List.getElem?_toArray, splice_get _ _ _ _ (by simpa using hCs)]
              simp
            have hoC : ∀ j, j < n * tsize P e → olds[j]? = C[j]? := fun j hj => by
              have hjl : j < olds.length := by rw [ho.len]; exact hj
              obtain ⟨a, ha, hc⟩ := ho.get j olds[j] (by simp [hjl])
              cases ha
              rw [Nat.zero_mul, Addr.add_lit, Nat.zero_add, cell_row g1] at hc
              rw [hc]; simp [hjl]
            have HS := hs.set hlive trivial hr (.arr (tsize P e) (n + m) (join n f g)) (C.toList.take (n * tsize P e) ++ news ++ C.toList.drop (n * tsize P e + news.length)).toArray (cap := capr) (by
              refine join_cont ho hn (by simp; omega) (by omega) fun j hj => ?_
              rw [hgetC]
              rw [Nat.add_mul] at hj
              by_cases hjn : j < n * tsize P e
              · rw [if_neg (by omega), List.getElem?_append_left (by rw [ho.len]; exact hjn), hoC j hjn]
              · have h1 : j - n * tsize P e < news.length := by rw [hn.len]; exact Nat.sub_lt_left_of_lt_add (Nat.le_of_not_lt hjn) hj
                rw [if_pos ⟨Nat.le_of_not_lt hjn, h1⟩, List.getElem?_append_right (by rw [ho.len]; exact Nat.le_of_not_lt hjn), ho.len])
            obtain ⟨hs1, hle1⟩ := HS
            obtain ⟨hs2, hle2⟩ := hs1.move (r := r) (l := some (b, capr)) hr
            rw [hset_hset, hget_hset _ _ _ hrl] at hs2
            refine ⟨_, _, _, _, hrun, hs2, hle1.trans hle2, ?_, by simpa using hK⟩
            rw [Nat.zero_mul]
            have hr2 : (c.locs ++ [some (b, capr)])[H.length]? = some (some (b, capr)) := by
              rw [List.getElem?_append_right (by rw [hs.len]; exact Nat.le_refl _)]
              simp [hs.len]
            simp only [VR]
            refine ⟨_, _, rfl, ⟨hroom, fun C h => by cases h⟩, (fun h => by cases h), (by rw [Nat.zero_mul] at hnl; exact hnl), ?_⟩
            rw [hr2]
            exact ⟨by omega, fun _ => by rw [Nat.zero_mul]⟩
          · omega
          · exact e5.elim
      · obtain ⟨c', u, k1, k2, k3, k4⟩ := append_grow (P := P) (ty := ty) hT hz hb (sCap := scap) (hs.dead r) ho hn (by omega) hfit nl fun h => by have := hA0 ((e4 true h).1 rfl); omega
        rw [hlen'] at k4
        exact ⟨c', _, u, _, k1, k2, k3, k4, hK⟩
  · rename_i nl r e' off n CC
    split at h
    case h_2 => exact h.elim
    rename_i e'' n' f hblk
    cases hbb : band (Nat.beq (tsize P e) e') (Nat.beq (tsize P e) e'') with
    | false => rw [hbb] at h; exact h.elim
    | true =>
      rw [hbb] at h
      dsimp only [cond] at h
      obtain ⟨⟨hq, hnn, hfit⟩, hK1, hK2⟩ := h
      have hself : view (tsize P e) H (.own nl r e' off n (.exact CC)) = some (off + n ≤ n', n, fun i => f (off + i)) := by simp [view, hblk, hbb]
      obtain ⟨hb1, hb2⟩ := band_true hbb
      obtain rfl := beq_nat hb1
      obtain rfl := beq_nat hb2
      obtain ⟨B, cap, news, rfl, hmc, hn⟩ := view_ok hs he hx hv hq
      obtain ⟨A, scap, olds, hu, hsc, ho⟩ := view_ok hs he hsv hself hnn
      subst hu
      rw [hlen_eq, hadd_eq] at hK2
      simp only [VR] at hsv
      obtain ⟨A', cap', e1, e2, e3, e4, e5⟩ := hsv
      simp only [Value.slice.injEq] at e1
      obtain ⟨rfl, -, rfl⟩ := e1
      obtain rfl : scap = CC := e2.2 _ rfl
      have hA0 : A = none → scap = 0 := fun hA => by
        subst hA
        split at e5
        · rcases Nat.eq_zero_or_pos scap with h0 | h0
          · exact h0
          · have := e5.2 h0; cases this
        · exact e5
        · exact e5.elim
      by_cases hroom : n + m ≤ scap
      · by_cases hsc0 : scap = 0
        · subst hsc0
          obtain rfl : n = 0 := by omega
          obtain rfl : m = 0 := by omega
          have hnews : news = [] := by
            have := hn.len
            simpa using this
          subst hnews
          have hrun := run_append_in (P := P) c.w t ty e i hT' hi A B 0 0 0 cap [] (by rw [← hsz]; exact hn.first 0 cap) (Nat.le_refl _) (w' := c.w) (by
            cases A with
            | none => rfl
            | some a => simp [storeCells])
          have hov : over (off + 0) 0 g f = f := by funext q; exact if_neg (by omega)
          have hset0 : hset H r (.arr (tsize P e) (max n' (off + 0 + 0)) (over (off + 0) 0 g f)) = H := by
            rw [hov, show max n' (off + 0 + 0) = n' from by omega, ← hblk]
            exact hset_self H r
          refine ⟨c, _, _, _, hrun, hs, Le.refl _, ?_, by have := hK1 hroom; rw [hset0] at this; exact this⟩
          simp only [VR]
          exact ⟨A, 0, rfl, e2, e3, e4, e5⟩
        · have hpos : 0 < scap := by omega
          split at e5
          · rename_i b capr hr
            obtain ⟨e5, e6⟩ := e5
            obtain rfl := e6 hpos
            have hlive := hget_live hblk trivial
            have hrl : r < H.length := hs.lt hr
            obtain ⟨C, el, g1, hCont, _⟩ := hs.blk r _ _ hlive hr trivial
            have g2 : C.size = capr * tsize P e := hCont.1
            have hones : ∀ v ∈ news, v.oneCell' = true := by
              intro v hv
              obtain ⟨j, hj, rfl⟩ := List.getElem_of_mem hv
              have hjm : j < m * tsize P e := by rw [← hn.len]; exact hj
              have hd : j / tsize P e < m := Nat.div_lt_of_lt_mul (by rw [Nat.mul_comm]; exact hjm)
              obtain ⟨_, p2, _⟩ := hn.elt _ hd
              have hq' : j / tsize P e * tsize P e + j % tsize P e = j := by rw [Nat.mul_comm]; exact Nat.div_add_mod j _
              exact p2 (j % tsize P e) _ (Nat.mod_lt _ (by omega)) (by dsimp only; rw [hq']; simp [hj])
            have hCs : (off + n) * tsize P e + news.length ≤ C.size := by
              rw [hn.len, g2, ← Nat.add_mul]
              exact Nat.mul_le_mul_right _ (by omega)
            have hst := run_storeCells_at P b ((off + n) * tsize P e) el news 0 C c.w g1 (by omega) hones
            have hrun := run_append_in (P := P) c.w t ty e i hT' hi (some ⟨b, off * tsize P e, none⟩) B n scap m cap news (by rw [← hsz]; exact hn.first m cap) hroom
              (w' := c.w.setRow b (C.toList.take ((off + n) * tsize P e) ++ news ++ C.toList.drop ((off + n) * tsize P e + news.length)).toArray) (by
                dsimp only
                rw [← hsz, Addr.add_lit, ← Nat.add_mul]
                simpa using hst)
            have hgetC : ∀ j : Nat, (C.toList.take ((off + n) * tsize P e) ++ news ++ C.toList.drop ((off + n) * tsize P e + news.length)).toArray[j]? = if (off + n) * tsize P e ≤ j ∧ j - (off + n) * tsize P e < news.length then news[j - (off + n) * tsize P e]? else C[j]? := fun j => by
              rw [List.getElem?_toArray, splice_get _ _ _ _ (by simpa using hCs)]
              simp
            obtain ⟨hs1, hle1⟩ := hs.set hlive trivial hr (.arr (tsize P e) (max n' (off + n + m)) (over (off + n) m g f)) (C.toList.take ((off + n) * tsize P e) ++ news ++ C.toList.drop ((off + n) * tsize P e + news.length)).toArray (cap := capr)
              (over_cont hCont hn.len hn.elt hnn (by omega) (by simp; omega) hgetC)
            refine ⟨_, _, _, _, hrun, hs1, hle1, ?_, hK1 hroom⟩
            simp only [VR]
            refine ⟨_, _, rfl, ⟨hroom, fun C h => by cases h; rfl⟩, (fun h => by cases h), e4, ?_⟩
            rw [hr]
            exact ⟨e5, fun _ => rfl⟩
          · omega
          · exact e5.elim
      · obtain ⟨c', u, k1, k2, k3, k4⟩ := append_grow (P := P) (ty := ty) hT hz hb (sCap := scap) hs ho hn (by omega) hfit nl fun h => by have := hA0 ((e4 true h).1 rfl); omega
        exact ⟨c', _, u, _, k1, k2, k3, k4, hK2 (by omega)⟩
  · exact h.elim
end
end Go.VM
