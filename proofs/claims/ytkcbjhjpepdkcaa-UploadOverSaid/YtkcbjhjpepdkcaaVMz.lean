import Derived.Test.YtkcbjhjpepdkcaaVMk
set_option linter.unusedVariables false
set_option linter.unusedSimpArgs false
set_option linter.unnecessarySimpa false
namespace Go.VM
section
variable {P : Program} {F : Fr} {c : Ctx} {H : Heap}
/-- some elements put into a slice of the call's own -/
theorem put_own (hs : SR F c H) {nl : Option Bool} {r e off n n' k : Nat} {t : Tg} {f g : Nat → List V} {u : Value} (hx : VR c (.own nl r e off n t) u) (hblk : hget H r = .arr e n' f) (hk : k ≤ n) (hoff : off ≤ n')
    {news : List Value} (hl : news.length = k * e) (he : ∀ i, i < k → (g i).length = e ∧ One e (fun j => news[i * e + j]?) ∧ VRs c (g i) fun j => news[i * e + j]?) (he0 : e ≠ 0) :
    ∃ A cap, u = .slice A n cap ∧ (A = none → cap = 0) ∧ ∃ c', (match A with | some a => storeCells a news | none => pure ()).run P c.w = .ok () c'.w ∧ SR F c' (hset H r (.arr e (max n' (off + k)) (over off k g f))) ∧ Le c c' := by
  simp only [VR] at hx
  obtain ⟨A, cap, rfl, e2, e3, e4, e5⟩ := hx
  have hA0 : A = none → cap = 0 := fun hA => by
    subst hA
    split at e5
    · rcases Nat.eq_zero_or_pos cap with h0 | h0
      · exact h0
      · have := e5.2 h0; cases this
    · exact e5
    · exact e5.elim
  refine ⟨A, cap, rfl, hA0, ?_⟩
  by_cases hk0 : k = 0
  · subst hk0
    have hnews : news = [] := by simpa using hl
    subst hnews
    have hov : over off 0 g f = f := by funext q; exact if_neg (by omega)
    have hset0 : hset H r (.arr e (max n' (off + 0)) (over off 0 g f)) = H := by
      rw [hov, show max n' (off + 0) = n' from by omega, ← hblk]
      exact hset_self H r
    refine ⟨c, ?_, by rw [hset0]; exact hs, Le.refl _⟩
    cases A <;> simp [storeCells]
  · have hpos : 0 < cap := by omega
    split at e5
    · rename_i b capr hr
      obtain ⟨e5, e6⟩ := e5
      obtain rfl := e6 hpos
      have hlive := hget_live hblk trivial
      obtain ⟨C, el, g1, hCont, _⟩ := hs.blk r _ _ hlive hr trivial
      have g2 : C.size = capr * e := hCont.1
      have hones : ∀ v ∈ news, v.oneCell' = true := by
        intro v hv
        obtain ⟨j, hj, rfl⟩ := List.getElem_of_mem hv
        have hjm : j < k * e := by rw [← hl]; exact hj
        have hd : j / e < k := Nat.div_lt_of_lt_mul (by rw [Nat.mul_comm]; exact hjm)
        obtain ⟨_, p2, _⟩ := he _ hd
        have hq' : j / e * e + j % e = j := by rw [Nat.mul_comm]; exact Nat.div_add_mod j _
        exact p2 (j % e) _ (Nat.mod_lt _ (by omega)) (by dsimp only; rw [hq']; simp [hj])
      have hCs : off * e + news.length ≤ C.size := by
        rw [hl, g2, ← Nat.add_mul]
        exact Nat.mul_le_mul_right _ (by omega)
      have hst := run_storeCells_at P b (off * e) el news 0 C c.w g1 (by omega) hones
      have hgetC : ∀ j : Nat, (C.toList.take (off * e) ++ news ++ C.toList.drop (off * e + news.length)).toArray[j]? = if off * e ≤ j ∧ j - off * e < news.length then news[j - off * e]? else C[j]? := fun j => by
        rw [List.getElem?_toArray, splice_get _ _ _ _ (by simpa using hCs)]
        simp
      obtain ⟨hs1, hle1⟩ := hs.set hlive trivial hr (.arr e (max n' (off + k)) (over off k g f)) (C.toList.take (off * e) ++ news ++ C.toList.drop (off * e + news.length)).toArray (cap := capr)
        (over_cont hCont hl he hoff (by omega) (by simp; omega) hgetC)
      refine ⟨_, ?_, hs1, hle1⟩
      simpa using hst
    · omega
    · exact e5.elim
theorem zeroCells_get (z : Array Value) (n i j : Nat) (hj : j < z.size) (hi : i < n) : (Builtin.zeroCells z n).toList[i * z.size + j]? = z[j]? := by
  have hlt : i * z.size + j < n * z.size := by
    have : (i + 1) * z.size ≤ n * z.size := Nat.mul_le_mul_right _ hi
    rw [Nat.add_mul, Nat.one_mul] at this
    omega
  have hmod : (i * z.size + j) % z.size = j := by
    rw [Nat.mul_comm, Nat.mul_add_mod]
    exact Nat.mod_eq_of_lt hj
  simp [Builtin.zeroCells, hlt, hmod, hj]
theorem clearV_ok (hs : SR F c H) {t ty e : Nat} (hT : telem P t = some e) {z : List V} (hz : tzero P e = some z) {x : V} {u : Value} (hx : VR c x u) {K : Heap → Prop} (h : clearV (tsize P e) z H x K) :
    ∃ c' H', (Builtin.clear_ #[t] ty #[u]).run P c.w = .ok (.tuple #[]) c'.w ∧ SR F c' H' ∧ Le c c' ∧ K H' := by
  obtain ⟨hT', he⟩ := telem_some' hT
  unfold clearV at h
  split at h
  · simp only [VR] at hx
    subst hx
    exact ⟨c, H, by simp [Builtin.clear_, run_underlying hT'], hs, Le.refl _, h⟩
  · rename_i nl r e' off n tg
    split at h
    · rename_i e'' n' f hblk
      cases hbb : band (Nat.beq (tsize P e) e') (Nat.beq (tsize P e) e'') with
      | false => rw [hbb] at h; exact h.elim
      | true =>
        rw [hbb] at h
        obtain ⟨hb1, hb2⟩ := band_true hbb
        obtain rfl := beq_nat hb1
        obtain rfl := beq_nat hb2
        obtain ⟨hoff, hK⟩ := h
        obtain ⟨zu, hzr, z1, z2, z3, z4⟩ := zero_ok (c := c) hz
        have hzs : zu.cells.size = tsize P e := by omega
        obtain ⟨A, cap, rfl, hA0, c', k1, k2, k3⟩ := put_own (P := P) hs (g := fun _ => z) (k := n) hx hblk (Nat.le_refl _) hoff (news := (Builtin.zeroCells zu.cells n).toList) (by
            have := zeroCells_size zu.cells n
            simp only [Array.length_toList, this, hzs])
          (fun i hi => ⟨z4, by
            intro j x hj hx
            rw [← hzs] at hx hj
            have hx' := (zeroCells_get zu.cells n i j hj hi).symm.trans hx
            exact z2 j x (by omega) hx', VRs_congr z3 fun j hj => by
            rw [← hzs]
            exact zeroCells_get zu.cells n i j (by omega) hi⟩) he
        refine ⟨c', _, ?_, k2, k3, hK⟩
        by_cases hn0 : n = 0
        · subst hn0
          cases A with
          | none =>
            simp only [Sem.run_pure, Result.ok.injEq, true_and] at k1
            simp [Builtin.clear_, run_underlying hT', k1]
          | some a =>
            have : (Builtin.zeroCells zu.cells 0).toList = [] := by simp [Builtin.zeroCells]
            rw [this] at k1
            simp only [storeCells, Sem.run_pure, Result.ok.injEq, true_and] at k1
            simp [Builtin.clear_, run_underlying hT', k1]
        · cases A with
          | none =>
            have := hA0 rfl
            simp only [VR] at hx
            obtain ⟨A', cap', q1, q2, _⟩ := hx
            cases q1
            omega
          | some a =>
            cases n with
            | zero => exact absurd rfl hn0
            | succ n => simp [Builtin.clear_, run_underlying hT', hzr, k1]
    · exact h.elim
  · exact h.elim
theorem Rd.elt_le {e m k : Nat} {g : Nat → List V} {A : Option Addr} {news : List Value} (h : Rd c e m g A news) (hk : k ≤ m) : Rd c e k g A (news.take (k * e)) := by
  have hle : k * e ≤ m * e := Nat.mul_le_mul_right _ hk
  refine ⟨by rw [List.length_take, h.len]; omega, fun j v hj => ?_, fun i hi => ?_⟩
  · rw [List.getElem?_take] at hj
    split at hj
    · exact h.get j v hj
    · cases hj
  · obtain ⟨p1, p2, p3⟩ := h.elt i (by omega)
    have key : ∀ j, j < e → (news.take (k * e))[i * e + j]? = news[i * e + j]? := fun j hj => by
      have : (i + 1) * e ≤ k * e := Nat.mul_le_mul_right _ hi
      rw [Nat.add_mul, Nat.one_mul] at this
      rw [List.getElem?_take, if_pos (by omega)]
    exact ⟨p1, p2.mono key, VRs_congr p3 fun j hj => key j (by omega)⟩
theorem copyV_ok (hs : SR F c H) {t t' ty e : Nat} (hT : telem P t = some e) {d x : V} {u v : Value} (hd : VR c d u) (hx : VR c x v) {K : Nat → Heap → Prop} (h : copyV (tsize P e) H d x K) :
    ∃ c' H' k, (Builtin.copy_ #[t, t'] ty #[u, v]).run P c.w = .ok (.int .i64 (k : Nat)) c'.w ∧ SR F c' H' ∧ Le c c' ∧ K k H' := by
  obtain ⟨hT', he⟩ := telem_some' hT
  obtain ⟨i, hi⟩ := info_of_size he
  unfold copyV at h
  split at h
  case h_2 => exact h.elim
  rename_i q m g hv
  split at h
  · obtain ⟨hq, hK⟩ := h
    obtain ⟨B, cap, news, rfl, hmc, hn⟩ := view_ok hs he hx hv hq
    simp only [VR] at hd
    subst hd
    refine ⟨c, H, 0, ?_, hs, Le.refl _, hK⟩
    have hf := (hn.elt_le (k := 0) (Nat.zero_le _)).first (P := P) m cap
    have hf0 : (Builtin.firstCells (tsize P e) 0 (.slice B m cap)).run P c.w = .ok #[] c.w := by
      cases B with
      | none => simp [Builtin.firstCells]
      | some a => simp [Builtin.firstCells, loadCells, loadCellsFrom]
    simp [Builtin.copy_, run_underlying hT', Builtin.lenOf, run_sizeOf hi, hf0, goInt]
  · rename_i nl r e' off n tg
    split at h
    · rename_i e'' n' f hblk
      cases hbb : band (Nat.beq (tsize P e) e') (Nat.beq (tsize P e) e'') with
      | false => rw [hbb] at h; exact h.elim
      | true =>
        rw [hbb] at h
        obtain ⟨hb1, hb2⟩ := band_true hbb
        obtain rfl := beq_nat hb1
        obtain rfl := beq_nat hb2
        obtain ⟨⟨hq, hoff⟩, hK⟩ := h
        obtain ⟨B, cap, news, rfl, hmc, hn⟩ := view_ok hs he hx hv hq
        have hk := hn.elt_le (k := min m n) (by omega)
        obtain ⟨A, cap', rfl, hA0, c', k1, k2, k3⟩ := put_own (P := P) hs (g := g) (k := min m n) hd hblk (by omega) hoff hk.len hk.elt he
        refine ⟨c', _, min m n, ?_, k2, k3, hK⟩
        have hf : (Builtin.firstCells (tsize P e) (min m n) (.slice B m cap)).run P c.w = .ok (news.take (min m n * tsize P e)).toArray c.w := by
          have := hk.first (P := P) (min m n) cap
          cases B with
          | none => simpa [Builtin.firstCells] using this
          | some a => simpa [Builtin.firstCells] using this
        have hf' : (Builtin.firstCells (tsize P e) (Nat.min m n) (.slice B m cap)).run P c.w = .ok (news.take (min m n * tsize P e)).toArray c.w := hf
        have hmm : m.min n = min m n := rfl
        cases A with
        | none =>
          simp only [Sem.run_pure, Result.ok.injEq, true_and] at k1
          rw [← k1]
          simp [Builtin.copy_, run_underlying hT', Builtin.lenOf, run_sizeOf hi, hf', goInt, hmm]
        | some a =>
          simp [Builtin.copy_, run_underlying hT', Builtin.lenOf, run_sizeOf hi, hf', goInt, k1, hmm]
    · exact h.elim
  · exact h.elim
end
end Go.VM
