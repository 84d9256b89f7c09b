import Derived.Test.YtkcbjhjpepdkcaaVMu
set_option linter.unusedVariables false
set_option linter.unusedSimpArgs false
set_option linter.unnecessarySimpa false
namespace Go.VM
section
variable {P : Program} {F : Fr} {c : Ctx} {H : Heap}
theorem ext_of_FR {c : Ctx} {nt : Nat} {w' : World} (h : FR ⟨c, fun _ => False, nt⟩ w') : c.w.Extends w' := by
  have hb : ∀ i, i < c.w.heap.size → w'.heap[i]? = c.w.heap[i]? := fun i hi => h.block i hi (fun h => h)
  exact ⟨h.os, h.tape, h.output, h.size, fun a ha => by simp only [World.cell?, hb _ ha], fun a ha => by simp only [World.frozen?, hb _ ha], hb⟩
theorem SR.deadAll (hs : SR F c H) : SR ⟨c, fun _ => False, 0⟩ c (H.map fun _ => .dead) := by
  have key : ∀ (r : Nat) (x : Blk), (H.map fun _ => Blk.dead)[r]? = some x → x = .dead := fun r x h => by
    simp only [List.getElem?_map, Option.map_eq_some_iff] at h
    obtain ⟨_, _, rfl⟩ := h
    rfl
  refine ⟨⟨rfl, rfl, rfl, Nat.le_refl _, fun _ _ _ => rfl⟩, Le.refl _, by simp [hs.len], fun r b l hr hl => ?_, fun r r' x x' b m m' hr hr' hx hx' hl hl' => ?_, hs.imm, fun b h => .inl h⟩
  · obtain rfl := key r b hr
    cases l with
    | none => trivial
    | some l => exact fun h => h.elim
  · obtain rfl := key r x hr
    exact hx.elim
/-- a call that leaves what was there -/
def cwE (P : Program) (f : Nat) (args : List V) (H : Heap) (K : V → Heap → Prop) : Prop :=
  fbody P f = true ∧ ∀ (F : Fr) (c : Ctx), SR F c H → ∀ us : Array Value, us.size = args.length → (VRs c args fun j => us[j]?) →
    Calls P f us c.w fun e w' => ∃ c' u v H', e = .returned u ∧ c'.w = w' ∧ Le c c' ∧ SR F c' H' ∧ VR c' v u ∧ (c.w.Extends c'.w ∧ K v H')
/-- likewise under a guard -/
def cgE (P : Program) (f : Nat) (args : List V) (H : Heap) (p : Path) (K : V → Prop) : Prop :=
  ∃ v, (pc p → cwE P f args H fun v' H' => v' = v ∧ H' = H) ∧ K v
@[congr] theorem cwE_congr {P : Program} {f : Nat} {args args' : List V} {H H' : Heap} {K : V → Heap → Prop} (h1 : args = args') (h2 : H = H') : cwE P f args H K = cwE P f args' H' K := by rw [h1, h2]
@[congr] theorem cgE_congr {P : Program} {f : Nat} {args args' : List V} {H H' : Heap} {p : Path} {K : V → Prop} (h1 : args = args') (h2 : H = H') : cgE P f args H p K = cgE P f args' H' p K := by rw [h1, h2]
theorem cwE_meets {f : Nat} {args : List V} {v : V} {H1 : Heap} (h : Meets P f args v H1) (hnr : ltrs 0 args = true) {K : V → Heap → Prop} (hk : K (shV (hlen H) v) (happ H (shH (hlen H) H1))) : cwE P f args H K := by
  refine ⟨h.1, fun F c hs us hsz hus => ?_⟩
  have hus' : VRs ⟨c.w, c.I, []⟩ args fun j => us[j]? := by
    have := VRs_cut args _ hnr hus
    simpa [Ctx.cut] using this
  refine Calls.mono (h.2 c.w c.I hs.imm us hsz hus') ?_
  rintro e w' ⟨c', u, rfl, rfl, h1, h2⟩
  have hx : c.w.Extends c'.w := ext_of_FR (c := ⟨c.w, c.I, []⟩) h1.fr
  obtain ⟨k1, k2⟩ := hs.call h1
  rw [hlen_eq, happ_eq] at hk
  have key := VR_sh (c := c') (c' := ⟨c'.w, c'.I, c.locs ++ c'.locs⟩) (n := H.length) rfl (fun _ h => h) (fun r l hr => by
    show (c.locs ++ c'.locs)[H.length + r]? = _
    rw [List.getElem?_append_right (by rw [hs.len]; omega), hs.len]
    simpa using hr) v u h2
  exact ⟨⟨c'.w, c'.I, c.locs ++ c'.locs⟩, u, _, _, rfl, rfl, k2, k1, key, hx, hk⟩
theorem cwE_view (d : Nat) {f : Nat} {args : List V} {v : V} {H1 : Heap} (h : Meets P f (frWs true (frD [] H d) [] H args) v H1) (hv : flat v = true) (hok : okWs (okD [] H d) [] H args) {K : V → Heap → Prop} (hk : K v H) : cwE P f args H K := by
  refine ⟨h.1, fun F c hs us hsz hus => ?_⟩
  have himm : ∀ b, FzI c [] H b → b < c.w.heap.size := by
    rintro b (h | ⟨r, cap, x, h1, h2, h3, h4⟩)
    · exact hs.imm b h
    · obtain ⟨C, el, k1, _⟩ := hs.blk r x _ h2 h4 h3
      exact (Array.getElem?_eq_some_iff.1 k1).1
  have hus' : VRs ⟨c.w, FzI c [] H, []⟩ (frWs true (frD [] H d) [] H args) fun j => us[j]? :=
    frWs_ok (top := true) (σ := []) hs (fun _ r i h => by cases h) (fun _ h => h) (frD_ok hs (fun _ h => h) d) (frD_length [] H d) args _ hok hus
  refine Calls.mono (h.2 c.w (FzI c [] H) himm us (by rw [frWs_length]; exact hsz) hus') ?_
  rintro e w' ⟨c', u, rfl, rfl, h1, h2⟩
  have hfr : FR ⟨c, fun _ => False, 0⟩ c'.w := ⟨h1.fr.os, h1.fr.tape, h1.fr.output, h1.fr.size, h1.fr.block⟩
  obtain ⟨k1, k2⟩ := hs.after hfr
  exact ⟨{ c with w := c'.w }, u, v, H, rfl, rfl, k2, k1, VR_flat v u hv h2, ext_of_FR hfr, hk⟩
theorem copy_caseE {t ty e : Nat} (hT : telem P t = some e) {z : List V} (hz : tzero P e = some z) (hb : tbytes P e ≠ 0) (hs : SR F c H)
    {A B : Option Addr} {n m cap : Nat} {f g : Nat → List V} {olds news : List Value} (ho : Rd c (tsize P e) n f A olds) (hn : Rd c (tsize P e) m g B news)
    (hnm : n = 0 ∨ 0 < m) (hfit : (n + m) * tbytes P e ≤ 140737488355328) {nl : Option Bool} (hnl : Nlr nl A) (hA : A = none → n = 0) :
    ∃ c' u, (Builtin.append_ #[t, t] ty #[.slice A n n, .slice B m cap]).run P c.w = .ok u c'.w ∧ SR F c' (H ++ [.arr (tsize P e) (n + m) (join n f g)]) ∧ Le c c' ∧
      VR c' (.own (napp nl m) H.length (tsize P e) 0 (n + m) .loose) u ∧ c.w.Extends c'.w := by
  obtain ⟨c', u, k1, k2, k3, k4⟩ := copy_case (P := P) (ty := ty) (cap := cap) hT hz hb hs ho hn hnm hfit hnl hA
  obtain ⟨c2, u2, g1, g2, g3, g4⟩ := copy_case (P := P) (ty := ty) (cap := cap) hT hz hb hs.deadAll ho hn hnm hfit hnl hA
  refine ⟨c', u, k1, k2, k3, k4, ?_⟩
  rw [k1] at g1
  simp only [Result.ok.injEq] at g1
  rw [g1.2]
  exact ext_of_FR g2.fr
/-- a slice that an append copies -/
def stayB : V → Bool
  | .own _ _ _ _ _ .loose => false
  | .own _ _ _ _ _ (.exact _) => false
  | _ => true
set_option maxHeartbeats 1000000 in
theorem appendV_okE {t ty e : Nat} (hT : telem P t = some e) {z : List V} (hz : tzero P e = some z) (hb : tbytes P e ≠ 0) (hs : SR F c H)
    {s x : V} {u v : Value} (hsv : VR c s u) (hx : VR c x v) (hst : stayB s = true) {K : V → Heap → Prop} (h : appendV (tsize P e) (tbytes P e) H s x K) :
    ∃ c' H' r y, (Builtin.append_ #[t, t] ty #[u, v]).run P c.w = .ok r c'.w ∧ SR F c' H' ∧ Le c c' ∧ VR c' y r ∧ (c.w.Extends c'.w ∧ K y H') := by
  obtain ⟨hT', he⟩ := telem_some' hT
  obtain ⟨i, hi⟩ := info_of_size he
  have hsz : tsize P e = i.size := by simp [tsize, hi]
  unfold appendV at h
  split at h
  case h_2 => exact h.elim
  rename_i q m g hv
  split at h
  · -- nil
    obtain ⟨⟨hq, hfit⟩, hK⟩ := h
    obtain ⟨B, cap, news, rfl, hmc, hn⟩ := view_ok hs he hx hv hq
    simp only [VR] at hsv
    subst hsv
    obtain ⟨olds, ho⟩ := Rd.of (c := c) (m := 0) (g := fun _ => []) (A := none) he (fun i hi => by omega)
    obtain ⟨c', r, k1, k2, k3, k4, k5⟩ := copy_caseE (P := P) (ty := ty) (cap := cap) hT hz hb hs ho hn (.inl rfl) (by rw [Nat.zero_add]; exact hfit) (nl := some true) (fun b hb => by cases hb; simp) (fun _ => rfl)
    rw [join_zero, Nat.zero_add] at k2
    rw [Nat.zero_add] at k4
    exact ⟨c', _, r, _, k1, k2, k3, k4, k5, by rw [hlen_eq, hadd_eq] at hK; exact hK⟩
  · rename_i nl b e' n f
    cases hbb : Nat.beq (tsize P e) e' with
    | false => rw [hbb] at h; exact h.elim
    | true =>
      rw [hbb] at h
      obtain rfl := beq_nat hbb
      obtain ⟨⟨hq, rfl, hnm, hfit⟩, hK⟩ := h
      obtain ⟨B, cap, news, rfl, hmc, hn⟩ := view_ok hs he hx hv hq
      have hself : view (tsize P e) H (.lst nl (.cut true) (tsize P e) n f) = some (True, n, f) := by simp [view]
      obtain ⟨A, scap, olds, hu, hsc, ho⟩ := view_ok hs he hsv hself trivial
      subst hu
      simp only [VR] at hsv
      obtain ⟨A', cap', e1, e2, e3, e4, e5, _⟩ := hsv
      simp only [Value.slice.injEq] at e1
      obtain ⟨rfl, -, rfl⟩ := e1
      obtain rfl : scap = n := e3 trivial
      obtain ⟨c', r, k1, k2, k3, k4, k5⟩ := copy_caseE (P := P) (ty := ty) (cap := cap) hT hz hb hs ho hn hnm hfit e4 (fun h => e5 h)
      exact ⟨c', _, r, _, k1, k2, k3, k4, k5, by rw [hlen_eq, hadd_eq] at hK; exact hK⟩
  · rename_i nl r e' off n b
    split at h
    · rename_i q' n'' f hself
      obtain ⟨⟨hq, hq', rfl, hnm, hfit⟩, hK⟩ := h
      have hn' : n'' = n := by
        unfold view at hself
        dsimp only at hself
        split at hself
        · rename_i e'' m' f' hb'
          cases hbb : band (Nat.beq (tsize P e) e') (Nat.beq (tsize P e) e'') with
          | false => rw [hbb] at hself; cases hself
          | true => rw [hbb] at hself; simp only [cond, Option.some.injEq, Prod.mk.injEq] at hself; exact hself.2.1.symm
        · cases hself
      subst hn'
      obtain ⟨B, cap, news, rfl, hmc, hn⟩ := view_ok hs he hx hv hq
      obtain ⟨A, scap, olds, hu, hsc, ho⟩ := view_ok hs he hsv hself hq'
      subst hu
      simp only [VR] at hsv
      obtain ⟨A', cap', e1, e2, e3, e4, e5⟩ := hsv
      simp only [Value.slice.injEq] at e1
      obtain ⟨rfl, -, rfl⟩ := e1
      obtain rfl : scap = n'' := e3 trivial
      obtain ⟨c', r', k1, k2, k3, k4, k5⟩ := copy_caseE (P := P) (ty := ty) (cap := cap) hT hz hb hs ho hn hnm hfit e4 (fun hA => by
        subst hA
        split at e5
        · obtain ⟨_, e6⟩ := e5
          rcases Nat.eq_zero_or_pos scap with h0 | h0
          · exact h0
          · have := e6 h0; cases this
        · exact e5
        · exact e5.elim)
      exact ⟨c', _, r', _, k1, k2, k3, k4, k5, by rw [hlen_eq, hadd_eq] at hK; exact hK⟩
    · exact h.elim
  · cases hst
  · cases hst
  · exact h.elim
theorem buildSliceV_okE (hs : SR F c H) {T e n : Nat} (hT : telem P T = some e) {parts : List (Nat × V)} {vals : Array (Nat × Value)} (hp : PR c parts vals.toList) {K : V → Heap → Prop}
    (h : buildSliceV (tsize P e) (tzero P e) n parts H K) : ∃ c' H' r y, (Instr.buildSlice T n vals).run P c.w = .ok r c'.w ∧ SR F c' H' ∧ Le c c' ∧ VR c' y r ∧ (c.w.Extends c'.w ∧ K y H') := by
  obtain ⟨c', H', r, y, k1, k2, k3, k4, k5⟩ := buildSliceV_ok hs hT hp h
  have h2 : buildSliceV (tsize P e) (tzero P e) n parts (H.map fun _ => .dead) fun _ _ => True := by
    unfold buildSliceV at h ⊢
    split at h
    · split at h
      · rename_i cs hcs
        simp only [hcs]
        cases hb : Nat.ble (n * tsize P e) 16777216 with
        | false => rw [hb] at h; exact h.elim
        | true => trivial
      · exact h.elim
    · exact h.elim
  obtain ⟨c2, H2, r2, y2, g1, g2, _⟩ := buildSliceV_ok hs.deadAll hT hp h2
  refine ⟨c', H', r, y, k1, k2, k3, k4, ?_, k5⟩
  rw [k1] at g1
  simp only [Result.ok.injEq] at g1
  rw [g1.2]
  exact ext_of_FR g2.fr
end
end Go.VM
