import Derived.Test.YtkcbjhjpepdkcaaVMv
set_option linter.unusedVariables false
set_option linter.unusedSimpArgs false
set_option linter.unnecessarySimpa false
namespace Go.VM
/-- a plan: what reads only first (`first`); else whichever may come up (`one`, or `alt`: this one, or what the rest says) -/
inductive Plan where
  | done
  | first (i : Nat) (s : Plan)
  | one (i : Nat) (s : Plan)
  | alt (i : Nat) (s : Plan) (t : Plan)
/-- the guards that an operation stands under, whatever came up ahead of it -/
def gpd (ops : List Oper) (E : Env) (g : Option (Nat × Bool)) : Option Path :=
  match g with
  | none => some []
  | some (i, b) => (match onth ops i with
    | some o => (match o.dst with
      | some t => (match get E t with
        | (s + 1, q, .bool x) => some (padd q (s, b, x))
        | _ => none)
      | none => none)
    | none => none)
/-- an operation that leaves all that was there -/
def xe (P : Program) (k : Nat) (o : Oper) (p : Path) (E : Env) (H : Heap) (K : Env → Heap → Prop) : Prop :=
  match o.op with
  | .buildSlice T n parts => (match p, telem P T with
    | [], some e => buildSliceV (tsize P e) (tzero P e) n (evp E p parts.toList) H fun v H => K (put E o.dst (k + 1) p v) H
    | _, _ => False)
  | .call c => (match c.callee with
    | .builtin .append => (match c.argTypes.toList, evs E p c.args.toList, p with
      | [t, u], [s, x], [] => bif band (stayB s) (Nat.beq t u) then (match telem P t with
        | some e => (match tzero P e with
          | some _ => bif Nat.beq (tbytes P e) 0 then False else appendV (tsize P e) (tbytes P e) H s x fun v H => K (put E o.dst (k + 1) p v) H
          | none => False)
        | none => False) else False
      | _, _, _ => False)
    | .value f => (match ev E p f with
      | .fn g first caps => (match p with
        | [] => cwE P g (app first (app (evs E p c.args.toList) caps)) H (kp K E o.dst k [])
        | y :: q => cgE P g (app first (app (evs E (y :: q) c.args.toList) caps)) H (y :: q) (kq K E o.dst k (y :: q) H))
      | _ => False)
    | _ => False)
  | _ => False
def mem (i : Nat) : List Nat → Bool
  | [] => false
  | j :: l => bor (Nat.beq i j) (mem i l)
where bor : Bool → Bool → Bool
  | true, _ => true
  | false, b => b
def xd (P : Program) (ops : List Oper) (late : List Nat) : Plan → Nat → (Env → Heap → Prop) → Env → Heap → Prop
  | .done, _, K, E, H => K E H
  | .first i s, k, K, E, H => (match onth ops i with
    | some o => (match gpd ops E o.guard with
      | some p => xo P k o p E H (xd P ops late s (k + 1) K)
      | none => False)
    | none => False)
  | .one i s, k, K, E, H => (match onth ops i with
    | some o => (match gpd ops E o.guard with
      | some p => (match mem i late with
        | true => xo P k o p E H (xd P ops late s (k + 1) K)
        | false => xe P k o p E H (xd P ops late s (k + 1) K))
      | none => False)
    | none => False)
  | .alt i s t, k, K, E, H => (match onth ops i with
    | some o => (match gpd ops E o.guard with
      | some p => (match mem i late with
        | true => xo P k o p E H (xd P ops late s (k + 1) K)
        | false => xe P k o p E H (xd P ops late s (k + 1) K))
      | none => False)
    | none => False) ∧ xd P ops late t k K E H
def Plan.isFirst : Plan → Bool
  | .first _ _ => true
  | _ => false
/-- the plan goes through all orders -/
def planB (md : Region.Mode) (ops : Array Oper) (late : List Nat) : Plan → List Nat → Nat → Array Bool → Bool
  | .done, rs, _, L => rs.isEmpty && (Region.ready md ops L).isEmpty
  | .first i s, rs, n + 1, L => (match ops[i]? with
    | some o => stillOp o && Region.free md ops L i && (Region.ready md ops L).contains i && (late.all fun j => L.getD j false || anc md ops ops.size i j) && rs == Region.ready md ops L &&
      planB md ops late s (Region.ready md ops (L.setIfInBounds i true)) n (L.setIfInBounds i true)
    | none => false)
  | .one i s, rs, n + 1, L => rs == [i] && planB md ops late s (Region.ready md ops (L.setIfInBounds i true)) n (L.setIfInBounds i true)
  | .alt i s t, rs, n + 1, L => (match rs with
    | j :: k :: rs => i == j && planB md ops late s (Region.ready md ops (L.setIfInBounds i true)) n (L.setIfInBounds i true) && (!Plan.isFirst t && planB md ops late t (k :: rs) (n + 1) L)
    | _ => false)
  | _, _, 0, _ => false
section
variable {P : Program} {F : Fr} {c : Ctx} {E : Env} {H : Heap} {a : Act} {X : Nat → Bool} {k : Nat} {p : Path} {o : Oper} {K : Env → Heap → Prop} {Q : Exit → Act → World → Prop}
theorem gpd_ok {ops : List Oper} (hE : ER c E a) (hK : KI X k E) {g : Option (Nat × Bool)} (hg : o.guard = g) (h : gpd ops E g = some p) : KP X k p ∧ (Region.wanted o (yielded ops.toArray a.tmps) = true ↔ pc p) := by
  cases g with
  | none =>
    simp only [gpd, Option.some.injEq] at h
    subst h
    exact ⟨fun i b x h => by simp at h, by simp [Region.wanted, hg, pc]⟩
  | some ib =>
    obtain ⟨i, b⟩ := ib
    simp only [gpd] at h
    split at h
    · rename_i oi hoi
      split at h
      · rename_i t ht
        split at h
        · rename_i s q x hget
          simp only [Option.some.injEq] at h
          subst h
          have h1 := hE t
          have h2 := hK t
          rw [hget] at h1 h2
          dsimp only at h1 h2
          obtain ⟨h3, h4⟩ := h2.2 s rfl
          rw [padd_eq]
          refine ⟨fun i' b' x' hm => ?_, ?_⟩
          · rcases List.mem_append.1 hm with hm | hm
            · exact h2.1 i' b' x' hm
            · simp only [List.mem_singleton, Prod.mk.injEq] at hm
              obtain ⟨rfl, rfl, rfl⟩ := hm
              exact ⟨h4 _ rfl, h3⟩
          · have hpc : pc (q ++ [(s, b, x)]) ↔ pc q ∧ x = b := by
              rw [pc_iff, pc_iff]
              constructor
              · intro h
                exact ⟨fun i' b' x' hm => h i' b' x' (List.mem_append.2 (.inl hm)), h s b x (by simp)⟩
              · rintro ⟨h5, h6⟩ i' b' x' hm
                rcases List.mem_append.1 hm with hm | hm
                · exact h5 i' b' x' hm
                · simp only [List.mem_singleton, Prod.mk.injEq] at hm
                  obtain ⟨rfl, rfl, rfl⟩ := hm
                  exact h6
            rw [hpc]
            have hoi' : ops.toArray[i]? = some oi := by rw [List.getElem?_toArray, ← onth_eq]; exact hoi
            have hy : yielded ops.toArray a.tmps i = match a.tmps[t]? with | some (.bool b) => some b | _ => none := by
              unfold yielded
              rw [hoi']
              show (match (oi.dst).bind (a.tmps[·]?) with | some (.bool b) => some b | _ => none) = _
              rw [ht]
              rfl
            have hw : Region.wanted o (yielded ops.toArray a.tmps) = (yielded ops.toArray a.tmps i == some b) := by simp [Region.wanted, hg]
            rw [hw, hy]
            by_cases hq : pc q
            · have := h1.1 hq
              simp only [VR] at this
              have ht2 : a.tmps[t]? = some (.bool x) := by
                rw [tmpOf, Array.getD_eq_getD_getElem?] at this
                cases hh : a.tmps[t]? with
                | none => rw [hh] at this; cases this
                | some v => rw [hh] at this; simp at this; rw [this]
              simp [ht2, hq]
            · have := h1.2 hq
              have ht2 : ∀ y, a.tmps[t]? ≠ some (.bool y) := by
                intro y hy'
                rw [tmpOf, Array.getD_eq_getD_getElem?, hy'] at this
                cases this
              constructor
              · intro hh
                exfalso
                split at hh
                · rename_i y hy'; exact ht2 y hy'
                · cases hh
              · rintro ⟨h5, _⟩; exact absurd h5 hq
        · cases h
      · cases h
    · cases h
/-- what an operation that leaves all that was there comes to -/
def OpOkE (P : Program) (F : Fr) (Q : Exit → Act → World → Prop) (o : Oper) (k : Nat) (p : Path) (a : Act) (c : Ctx) (K : Env → Heap → Prop) : Prop :=
  (pc p → o.wp P a c.w (fun a' w' => c.w.Extends w' ∧ Nx F (k + 1) K a' w') Q) ∧ (¬ pc p → Nx F (k + 1) K (a.put o.dst undef) c.w)
set_option maxHeartbeats 4000000 in
theorem xe_sound (hs : St F c E H a X k) (hd : ∀ x, o.dst = some x → x < F.nt) (hp : KP X k p) (h : xe P k o p E H K) : OpOkE P F Q o k p a c K := by
  unfold xe at h
  have hev := fun hpc x => ev_ok hs.er hs.ki hp hpc x (a := a)
  split at h
  · rename_i T n parts ho
    split at h
    · rename_i e hT
      obtain ⟨c', H', r, y, k1, k2, k3, k4, k5, k6⟩ := buildSliceV_okE (P := P) hs.sr hT (n := n) (vals := parts.map fun (i, x) => (i, a.eval x)) (by rw [Array.toList_map]; exact evp_ok hs hp trivial _) h
      exact ⟨fun _ => op_value (s := Instr.buildSlice T n (parts.map fun (i, x) => (i, a.eval x))) (by simp [execOp, ho]) k1 ⟨k5, Nx_new hs hd k2 k3 k4 k6⟩, fun hn => absurd trivial hn⟩
    · exact h.elim
  · rename_i cl ho
    split at h
    · rename_i hb
      split at h
      · rename_i t t' x1 x2 hts hxs
        obtain ⟨y1, y2, hy, rfl, rfl⟩ := evs_pair hxs
        cases hbb : band (stayB (ev E [] y1)) (Nat.beq t t') with
        | false => rw [hbb] at h; exact h.elim
        | true =>
          rw [hbb] at h
          obtain ⟨hst, hbt⟩ := band_true hbb
          obtain rfl := beq_nat hbt
          dsimp only [cond] at h
          split at h
          · rename_i e hT
            split at h
            · rename_i z hz
              cases hb0 : Nat.beq (tbytes P e) 0 with
              | true => rw [hb0] at h; exact h.elim
              | false =>
                rw [hb0] at h
                dsimp only [cond] at h
                have hb1 : tbytes P e ≠ 0 := by intro h0; rw [h0] at hb0; simp at hb0
                obtain ⟨c', H', r, y, k1, k2, k3, k4, k5, k6⟩ := appendV_okE (P := P) (ty := o.type) hT hz hb1 hs.sr (hev trivial y1) (hev trivial y2) hst h
                have ea : cl.args = #[y1, y2] := by apply Array.ext'; simpa using hy
                have et : cl.argTypes = #[t, t] := by apply Array.ext'; simpa using hts
                refine ⟨fun _ => ?_, fun hn => absurd trivial hn⟩
                have hrun : (execOp a.eval o).run P c.w = .ok (.value r) c'.w := by
                  simp [execOp, ho, resolve, hb, invoke, builtin, ea, et, k1]
                simp only [Oper.wp, hrun, Oper.upon]
                exact ⟨k5, Nx_new hs hd k2 k3 k4 k6⟩
            · exact h.elim
          · exact h.elim
      · exact h.elim
    · rename_i f hf
      split at h
      · rename_i g first caps hv
        have call : ∀ {KK : V → Heap → Prop} {n : Act → World → Prop}, pc p → cwE P g (app first (app (evs E p cl.args.toList) caps)) H KK →
            (∀ c' H' v u, SR F c' H' → Le c c' → VR c' v u → c.w.Extends c'.w → KK v H' → n (a.put o.dst u) c'.w) → o.wp P a c.w n Q := by
          intro KK n hpc hc hn
          have hx := hev hpc f
          rw [hv] at hx
          simp only [VR] at hx
          obtain ⟨us, ws, e1, e2, e3, e4, e5⟩ := hx
          have hargs := evs_ok hs.er hs.ki hp hpc cl.args
          have hlen : (cl.args.map a.eval).size = (evs E p cl.args.toList).length := by rw [evs_eq]; simp
          have hrun : (execOp a.eval o).run P c.w = .ok (.enter g (us ++ cl.args.map a.eval ++ ws)) c.w := by
            simp only [execOp, ho, resolve, hf, e1, Deferred.ofValue, Sem.run_bind, Sem.run_pure, Result.andThen_ok, invoke]
            exact callFunc_body hc.1 _ _
          simp only [Oper.wp, hrun, Oper.upon]
          rw [app_eq, app_eq] at hc
          refine Calls.mono (hc.2 F c hs.sr (us ++ cl.args.map a.eval ++ ws) ?_ ?_) ?_
          · simp [e2, e3, hlen, Nat.add_assoc]
          · rw [Array.append_assoc]
            exact VRs_append e2 e4 (VRs_append hlen hargs e5)
          · rintro e w' ⟨c', u, v, H', rfl, rfl, k1, k2, k3, k4, k5⟩
            exact hn c' H' v u k2 k1 k3 k4 k5
        split at h
        · exact ⟨fun _ => call trivial h fun c' H' v u k1 k2 k3 k4 k5 => ⟨k4, Nx_new hs hd k1 k2 k3 k5⟩, fun hn => absurd trivial hn⟩
        · rename_i y q
          obtain ⟨v, hv1, hv2⟩ := h
          refine ⟨fun hpc => call hpc (hv1 hpc) fun c' H' v' u k1 k2 k3 k4 k5 => ?_, fun hn => Nx_put hs hd hp (fun h => absurd h hn) (fun _ => rfl) hv2⟩
          obtain ⟨rfl, rfl⟩ := k5
          exact ⟨k4, Nx_put (c := c') ⟨k1, ER_mono k2 hs.er, hs.ki, hs.ao⟩ hd hp (fun _ => k3) (fun h => absurd hpc h) hv2⟩
      · exact h.elim
    · exact h.elim
  · exact h.elim
theorem mem_true {i : Nat} {l : List Nat} : mem i l = true ↔ i ∈ l := by
  induction l with
  | nil => simp [mem]
  | cons j l ih =>
    have hb : ∀ a b, mem.bor a b = (a || b) := fun a b => by cases a <;> rfl
    simp only [mem, hb, Bool.or_eq_true, ih, List.mem_cons]
    constructor
    · rintro (h | h)
      · exact .inl (beq_nat h)
      · exact .inr h
    · rintro (h | h)
      · exact .inl (by rw [h]; exact Nat.beq_refl _)
      · exact .inr h
/-- what the choices of a plan come to -/
theorem xd_sound {ops : Array Oper} {late : List Nat} {KX : VM.X → Env → Heap → Prop} (hsel : Region.noSelect ops = true) (hnt : ∀ o ∈ ops.toList, ∀ x, o.dst = some x → x < F.nt) :
    ∀ (pl : Plan) (n : Nat) (L : Array Bool) (k : Nat) (c : Ctx) (E : Env) (H : Heap) (a : Act) (X : Nat → Bool), Closed .any ops L → St F c E H a X k → xd P ops.toList late pl k (KX .normal) E H →
      (planB .any ops late pl (Region.ready .any ops L) n L = true → wpAnyE P .any ops (lift F KX) (fun i => mem i late) n L a c.w) ∧
      (∀ rs m, n = m + 1 → rs ≠ [] → rs ⊆ Region.ready .any ops L → (∀ i s, pl ≠ .first i s) → planB .any ops late pl rs n L = true → ∀ i ∈ rs, wpOp P ops (lift F KX) i (fun a' w' => (mem i late = false → c.w.Extends w') ∧ wpAnyE P .any ops (lift F KX) (fun i => mem i late) m (L.setIfInBounds i true) a' w') a c.w) := by
  have hto : ops.toList.toArray = ops := by simp
  have step : ∀ (s : Plan) (m : Nat) (L : Array Bool) (k : Nat) (c : Ctx) (E : Env) (H : Heap) (a : Act) (X : Nat → Bool) (i : Nat),
      (∀ (k : Nat) (c : Ctx) (E : Env) (H : Heap) (a : Act) (X : Nat → Bool), St F c E H a X k → xd P ops.toList late s k (KX .normal) E H → wpAnyE P .any ops (lift F KX) (fun i => mem i late) m (L.setIfInBounds i true) a c.w) →
      St F c E H a X k →
      (match onth ops.toList i with
      | some o => (match gpd ops.toList E o.guard with
        | some p => (match mem i late with
          | true => xo P k o p E H (xd P ops.toList late s (k + 1) (KX .normal))
          | false => xe P k o p E H (xd P ops.toList late s (k + 1) (KX .normal)))
        | none => False)
      | none => False) →
      wpOp P ops (lift F KX) i (fun a' w' => (mem i late = false → c.w.Extends w') ∧ wpAnyE P .any ops (lift F KX) (fun i => mem i late) m (L.setIfInBounds i true) a' w') a c.w := by
    intro s m L k c E H a X i ih hs h
    split at h
    case h_2 => exact h.elim
    rename_i o ho
    split at h
    case h_2 => exact h.elim
    rename_i p hg
    have ho' : ops[i]? = some o := by rw [onth_eq] at ho; simpa using ho
    have hmem : o ∈ ops.toList := by
      rw [onth_eq] at ho
      exact List.mem_of_getElem? ho
    obtain ⟨hp, hw⟩ := gpd_ok hs.er hs.ki rfl hg
    rw [hto] at hw
    have nx : ∀ a' w', Nx F (k + 1) ((xd P ops.toList late s (k + 1) (KX .normal))) a' w' → wpAnyE P .any ops (lift F KX) (fun i => mem i late) m (L.setIfInBounds i true) a' w' := by
      rintro a' w' ⟨c', E', H', X', rfl, hs', hk⟩
      exact ih (k + 1) c' E' H' a' X' hs' hk
    unfold wpOp
    simp only [ho']
    split at h
    · rename_i hl
      have hok := xo_sound (Q := lift F KX) hs (hnt o hmem) hp h
      by_cases hpc : pc p
      · rw [if_pos (hw.2 hpc)]
        exact .inl (Oper.wp_mono (fun a w h => ⟨fun h' => (by rw [hl] at h'; cases h'), nx a w h⟩) (hok.1 hpc))
      · rw [if_neg (fun h => hpc (hw.1 h))]
        exact ⟨fun _ => .refl _, nx _ _ (hok.2 hpc)⟩
    · have hok := xe_sound (Q := lift F KX) hs (hnt o hmem) hp h
      by_cases hpc : pc p
      · rw [if_pos (hw.2 hpc)]
        exact .inl (Oper.wp_mono (fun a w h => ⟨fun _ => h.1, nx a w h.2⟩) (hok.1 hpc))
      · rw [if_neg (fun h => hpc (hw.1 h))]
        exact ⟨fun _ => .refl _, nx _ _ (hok.2 hpc)⟩
  intro pl
  induction pl with
  | done =>
    intro n L k c E H a X hcl hs h
    refine ⟨fun hB => ?_, fun rs m hn hne hsub _ hB => ?_⟩
    · simp only [planB, Bool.and_eq_true, List.isEmpty_iff] at hB
      exact wpAnyE_done hB.2 ⟨c, E, H, rfl, hs.sr, hs.er, hs.ao, h⟩ n
    · simp only [planB, Bool.and_eq_true, List.isEmpty_iff] at hB
      exact absurd hB.1 hne
  | first i s ih =>
    intro n L k c E H a X hcl hs h
    refine ⟨fun hB => ?_, fun rs m hn hne hsub hnf hB => absurd rfl (hnf i s)⟩
    cases n with
    | zero => simp [planB] at hB
    | succ n =>
      simp only [planB] at hB
      split at hB
      case h_2 => cases hB
      rename_i o ho
      simp only [Bool.and_eq_true, List.all_eq_true, Bool.or_eq_true, List.contains_iff_mem] at hB
      obtain ⟨⟨⟨⟨⟨b1, b2⟩, b3⟩, b4⟩, b5⟩, b6⟩ := hB
      simp only [xd] at h
      split at h
      case h_2 => exact h.elim
      rename_i o' ho'
      have : ops[i]? = some o' := by rw [onth_eq] at ho'; simpa using ho'
      obtain rfl : o = o' := Option.some.inj (ho.symm.trans this)
      split at h
      case h_2 => exact h.elim
      rename_i p hg
      have hmem : o ∈ ops.toList := by
        rw [onth_eq] at ho'
        exact List.mem_of_getElem? ho'
      obtain ⟨hp, hw⟩ := gpd_ok hs.er hs.ki rfl hg
      rw [hto] at hw
      obtain ⟨v, hK, hv⟩ := xo_still hs hp b1 h
      have hr : i ∈ Region.ready .any ops L := b3
      have go : ∀ u : Value, YieldsIf P ops c.w.Extends o u a → Nx F (k + 1) ((xd P ops.toList late s (k + 1) (KX .normal))) (a.put o.dst u) c.w → wpAnyE P .any ops (lift F KX) (fun i => mem i late) (n + 1) L a c.w := by
        rintro u hy ⟨c', E', H', X', e0, hs', hk⟩
        refine wpAnyE_first (N := ops.size) ho (Region.noSelect_spec hsel) (fun _ _ _ h => h.elim) n L a c.w hcl (Region.free_spec ho b2) (fun j hj => b4 j (mem_true.1 hj)) hr hy ?_
        have := (ih n (L.setIfInBounds i true) (k + 1) c' E' H' (a.put o.dst u) X' (hcl.set hr) hs' hk).1 b6
        rw [e0] at this
        exact this
      by_cases hpc : pc p
      · obtain ⟨u, hu, hvu⟩ := hv hpc
        exact go u (.inl ⟨hw.2 hpc, hu⟩) (Nx_put hs (hnt o hmem) hp (fun _ => hvu) (fun h => absurd hpc h) hK)
      · exact go undef (.inr ⟨by simpa using fun h => hpc (hw.1 h), rfl⟩) (Nx_put hs (hnt o hmem) hp (fun h => absurd h hpc) (fun _ => rfl) hK)
  | one i s ih =>
    intro n L k c E H a X hcl hs h
    have key : ∀ rs m, n = m + 1 → rs ⊆ Region.ready .any ops L → planB .any ops late (.one i s) rs n L = true → ∀ j ∈ rs, wpOp P ops (lift F KX) j (fun a' w' => (mem j late = false → c.w.Extends w') ∧ wpAnyE P .any ops (lift F KX) (fun i => mem i late) m (L.setIfInBounds j true) a' w') a c.w := by
      rintro rs m rfl hsub hB j hj
      simp only [planB, Bool.and_eq_true, beq_iff_eq] at hB
      obtain ⟨rfl, b2⟩ := hB
      obtain rfl : j = i := by simpa using hj
      exact step s m L k c E H a X j (fun k' c' E' H' a' X' hs' hk => (ih m _ k' c' E' H' a' X' (hcl.set (hsub hj)) hs' hk).1 b2) hs h
    refine ⟨fun hB => ?_, fun rs m hn hne hsub _ hB => key rs m hn hsub hB⟩
    cases n with
    | zero => simp [planB] at hB
    | succ n =>
      have hne : Region.ready .any ops L ≠ [] := by
        intro h0
        rw [h0] at hB
        simp [planB] at hB
      exact wpAnyE_all rfl hne (key _ n rfl (fun _ h => h) hB)
  | alt i s t ihs iht =>
    intro n L k c E H a X hcl hs h
    have key : ∀ rs m, n = m + 1 → rs ⊆ Region.ready .any ops L → planB .any ops late (.alt i s t) rs n L = true → ∀ j ∈ rs, wpOp P ops (lift F KX) j (fun a' w' => (mem j late = false → c.w.Extends w') ∧ wpAnyE P .any ops (lift F KX) (fun i => mem i late) m (L.setIfInBounds j true) a' w') a c.w := by
      rintro rs m rfl hsub hB j hj
      simp only [planB] at hB
      split at hB
      case h_2 => cases hB
      rename_i j1 j2 rs
      simp only [Bool.and_eq_true, beq_iff_eq] at hB
      obtain ⟨⟨rfl, b2⟩, b3⟩ := hB
      rcases List.mem_cons.1 hj with rfl | hj
      · exact step s m L k c E H a X j (fun k' c' E' H' a' X' hs' hk => (ihs m _ k' c' E' H' a' X' (hcl.set (hsub (.head _))) hs' hk).1 b2) hs h.1
      · exact (iht (m + 1) L k c E H a X hcl hs h.2).2 _ m rfl (by simp) (fun x hx => hsub (.tail _ hx)) (fun i s h => by subst h; simp [Plan.isFirst] at b3) b3.2 j hj
    refine ⟨fun hB => ?_, fun rs m hn hne hsub _ hB => key rs m hn hsub hB⟩
    cases n with
    | zero => simp [planB] at hB
    | succ n =>
      have hne : Region.ready .any ops L ≠ [] := by
        intro h0
        rw [h0] at hB
        simp [planB] at hB
      exact wpAnyE_all rfl hne (key _ n rfl (fun _ h => h) hB)
/-- A REGION THAT DRAWS ITS ORDER, by a plan. -/
theorem cx_draw {n id : Nat} {ops : Array Oper} {E : Env} {H : Heap} {K : VM.X → Env → Heap → Prop} (hm : P.follows .mixedOrders = true) (late : List Nat) (pl : Plan)
    (hB : (Region.noSelect ops && planB .any ops late pl (Region.ready .any ops (Array.replicate ops.size false)) ops.size (Array.replicate ops.size false)) = true)
    (h : xd P ops.toList late pl 0 (K .normal) (clean E) H) : cx P n (.region id ops true) E H K := by
  intro F c a hn hs he ha hok
  simp only [Bool.and_eq_true] at hB
  obtain ⟨hs', hle⟩ := hs.drew
  have hcl : Closed .any ops (Array.replicate ops.size false) := ⟨by simp, fun j oj hj hl => by
    have : (Array.replicate ops.size false).getD j false = false := by
      rcases Nat.lt_or_ge j ops.size with h | h
      · simp [h]
      · simp [h]
    rw [this] at hl
    cases hl⟩
  have := (xd_sound (F := F) (KX := K) hB.1 (okc_region hok) pl ops.size (Array.replicate ops.size false) 0 { c with w := c.w.drew } (clean E) H a _ hcl ⟨hs', ER_clean (ER_mono hle he), KI_clean E, ha⟩ h).1 hB.2
  exact wp_region_any hm (wpAny_of_E _ _ _ _ this)
/-! ### Forgetting -/
def fgE : Env → Env → Prop
  | [], _ => True
  | e :: r, E => evt E [] e.t = e.v ∧ e.p = [] ∧ fgE r E
def fgH : Heap → Heap → Prop
  | [], H => H = []
  | _ :: _, [] => False
  | b :: r, b' :: H => (b = .dead ∨ b = b') ∧ fgH r H
theorem fgH_get {H' H : Heap} (h : fgH H' H) : H'.length = H.length ∧ ∀ (r : Nat) x, H'[r]? = some x → x = .dead ∨ H[r]? = some x := by
  induction H' generalizing H with
  | nil => simp only [fgH] at h; subst h; exact ⟨rfl, fun r x h => by simp at h⟩
  | cons b H' ih =>
    cases H with
    | nil => exact h.elim
    | cons b' H =>
      obtain ⟨h1, h2⟩ := h
      obtain ⟨g1, g2⟩ := ih h2
      refine ⟨by simp [g1], fun r x hr => ?_⟩
      cases r with
      | zero => simp at hr; subst hr; rcases h1 with h1 | h1
                · exact .inl h1
                · exact .inr (by simp [h1])
      | succ r => simpa using g2 r x (by simpa using hr)
theorem SR.fg {F : Fr} {c : Ctx} {H H' : Heap} (h : SR F c H) (hf : fgH H' H) : SR F c H' := by
  obtain ⟨g1, g2⟩ := fgH_get hf
  refine ⟨h.fr, h.le, by rw [h.len, g1], fun r b l hr hl => ?_, fun r r' x x' b m m' hr hr' hx hx' hl hl' => ?_, h.imm, h.old⟩
  · rcases g2 r b hr with rfl | hr
    · cases l with
      | none => trivial
      | some l => exact fun h => h.elim
    · exact h.blk r b l hr hl
  · rcases g2 r x hr with rfl | hr
    · exact hx.elim
    · rcases g2 r' x' hr' with rfl | hr'
      · exact hx'.elim
      · exact h.inj r r' x x' b m m' hr hr' hx hx' hl hl'
theorem ER_fg {c : Ctx} {E' E : Env} {a : Act} (hE : ER c E a) (h : fgE E' E) : ER c E' a := by
  intro t
  have key : (get E' t).2.1 = [] ∧ VR c (get E' t).2.2 (tmpOf a t) := by
    induction E' with
    | nil => exact ⟨rfl, by simp [get, VR]⟩
    | cons e r ih =>
      obtain ⟨h1, h2, h4⟩ := h
      rw [get_cons]
      by_cases he : e.t = t
      · rw [if_pos he]
        subst he
        exact ⟨h2, by rw [← h1]; exact evt_top hE _⟩
      · rw [if_neg he]
        exact ih h4
  rw [key.1]
  exact ⟨fun _ => key.2, fun h => absurd trivial h⟩
/-- what follows a piece of code, from a state that says less -/
theorem cx_to {n : Nat} {code : Code} {E : Env} {H : Heap} (E2 : Env) (H2 : Heap) {K : VM.X → Env → Heap → Prop} (h : cx P n code E H fun x E' H' => (match x with
    | .normal => fgE E2 E' ∧ fgH H2 H'
    | _ => False)) (hK : K .normal E2 H2) : cx P n code E H K :=
  fun F c a hn hs he ha hok => wp_mono (h F c a hn hs he ha hok) fun e a' w' hq => by
    cases e with
    | normal =>
      obtain ⟨c', E', H', h0, h1, h2, h3, h4, h5⟩ := hq
      exact ⟨c', E2, H2, h0, h1.fg h5, ER_fg h2 h4, h3, hK⟩
    | exit i => obtain ⟨c', E', H', h0, h1, h2, h3, h4⟩ := hq; exact h4.elim
    | ret => obtain ⟨c', E', H', h0, h1, h2, h3, h4⟩ := hq; exact h4.elim
    | goto l => exact hq.elim
    | panic ch => exact hq.elim
    | outgrown => exact hq.elim
end
end Go.VM
