import Derived.Test.YtkcbjhjpepdkcaaVMl
set_option linter.unusedVariables false
set_option linter.unusedSimpArgs false
set_option linter.unnecessarySimpa false
namespace Go.VM
section
variable {P : Program} {F : Fr} {c : Ctx} {E : Env} {H : Heap} {a : Act} {X : Nat → Bool} {k : Nat} {p : Path} {o : Oper} {Q : Exit → Act → World → Prop} {K : Env → Heap → Prop}
theorem conv_ok {S D : Nat} {x z : V} {u : Value} {w : World} (hx : VR c x u) (h : (convV (tkind P S) (tkind P D) x).has z) : ∃ r, (convert S D u).run P w = .ok r w ∧ VR c z r := by
  unfold convV at h
  split at h
  · rename_i k n k1 k2 h1 h2
    simp only [R.has] at h; subst h
    simp only [VR] at hx; subst hx
    refine ⟨.int k2 (k2.wrap n), ?_, by simp only [VR]⟩
    simp [convert, run_underlying (kind_int h1), run_underlying (kind_int h2), Conv.intToInt]
  · rename_i s h1 h2
    simp only [R.has] at h; subst h
    simp only [VR] at hx; subst hx
    refine ⟨.string ⟨s.toArray⟩, ?_, by simp only [VR]⟩
    simp [convert, run_underlying (kind_str h1), run_underlying (kind_str h2)]
  · exact h.elim
theorem field_ok {T f k t : Nat} (hf : tfield P T f = some (k, t)) {x z : V} {u : Value} {w : World} (hx : VR c x u) (h : (fieldV (some (k, t)) (ti P t) x).has z) : ∃ r, (Instr.field T u f).run P w = .ok r w ∧ VR c z r := by
  obtain ⟨fs, fld, hT, hfs, rfl, rfl, h0⟩ := tfield_some hf
  unfold fieldV at h
  split at h
  · rename_i k' t' cs heq
    cases heq
    simp only [VR] at hx
    obtain ⟨us, rfl, g1, g2, g3⟩ := hx
    unfold loadV at h
    dsimp only [ti] at h
    split at h
    · rename_i hag
      cases hb : Nat.ble (fld.offset + tsize P fld.type) (len cs) with
      | false => rw [hb] at h; exact h.elim
      | true =>
        rw [hb] at h
        simp only [cond, R.has] at h
        subst h
        obtain ⟨i, hi⟩ := tagg_info hag
        have hle : fld.offset + tsize P fld.type ≤ cs.length := by rw [← len_eq]; exact Nat.le_of_ble_eq_true hb
        refine ⟨.agg (us.extract fld.offset (fld.offset + tsize P fld.type)), ?_, ?_⟩
        · simp [Instr.field, run_underlying hT, hfs, asAgg, part, tagg_run hag, run_sizeOf hi]
        · simp only [VR]
          rw [dr_eq, tk_eq]
          have hget : ∀ j, j < tsize P fld.type → (us.extract fld.offset (fld.offset + tsize P fld.type))[j]? = us[fld.offset + j]? := fun j hj => by
            rw [Array.getElem?_extract, if_pos (by rw [g1]; omega)]
          have hl : ((cs.drop fld.offset).take (tsize P fld.type)).length = tsize P fld.type := by simp; omega
          refine ⟨_, rfl, by simp [g1]; omega, ?_, ?_⟩
          · intro j y hj hy
            rw [hl] at hj
            exact g2 (fld.offset + j) y (by omega) ((hget j hj).symm.trans hy)
          · exact VRs_congr (VRs_take (VRs_drop g3 _) _) fun j hj => hget j (by omega)
    · rename_i hag
      cases hb : Nat.blt fld.offset (len cs) with
      | false => rw [hb] at h; exact h.elim
      | true =>
        rw [hb] at h
        simp only [cond, R.has] at h
        subst h
        have hlt : fld.offset < cs.length := by rw [← len_eq]; exact Nat.blt_eq ▸ hb
        obtain ⟨u, hu, hv⟩ := VRs_get g3 (nth_eq cs _ hlt)
        refine ⟨u, ?_, hv⟩
        simp only [Instr.field, Sem.run_bind, run_underlying hT, Result.andThen_ok, hfs, asAgg, Sem.run_pure]
        exact part_scalar hag us _ hu
    · exact h.elim
  · exact h.elim
theorem cap_ok {T ty : Nat} {x z : V} {u : Value} {w : World} (hx : VR c x u) (h : (capV (tkind P T) x).has z) : ∃ r, (Builtin.cap_ #[T] ty #[u]).run P w = .ok r w ∧ VR c z r := by
  unfold capV at h
  split at h
  · rename_i hk
    simp only [R.has] at h; subst h
    obtain ⟨e, hT⟩ := kind_slice hk
    simp only [VR] at hx
    obtain ⟨A, cap, rfl, e2, _⟩ := hx
    rw [← e2.2 _ rfl]
    exact ⟨_, by simp [Builtin.cap_, run_underlying hT, goInt]; rfl, by simp only [VR]⟩
  · rename_i hk
    simp only [R.has] at h; subst h
    obtain ⟨e, hT⟩ := kind_slice hk
    simp only [VR] at hx
    obtain ⟨A, cap, rfl, e2, e3, _⟩ := hx
    rw [← e3 trivial]
    exact ⟨_, by simp [Builtin.cap_, run_underlying hT, goInt]; rfl, by simp only [VR]⟩
  · rename_i hk
    simp only [R.has] at h; subst h
    obtain ⟨e, hT⟩ := kind_slice hk
    simp only [VR] at hx
    subst hx
    exact ⟨_, by simp [Builtin.cap_, run_underlying hT, goInt]; rfl, by simp only [VR]⟩
  · exact h.elim
theorem max_ok {ts : Array TypeId} {ty : Nat} {x y z : V} {u v : Value} {w : World} (hx : VR c x u) (hy : VR c y v) (h : (maxV x y).has z) : ∃ r, (Builtin.max_ ts ty #[u, v]).run P w = .ok r w ∧ VR c z r := by
  unfold maxV at h
  split at h
  · rename_i k a l b
    cases hb : Nat.beq (ikn k) (ikn l) with
    | false => rw [hb] at h; exact h.elim
    | true =>
      rw [hb] at h
      simp only [cond, R.has] at h; subst h
      simp only [VR] at hx hy
      subst hx hy
      exact ⟨_, by simp [Builtin.max_, Builtin.max2]; rfl, by simp only [VR]⟩
  · exact h.elim
theorem min_ok {ts : Array TypeId} {ty : Nat} {x y z : V} {u v : Value} {w : World} (hx : VR c x u) (hy : VR c y v) (h : (minV x y).has z) : ∃ r, (Builtin.min_ ts ty #[u, v]).run P w = .ok r w ∧ VR c z r := by
  unfold minV at h
  split at h
  · rename_i k a l b
    cases hb : Nat.beq (ikn k) (ikn l) with
    | false => rw [hb] at h; exact h.elim
    | true =>
      rw [hb] at h
      simp only [cond, R.has] at h; subst h
      simp only [VR] at hx hy
      subst hx hy
      exact ⟨_, by simp [Builtin.min_, Builtin.min2]; rfl, by simp only [VR]⟩
  · exact h.elim
theorem evs_two {x1 : V} {E : Env} {p : Path} {l : List Operand} (h : evs E p l = [x1]) : ∃ y, l = [y] ∧ x1 = ev E p y := by
  rw [evs_eq] at h
  cases l with
  | nil => simp at h
  | cons y l => cases l with
    | nil => simp at h; exact ⟨y, rfl, h.symm⟩
    | cons => simp at h
theorem evs_pair {x1 x2 : V} {E : Env} {p : Path} {l : List Operand} (h : evs E p l = [x1, x2]) : ∃ y z, l = [y, z] ∧ x1 = ev E p y ∧ x2 = ev E p z := by
  rw [evs_eq] at h
  cases l with
  | nil => simp at h
  | cons y l => cases l with
    | nil => simp at h
    | cons z l => cases l with
      | nil => simp at h; exact ⟨y, z, rfl, h.1.symm, h.2.symm⟩
      | cons => simp at h
set_option maxHeartbeats 2000000 in
theorem xo_sound (hs : St F c E H a X k) (hd : ∀ x, o.dst = some x → x < F.nt) (hp : KP X k p) (h : xo P k o p E H K) : OpOk P F Q o k p a c K := by
  unfold xo at h
  have hev := fun hpc x => ev_ok hs.er hs.ki hp hpc x (a := a)
  split at h
  · -- move
    rename_i x ho
    exact pure_v hs hd hp (r := .ok (ev E p x)) (s := pure (a.eval x)) (by simp [execOp, ho]) (fun hpc v hv => ⟨_, rfl, by cases hv; exact hev hpc x⟩) h
  · rename_i x ho
    exact pure_v hs hd hp (r := .ok (ev E p x)) (s := pure (a.eval x)) (by simp [execOp, ho]) (fun hpc v hv => ⟨_, rfl, by cases hv; exact hev hpc x⟩) h
  · -- pick
    rename_i cc x y ho
    refine op_pure hs hd hp (fun hpc v hv => ?_) (rkv_rk h)
    have := pick_ok (P := P) (c := c) (w := c.w) hv (hev hpc cc) (au := a.eval x) (bu := a.eval y)
      (fun hb => by obtain ⟨h1, h2⟩ := pk_ok hs hp hpc hb; exact ev_ok hs.er hs.ki h1 h2 x)
      (fun hb => by obtain ⟨h1, h2⟩ := pk_ok hs hp hpc hb; exact ev_ok hs.er hs.ki h1 h2 y)
    simpa [execOp, ho] using this
  · -- binOp
    rename_i op T x y yt ho
    exact pure_v hs hd hp (s := do eqGuard op T x y (a.eval x) (a.eval y); binOp op T (a.eval x) (a.eval y)) (by simp [execOp, ho]) (fun hpc v hv => bin_ok (hev hpc x) (hev hpc y) hv) (rkv_rk h)
  · -- unOp
    rename_i op T x ho
    exact pure_v hs hd hp (s := Op.unary op (a.eval x)) (by simp [execOp, ho]) (fun hpc v hv => un_ok (hev hpc x) hv) (rkv_rk h)
  · -- extract
    rename_i x i ho
    exact pure_v hs hd hp (s := Instr.extract (a.eval x) i) (by simp [execOp, ho]) (fun hpc v hv => extract_ok (hev hpc x) hv) h
  · -- nilCheck
    rename_i x ho
    have hrun : ∀ A, a.eval x = .pointer (some A) → (execOp a.eval o).run P c.w = .ok (.value (.pointer (some A))) c.w := fun A hA => by simp [execOp, ho, hA]
    split at h
    · rename_i r off hv
      refine op_pure hs hd hp (r := .ok (.ptr r off)) (fun hpc v hv' => ?_) h
      cases hv'
      have hx := hev hpc x
      rw [hv] at hx
      have hx' := hx
      simp only [VR] at hx'
      split at hx'
      · exact ⟨_, hrun _ hx', by rw [← hx']; exact hx⟩
      · exact hx'.elim
    · rename_i r e i off hv
      refine op_pure hs hd hp (r := .ok (.eptr r e i off)) (fun hpc v hv' => ?_) h
      cases hv'
      have hx := hev hpc x
      rw [hv] at hx
      have hx' := hx
      simp only [VR] at hx'
      split at hx'
      · exact ⟨_, hrun _ hx', by rw [← hx']; exact hx⟩
      · exact hx'.elim
    · rename_i cs off hv
      refine op_pure hs hd hp (r := .ok (.iptr cs off)) (fun hpc v hv' => ?_) h
      cases hv'
      have hx := hev hpc x
      rw [hv] at hx
      have hx' := hx
      simp only [VR] at hx'
      obtain ⟨b, o', hx', _⟩ := hx'
      exact ⟨_, hrun _ hx', by rw [← hx']; exact hx⟩
    · exact h.elim
  · -- fieldAddr
    rename_i T x f ho
    exact pure_v hs hd hp (s := Instr.fieldAt T (a.eval x) f) (by simp [execOp, ho]) (fun hpc v hv => fieldAddr_ok (hev hpc x) hv) h
  · -- index
    rename_i T x i ho
    exact pure_v hs hd hp (s := Instr.index T (a.eval x) (a.eval i)) (by simp [execOp, ho]) (fun hpc v hv => indexS_ok (hev hpc x) (hev hpc i) hv) (rkv_rk h)
  · -- indexAddr
    rename_i T x i ho
    split at h
    · rename_i e hT
      exact pure_v hs hd hp (s := Instr.indexAt T (a.eval x) (a.eval i)) (by simp [execOp, ho]) (fun hpc v hv => indexAddr_ok hT (hev hpc x) (hev hpc i) hv) h
    · exact h.elim
  · -- load
    rename_i T x ho
    exact pure_v hs hd hp (s := Instr.loadAt T (a.eval x)) (by simp [execOp, ho]) (fun hpc v hv => load_ok hs.sr (hev hpc x) hv) h
  · -- slice
    rename_i T x lo hi mx ho
    exact pure_v hs hd hp (s := Instr.sliceAt T (a.eval x) (lo.map a.eval) (hi.map a.eval) (mx.map a.eval)) (by simp [execOp, ho])
      (fun hpc v hv => by
        refine sliceV_ok (hev hpc x) (evo_ok hs hp hpc lo) (evo_ok hs hp hpc hi) (evo_ok hs hp hpc mx) (fun e' he' h0 => ?_) hv
        unfold tesize at h0 ⊢
        cases hte : telem P T with
        | none => rw [hte] at h0; exact absurd rfl h0
        | some e =>
          have := telem_some hte
          rw [this] at he'
          cases he'
          exact ⟨rfl, rfl⟩) h
  · -- convert
    rename_i S D x ho
    exact pure_v hs hd hp (s := convert S D (a.eval x)) (by simp [execOp, ho]) (fun hpc v hv => conv_ok (hev hpc x) hv) (rkv_rk h)
  · -- field
    rename_i T x f ho
    split at h
    · rename_i k' t hf
      exact pure_v hs hd hp (s := Instr.field T (a.eval x) f) (by simp [execOp, ho]) (fun hpc v hv => field_ok hf (hev hpc x) hv) h
    · exact h.elim
  · -- makeFunc
    rename_i f first caps ho
    refine op_pure hs hd hp (r := .ok (.fn f (evs E p first.toList) (evs E p caps.toList))) (fun hpc v hv => ?_) h
    cases hv
    refine ⟨.func (.func f) (first.map a.eval) (caps.map a.eval), by simp [execOp, ho, Instr.makeFunc], ?_⟩
    simp only [VR]
    exact ⟨_, _, rfl, by rw [evs_eq]; simp, by rw [evs_eq]; simp, evs_ok hs.er hs.ki hp hpc first, evs_ok hs.er hs.ki hp hpc caps⟩
  · -- alloc
    rename_i T ho
    split at h
    · rename_i z hz
      obtain ⟨c', k1, k2, k3, k4⟩ := alloc_ok (P := P) hs.sr hz
      rw [hlen_eq, hadd_eq] at h
      exact ⟨fun _ => op_value (s := Instr.alloc T true (.tuple #[])) (by simp [execOp, ho]) k1 (Nx_new hs hd k2 k3 k4 h), fun hn => absurd trivial hn⟩
    · exact h.elim
  · -- box
    rename_i T x ho
    split at h
    · rename_i cs hb
      obtain ⟨c', k1, k2, k3, k4⟩ := box_ok (P := P) hs.sr (hev trivial x) hb
      rw [hlen_eq, hadd_eq] at h
      exact ⟨fun _ => op_value (s := Instr.box T (a.eval x)) (by simp [execOp, ho]) k1 (Nx_new hs hd k2 k3 k4 h), fun hn => absurd trivial hn⟩
    · exact h.elim
  · -- store
    rename_i T x y ho
    split at h
    · obtain ⟨c', H', k1, k2, k3, k4⟩ := store_ok (P := P) hs.sr (hev trivial x) (hev trivial y) h
      exact ⟨fun _ => op_unit (s := Instr.storeAt T (a.eval x) (a.eval y)) (by simp [execOp, ho]) k1 (Nx_new hs hd k2 k3 (v := .bad) (by simp only [VR]) k4), fun hn => absurd trivial hn⟩
    · exact h.elim
  · -- buildSlice
    rename_i T n parts ho
    split at h
    · rename_i e hT
      obtain ⟨c', H', r, y, k1, k2, k3, k4, k5⟩ := buildSliceV_ok (P := P) hs.sr hT (n := n) (vals := parts.map fun (i, x) => (i, a.eval x)) (by rw [Array.toList_map]; exact evp_ok hs hp trivial _) h
      exact ⟨fun _ => op_value (s := Instr.buildSlice T n (parts.map fun (i, x) => (i, a.eval x))) (by simp [execOp, ho]) k1 (Nx_new hs hd k2 k3 k4 k5), fun hn => absurd trivial hn⟩
    · exact h.elim
  · -- build
    rename_i T parts ho
    split at h
    · rename_i z pl hz hpl
      split at h
      · rename_i cs hf
        refine op_pure hs hd hp (r := .ok (.agg cs)) (fun hpc v hv => ?_) h
        cases hv
        obtain ⟨u, h1, h2⟩ := build_ok (P := P) (c := c) hz hpl (vals := parts.map fun (i, x) => (i, a.eval x)) (by rw [Array.toList_map]; exact evp_ok hs hp hpc _) hf
        exact ⟨u, by rw [show execOp a.eval o = (do pure (Next.value (← Instr.build T (parts.map fun (i, x) => (i, a.eval x))))) from by simp [execOp, ho]]; exact exec_v h1, h2⟩
      · exact h.elim
    · exact h.elim
  · -- call
    rename_i cl ho
    split at h
    · rename_i b hb
      unfold xb at h
      split at h
      · rename_i t x hts hxs
        obtain ⟨y, hy, rfl⟩ := evs_two hxs
        refine op_pure hs hd hp (fun hpc v hv => ?_) h
        obtain ⟨u, h1, h2⟩ := len_ok (P := P) (w := c.w) (ty := o.type) (hev hpc y) hv
        refine ⟨u, ?_, h2⟩
        have ea : cl.args = #[y] := by apply Array.ext'; simpa using hy
        have et : cl.argTypes = #[t] := by apply Array.ext'; simpa using hts
        simp [execOp, ho, resolve, hb, invoke, builtin, ea, et, h1]
      · rename_i t t' x1 x2 hts hxs
        split at h
        · obtain ⟨y1, y2, hy, rfl, rfl⟩ := evs_pair hxs
          cases hbb : Nat.beq t t' with
          | false => rw [hbb] at h; exact h.elim
          | true =>
            rw [hbb] at h
            obtain rfl := beq_nat hbb
            dsimp only [cond] at h
            split at h
            · rename_i e hT
              split at h
              · rename_i z hz
                cases hb0 : Nat.beq (tbytes P e) 0 with
                | true => rw [hb0] at h; exact h.elim
                | false =>
                  rw [hb0] at h
                  dsimp only [cond] at h
                  have hb1 : tbytes P e ≠ 0 := by intro h0; rw [h0] at hb0; simp at hb0
                  obtain ⟨c', H', r, y, k1, k2, k3, k4, k5⟩ := appendV_ok (P := P) (ty := o.type) hT hz hb1 hs.sr (hev trivial y1) (hev trivial y2) h
                  have ea : cl.args = #[y1, y2] := by apply Array.ext'; simpa using hy
                  have et : cl.argTypes = #[t, t] := by apply Array.ext'; simpa using hts
                  refine ⟨fun _ => ?_, fun hn => absurd trivial hn⟩
                  have hrun : (execOp a.eval o).run P c.w = .ok (.value r) c'.w := by
                    simp [execOp, ho, resolve, hb, invoke, builtin, ea, et, k1]
                  simp only [Oper.wp, hrun, Oper.upon]
                  exact Nx_new hs hd k2 k3 k4 k5
              · exact h.elim
            · exact h.elim
        · exact h.elim
      · rename_i t x1 hts hxs
        split at h
        · obtain ⟨y, hy, rfl⟩ := evs_two hxs
          split at h
          · rename_i e hT
            split at h
            · rename_i z hz
              obtain ⟨c', H', k1, k2, k3, k4⟩ := clearV_ok (P := P) (ty := o.type) hs.sr hT hz (hev trivial y) h
              have ea : cl.args = #[y] := by apply Array.ext'; simpa using hy
              have et : cl.argTypes = #[t] := by apply Array.ext'; simpa using hts
              refine ⟨fun _ => ?_, fun hn => absurd trivial hn⟩
              have hrun : (execOp a.eval o).run P c.w = .ok (.value (.tuple #[])) c'.w := by
                simp [execOp, ho, resolve, hb, invoke, builtin, ea, et, k1]
              simp only [Oper.wp, hrun, Oper.upon]
              exact Nx_new hs hd k2 k3 (v := .tup []) (by simp only [VR]; exact ⟨#[], rfl, rfl, by simp only [VRs]⟩) k4
            · exact h.elim
          · exact h.elim
        · exact h.elim
      · rename_i t t' x1 x2 hts hxs
        split at h
        · obtain ⟨y1, y2, hy, rfl, rfl⟩ := evs_pair hxs
          split at h
          · rename_i e hT
            obtain ⟨c', H', kk, k1, k2, k3, k4⟩ := copyV_ok (P := P) (t' := t') (ty := o.type) hs.sr hT (hev trivial y1) (hev trivial y2) h
            have ea : cl.args = #[y1, y2] := by apply Array.ext'; simpa using hy
            have et : cl.argTypes = #[t, t'] := by apply Array.ext'; simpa using hts
            refine ⟨fun _ => ?_, fun hn => absurd trivial hn⟩
            have hrun : (execOp a.eval o).run P c.w = .ok (.value (.int .i64 (kk : Nat))) c'.w := by
              simp [execOp, ho, resolve, hb, invoke, builtin, ea, et, k1]
            simp only [Oper.wp, hrun, Oper.upon]
            exact Nx_new hs hd k2 k3 (v := .int .i64 (kk : Nat)) (by simp only [VR]) k4
          · exact h.elim
        · exact h.elim
      · rename_i t x1 hts hxs
        obtain ⟨y, hy, rfl⟩ := evs_two hxs
        refine op_pure hs hd hp (fun hpc v hv => ?_) h
        obtain ⟨u, h1, h2⟩ := cap_ok (P := P) (w := c.w) (ty := o.type) (hev hpc y) hv
        refine ⟨u, ?_, h2⟩
        have ea : cl.args = #[y] := by apply Array.ext'; simpa using hy
        have et : cl.argTypes = #[t] := by apply Array.ext'; simpa using hts
        simp [execOp, ho, resolve, hb, invoke, builtin, ea, et, h1]
      · rename_i x1 x2 hts hxs
        obtain ⟨y1, y2, hy, rfl, rfl⟩ := evs_pair hxs
        refine op_pure hs hd hp (fun hpc v hv => ?_) h
        obtain ⟨u, h1, h2⟩ := max_ok (P := P) (w := c.w) (ts := cl.argTypes) (ty := o.type) (hev hpc y1) (hev hpc y2) hv
        refine ⟨u, ?_, h2⟩
        have ea : cl.args = #[y1, y2] := by apply Array.ext'; simpa using hy
        simp [execOp, ho, resolve, hb, invoke, builtin, ea, h1]
      · rename_i x1 x2 hts hxs
        obtain ⟨y1, y2, hy, rfl, rfl⟩ := evs_pair hxs
        refine op_pure hs hd hp (fun hpc v hv => ?_) h
        obtain ⟨u, h1, h2⟩ := min_ok (P := P) (w := c.w) (ts := cl.argTypes) (ty := o.type) (hev hpc y1) (hev hpc y2) hv
        refine ⟨u, ?_, h2⟩
        have ea : cl.args = #[y1, y2] := by apply Array.ext'; simpa using hy
        simp [execOp, ho, resolve, hb, invoke, builtin, ea, h1]
      · exact h.elim
    · rename_i f hf
      split at h
      · rename_i g first caps hv
        split at h
        · exact ⟨fun _ => call_ok hs hp trivial ho hf hv h fun c' H' v u k1 k2 k3 k4 => Nx_new hs hd k1 k2 k3 k4, fun hn => absurd trivial hn⟩
        · rename_i y q
          obtain ⟨v, hv1, hv2⟩ := h
          refine ⟨fun hpc => call_ok hs hp hpc ho hf hv (hv1 hpc) fun c' H' v' u k1 k2 k3 k4 => ?_, fun hn => Nx_put hs hd hp (fun h => absurd h hn) (fun _ => rfl) hv2⟩
          obtain ⟨rfl, rfl⟩ := k4
          exact Nx_put (c := c') ⟨k1, ER_mono k2 hs.er, hs.ki, hs.ao⟩ hd hp (fun _ => k3) (fun h => absurd hpc h) hv2
      · exact h.elim
    · exact h.elim
  · exact h.elim
end
end Go.VM
