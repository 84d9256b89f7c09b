import Derived.Test.YtkcbjhjpepdkcaaVMz
set_option linter.unusedVariables false
set_option linter.unusedSimpArgs false
set_option linter.unnecessarySimpa false
namespace Go.VM
theorem ER_mono {c c' : Ctx} (h : Le c c') {E : Env} {a : Act} (H : ER c E a) : ER c' E a := fun t => ⟨fun hp => VR_mono h _ _ ((H t).1 hp), (H t).2⟩
section
variable {P : Program} {F : Fr} {c : Ctx} {E : Env} {H : Heap} {a : Act} {X : Nat → Bool} {k : Nat} {p : Path} {o : Oper} {Q : Exit → Act → World → Prop} {K : Env → Heap → Prop}
/-- an operation that stands under no guard, and turns the world -/
theorem Nx_new (hs : St F c E H a X k) (hd : ∀ x, o.dst = some x → x < F.nt) {c' : Ctx} {H' : Heap} (h1 : SR F c' H') (h2 : Le c c') {v : V} {u : Value} (h3 : VR c' v u)
    (h : K (put E o.dst (k + 1) [] v) H') : Nx F (k + 1) K (a.put o.dst u) c'.w :=
  Nx_put (c := c') ⟨h1, ER_mono h2 hs.er, hs.ki, hs.ao⟩ hd (p := []) (fun i b x h => by simp at h) (fun _ => h3) (fun h => absurd trivial h) h
theorem op_value {s : Sem Value} (he : execOp a.eval o = (do pure (Next.value (← s)))) {c' : Ctx} {u : Value} (hr : s.run P c.w = .ok u c'.w) {n : Act → World → Prop} (h : n (a.put o.dst u) c'.w) : o.wp P a c.w n Q := by
  simp only [Oper.wp, he, exec_v hr, Oper.upon]
  exact h
theorem op_unit {s : Sem Unit} (he : execOp a.eval o = (do s; pure Next.skip)) {c' : Ctx} (hr : s.run P c.w = .ok () c'.w) {n : Act → World → Prop} (h : n (a.put o.dst undef) c'.w) : o.wp P a c.w n Q := by
  have : (execOp a.eval o).run P c.w = .ok .skip c'.w := by rw [he]; simp [Sem.run_bind, hr]
  simp only [Oper.wp, this, Oper.upon]
  exact h
theorem pure_v (hs : St F c E H a X k) (hd : ∀ x, o.dst = some x → x < F.nt) (hp : KP X k p) {r : R} {s : Sem Value} (he : execOp a.eval o = (do pure (Next.value (← s))))
    (hrun : pc p → ∀ v, r.has v → ∃ u, s.run P c.w = .ok u c.w ∧ VR c v u) (h : rk p r fun v => K (put E o.dst (k + 1) p v) H) : OpOk P F Q o k p a c K := by
  refine op_pure hs hd hp (fun hpc v hv => ?_) h
  obtain ⟨u, hu, hvu⟩ := hrun hpc v hv
  exact ⟨u, by rw [he]; exact exec_v hu, hvu⟩
theorem pk_ok (hs : St F c E H a X k) (hp : KP X k p) (hpc : pc p) {t : Operand} {b : Bool} (h : ev E p t = .bool b) : KP X k (pk E p t b) ∧ pc (pk E p t b) := by
  unfold pk
  split
  · rename_i t
    split
    · rename_i i q v hg
      have hki := (hs.ki t).2 i (by rw [hg])
      rw [hg] at hki
      have hv : v = .bool b := by
        simp only [ev, evt, hg] at h
        cases hpp : ppre q p with
        | false => rw [hpp] at h; cases h
        | true => rw [hpp] at h; exact h
      rw [padd_eq]
      refine ⟨fun i' b' x' hm => ?_, ?_⟩
      · rcases List.mem_append.1 hm with hm | hm
        · exact hp i' b' x' hm
        · simp only [List.mem_singleton, Prod.mk.injEq] at hm
          obtain ⟨rfl, rfl, rfl⟩ := hm
          exact ⟨hki.2 _ hv, hki.1⟩
      · rw [pc_iff]
        intro i' b' x' hm
        rcases List.mem_append.1 hm with hm | hm
        · exact (pc_iff p).1 hpc i' b' x' hm
        · simp only [List.mem_singleton, Prod.mk.injEq] at hm
          obtain ⟨rfl, rfl, rfl⟩ := hm
          rfl
    · exact ⟨hp, hpc⟩
  · exact ⟨hp, hpc⟩
theorem evo_ok (hs : St F c E H a X k) (hp : KP X k p) (hpc : pc p) (x : Option Operand) : OR c (evo E p x) (x.map a.eval) := by
  cases x with
  | none => trivial
  | some x => exact ev_ok hs.er hs.ki hp hpc x
theorem evp_ok (hs : St F c E H a X k) (hp : KP X k p) (hpc : pc p) (l : List (Nat × Operand)) : PR c (evp E p l) (l.map fun (i, x) => (i, a.eval x)) := by
  induction l with
  | nil => exact .nil
  | cons y l ih => obtain ⟨i, x⟩ := y; exact .cons (ev_ok hs.er hs.ki hp hpc x) ih
theorem app_eq (a b : List V) : app a b = a ++ b := by induction a <;> simp_all [app]
theorem callFunc_body {g : Nat} (h : fbody P g = true) (args : Array Value) (w : World) : (callFunc g args).run P w = .ok (.enter g args) w := by
  unfold fbody at h
  split at h
  · rename_i fn hf
    simp only [Bool.and_eq_true, bne_iff_ne, ne_eq] at h
    have hb : ¬ (fn.body.isNone = true) := by
      have := h.1
      cases hbb : fn.body <;> simp_all
    have hn : ¬ ((fn.name == "runtime.NumGoroutine") = true) := by simpa using h.2
    unfold callFunc
    simp only [Sem.run_bind, run_program, Result.andThen_ok, hf, if_neg hn, if_neg hb, Sem.run_pure]
  · cases h
theorem VRs_append {xs ys : List V} {us vs : Array Value} (h1 : us.size = xs.length) (hx : VRs c xs fun j => us[j]?) (hy : VRs c ys fun j => vs[j]?) : VRs c (xs ++ ys) fun j => (us ++ vs)[j]? := by
  refine VRs_of fun i v hi => ?_
  by_cases h : i < xs.length
  · rw [List.getElem?_append_left h] at hi
    obtain ⟨u, hu, hv⟩ := VRs_get hx hi
    exact ⟨u, by rw [Array.getElem?_append_left (by omega)]; exact hu, hv⟩
  · rw [List.getElem?_append_right (by omega)] at hi
    obtain ⟨u, hu, hv⟩ := VRs_get hy hi
    exact ⟨u, by rw [Array.getElem?_append_right (by omega), h1]; exact hu, hv⟩
/-- a call of a function that has a body -/
theorem call_ok (hs : St F c E H a X k) (hp : KP X k p) (hpc : pc p) {cl : Call} (ho : o.op = .call cl) {f : Operand} (hf : cl.callee = .value f) {g : Nat} {first caps : List V} (hv : ev E p f = .fn g first caps)
    {KK : V → Heap → Prop} (h : cw P g (app first (app (evs E p cl.args.toList) caps)) H KK) {n : Act → World → Prop}
    (hn : ∀ c' H' v u, SR F c' H' → Le c c' → VR c' v u → KK v H' → n (a.put o.dst u) c'.w) : o.wp P a c.w n Q := by
  have hx := ev_ok hs.er hs.ki hp hpc f
  rw [hv] at hx
  simp only [VR] at hx
  obtain ⟨us, ws, e1, e2, e3, e4, e5⟩ := hx
  have hargs := evs_ok hs.er hs.ki hp hpc cl.args
  have hlen : (cl.args.map a.eval).size = (evs E p cl.args.toList).length := by rw [evs_eq]; simp
  have hrun : (execOp a.eval o).run P c.w = .ok (.enter g (us ++ cl.args.map a.eval ++ ws)) c.w := by
    simp only [execOp, ho, resolve, hf, e1, Deferred.ofValue, Sem.run_bind, Sem.run_pure, Result.andThen_ok, invoke]
    exact callFunc_body h.1 _ _
  simp only [Oper.wp, hrun, Oper.upon]
  rw [app_eq, app_eq] at h
  refine Calls.mono (h.2 F c hs.sr (us ++ cl.args.map a.eval ++ ws) ?_ ?_) ?_
  · simp [e2, e3, hlen, Nat.add_assoc]
  · rw [Array.append_assoc]
    exact VRs_append e2 e4 (VRs_append hlen hargs e5)
  · rintro e w' ⟨c', u, v, H', rfl, rfl, k1, k2, k3, k4⟩
    exact hn c' H' v u k2 k1 k3 k4
end
end Go.VM
