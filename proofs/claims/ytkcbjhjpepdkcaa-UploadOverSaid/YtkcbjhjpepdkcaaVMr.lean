import Derived.Test.YtkcbjhjpepdkcaaVMq
set_option linter.unusedVariables false
set_option linter.unusedSimpArgs false
set_option linter.unnecessarySimpa false
namespace Go.VM
/-! ### A function, by its body -/
def argE (k : Nat) : List V → Env
  | [] => []
  | v :: vs => ⟨k, 0, [], v⟩ :: argE (k + 1) vs
/-- what the results' variables hold at the end -/
def resV (P : Program) (E : Env) (H : Heap) : List ResultVar → List V → (List V → Prop) → Prop
  | [], acc, K => K acc
  | .tmp t :: r, acc, K => resV P E H r (app acc [ev E [] (.tmp t)]) K
  | .cell t T :: r, acc, K => (match load (ti P T) H (ev E [] (.tmp t)) with
    | .ok v => resV P E H r (app acc [v]) K
    | _ => False)
def one : List V → V
  | [v] => v
  | vs => .tup vs
/-- a call's end: the results, and which of its blocks are kept -/
def fin (d : Nat) (σ : List Nat) (v : V) (H1 : Heap) (x : V) (H : Heap) : Prop :=
  okσ (hlen H) σ = true ∧ okH d σ H σ ∧ okW (okD σ H d) σ H x ∧ frV d σ H x = v ∧ frH d σ H σ = H1
def retK (P : Program) (rs : List ResultVar) (K : V → Heap → Prop) : X → Env → Heap → Prop
  | .exit _, _, _ => False
  | .normal, E, H => resV P E H rs [] fun vs => K (one vs) H
  | .ret, E, H => resV P E H rs [] fun vs => K (one vs) H
section
variable {P : Program}
theorem argE_get (vs : List V) (k t : Nat) : get (argE k vs) t = (0, [], if t < k then .bad else (vs[t - k]?).getD .bad) := by
  induction vs generalizing k with
  | nil => simp [argE, get]
  | cons v vs ih =>
    simp only [argE, get_cons]
    by_cases h : k = t
    · subst h; simp
    · rw [if_neg h, ih]
      by_cases h1 : t < k
      · rw [if_pos (by omega), if_pos h1]
      · rw [if_neg (by omega), if_neg h1]
        have : t - k = (t - (k + 1)) + 1 := by omega
        rw [this, List.getElem?_cons_succ]
theorem one_spec {c : Ctx} {vs : List V} {us : Array Value} (hsz : us.size = vs.length) (h : VRs c vs fun j => us[j]?) : VR c (one vs) (if h : us.size = 1 then us[0] else .tuple us) := by
  unfold one
  split
  · rename_i v
    simp only [VRs] at h
    obtain ⟨⟨u, e1, e2⟩, _⟩ := h
    have h1 : us.size = 1 := by simpa using hsz
    rw [dif_pos h1]
    have : us[0]? = some us[0] := by simp [h1]
    rw [this] at e1
    cases e1
    exact e2
  · rename_i hne
    have h1 : ¬ us.size = 1 := by
      intro h1
      rw [hsz] at h1
      cases vs with
      | nil => simp at h1
      | cons v vs => cases vs with
        | nil => exact hne v rfl
        | cons => simp at h1
    rw [dif_neg h1]
    simp only [VR]
    exact ⟨us, rfl, hsz, h⟩
def rsem (tmps : Array Value) : ResultVar → Sem Value
  | .tmp t => pure (tmps.getD t undef)
  | .cell x t => do loadVar t (← asAddr (tmps.getD x undef))
theorem results_eq (fn : Func) (tmps : Array Value) : results fn tmps = (do let vs ← fn.results.mapM (rsem tmps); pure (if h : vs.size = 1 then vs[0] else .tuple vs)) := by
  unfold results
  have : (fun r => rsem tmps r) = rsem tmps := rfl
  rw [← this]
  rfl
theorem loadAt_var {T : TypeId} {x u : Value} {w w' : World} (h : (Instr.loadAt T x).run P w = .ok u w') : (do loadVar T (← asAddr x) : Sem Value).run P w = .ok u w' := by
  cases x with
  | pointer A =>
    cases A with
    | none => simp [Instr.loadAt, Instr.sureAddr, Sem.run_bind] at h
    | some A => simpa [Instr.loadAt, Instr.sureAddr, asAddr, Sem.run_bind] using h
  | _ => simp [Instr.loadAt, Instr.sureAddr, asAddr, Sem.run_bind] at h
theorem resV_ok {F : Fr} {c : Ctx} {E : Env} {H : Heap} {a : Act} (hs : SR F c H) (he : ER c E a) {K : List V → Prop} :
    ∀ (rs : List ResultVar) (acc : List V) (us : List Value), us.length = acc.length → (VRs c acc fun j => us[j]?) → resV P E H rs acc K →
      ∃ vs ws, (rs.mapM (rsem a.tmps)).run P c.w = .ok ws c.w ∧ (us ++ ws).length = vs.length ∧ (VRs c vs fun j => (us ++ ws)[j]?) ∧ K vs
  | [], acc, us, h1, h2, h => ⟨acc, [], by simp, by simpa using h1, by simpa using h2, h⟩
  | .tmp t :: r, acc, us, h1, h2, h => by
    simp only [resV, app_eq] at h
    have hv : VR c (ev E [] (.tmp t)) (a.tmps.getD t undef) := evt_top he t
    obtain ⟨vs, ws, k1, k2, k3, k4⟩ := resV_ok hs he r (acc ++ [ev E [] (.tmp t)]) (us ++ [a.tmps.getD t undef]) (by simp [h1]) (by
      refine VRs_of fun i v hi => ?_
      by_cases hlt : i < acc.length
      · rw [List.getElem?_append_left hlt] at hi
        obtain ⟨u, e1, e2⟩ := VRs_get h2 hi
        exact ⟨u, by rw [List.getElem?_append_left (by omega)]; exact e1, e2⟩
      · rw [List.getElem?_append_right (by omega)] at hi
        have : i - acc.length = 0 := by
          have := (List.getElem?_eq_some_iff.1 hi).1
          simpa using this
        rw [this] at hi
        simp only [List.getElem?_cons_zero, Option.some.injEq] at hi
        subst hi
        refine ⟨_, ?_, hv⟩
        rw [List.getElem?_append_right (by omega), h1, this]
        simp) h
    refine ⟨vs, a.tmps.getD t undef :: ws, ?_, by simpa using k2, by simpa using k3, k4⟩
    simp only [List.mapM_cons, rsem, Sem.run_bind, Sem.run_pure, Result.andThen_ok, k1]
  | .cell t T :: r, acc, us, h1, h2, h => by
    simp only [resV, app_eq] at h
    split at h
    · rename_i v hv
      obtain ⟨u, hu, hvu⟩ := load_ok (P := P) (z := v) hs (evt_top he t : VR c (ev E [] (.tmp t)) (a.tmps.getD t undef)) (by show (load (ti P T) H (ev E [] (.tmp t))).has v; rw [hv]; rfl)
      have hld : (do loadVar T (← asAddr (a.tmps.getD t undef)) : Sem Value).run P c.w = .ok u c.w := by
        exact loadAt_var hu
      obtain ⟨vs, ws, k1, k2, k3, k4⟩ := resV_ok hs he r (acc ++ [v]) (us ++ [u]) (by simp [h1]) (by
        refine VRs_of fun i x hi => ?_
        by_cases hlt : i < acc.length
        · rw [List.getElem?_append_left hlt] at hi
          obtain ⟨u, e1, e2⟩ := VRs_get h2 hi
          exact ⟨u, by rw [List.getElem?_append_left (by omega)]; exact e1, e2⟩
        · rw [List.getElem?_append_right (by omega)] at hi
          have : i - acc.length = 0 := by
            have := (List.getElem?_eq_some_iff.1 hi).1
            simpa using this
          rw [this] at hi
          simp only [List.getElem?_cons_zero, Option.some.injEq] at hi
          subst hi
          refine ⟨_, ?_, hvu⟩
          rw [List.getElem?_append_right (by omega), h1, this]
          simp) h
      refine ⟨vs, u :: ws, ?_, by simpa using k2, by simpa using k3, k4⟩
      have hr0 : (rsem a.tmps (.cell t T)).run P c.w = .ok u c.w := hld
      simp only [List.mapM_cons, Sem.run_bind, hr0, Sem.run_pure, Result.andThen_ok, k1]
    · exact h.elim
theorem results_ok {F : Fr} {c : Ctx} {E : Env} {H : Heap} {a : Act} (hs : SR F c H) (he : ER c E a) {K : V → Heap → Prop} {fn : Func} (h : resV P E H fn.results.toList [] fun vs => K (one vs) H) :
    ∃ v u, (results fn a.tmps).run P c.w = .ok u c.w ∧ VR c v u ∧ K v H := by
  obtain ⟨vs, ws, k1, k2, k3, k4⟩ := resV_ok (P := P) hs he fn.results.toList [] [] rfl (by simp only [VRs]) h
  refine ⟨one vs, _, ?_, one_spec (us := ws.toArray) (by simpa using k2) (by simpa using k3), k4⟩
  rw [results_eq, Array.mapM_eq_mapM_toList]
  simp only [Sem.run_bind, Sem.run_map, Sem.run_pure, Result.andThen_ok, k1, List.nil_append]
/-- A FUNCTION'S CONTRACT, from what its body comes to. -/
theorem meets_cx {f : Nat} {fn : Func} {body : Code} {args : List V} {v : V} {H1 : Heap} (hf : P.funcs[f]? = some fn) (hb : fn.body = some body) (hname : fbody P f = true)
    (hok : okc fn.ntmps body = true) (hnt : args.length ≤ fn.ntmps) (d : Nat) (σ : List Nat)
    (h : cx P 0 body (argE 0 args) [] (retK P fn.results.toList (fin d σ v H1))) : Meets P f args v H1 := by
  refine ⟨hname, fun w I hI us hsz hus => calls_of_wp hf hb ?_⟩
  have hs : SR ⟨⟨w, I, []⟩, fun _ => False, fn.ntmps⟩ ⟨w, I, []⟩ [] :=
    ⟨⟨rfl, rfl, rfl, Nat.le_refl _, fun _ _ _ => rfl⟩, Le.refl _, rfl, fun r b l h => by simp at h, fun r r' x x' b m m' h => by simp at h, hI, fun b h => .inl h⟩
  have he : ER ⟨w, I, []⟩ (argE 0 args) { tmps := us ++ Array.replicate (fn.ntmps - us.size) undef, defers := [] } := by
    intro t
    rw [argE_get]
    refine ⟨fun _ => ?_, fun h => absurd trivial h⟩
    simp only [Nat.not_lt_zero, if_false, Nat.sub_zero]
    cases ht : args[t]? with
    | none => simp only [Option.getD_none, VR]
    | some v =>
      simp only [Option.getD_some]
      obtain ⟨u, e1, e2⟩ := VRs_get hus ht
      have hlt : t < us.size := (Array.getElem?_eq_some_iff.1 e1).1
      have : tmpOf { tmps := us ++ Array.replicate (fn.ntmps - us.size) undef, defers := [] } t = u := by
        simp only [tmpOf, Array.getD_eq_getD_getElem?]
        rw [Array.getElem?_append_left hlt, e1]
        rfl
      rw [this]
      exact e2
  have ha : AO ⟨⟨w, I, []⟩, fun _ => False, fn.ntmps⟩ { tmps := us ++ Array.replicate (fn.ntmps - us.size) undef, defers := [] } := ⟨rfl, by simp; omega⟩
  have hw := h ⟨⟨w, I, []⟩, fun _ => False, fn.ntmps⟩ ⟨w, I, []⟩ _ (Nat.le_refl _) hs he ha hok
  refine wp_mono hw fun e a' w' hq => ?_
  have key : ∀ c E H, SR ⟨⟨w, I, []⟩, fun _ => False, fn.ntmps⟩ c H → ER c E a' → (resV P E H fn.results.toList [] fun vs => fin d σ v H1 (one vs) H) →
      ∃ u, (results fn a'.tmps).run P c.w = .ok u c.w ∧ ∃ c' u', Ending.returned u = .returned u' ∧ c'.w = c.w ∧ SR ⟨⟨w, I, []⟩, fun _ => False, 0⟩ c' H1 ∧ VR c' v u' := by
    intro c E H h1 h2 h3
    obtain ⟨x, u, k1, k2, k3⟩ := results_ok (K := fin d σ v H1) h1 h2 h3
    obtain ⟨f1, f2, f3, f4, f5⟩ := k3
    rw [hlen_eq] at f1
    obtain ⟨s1, s2⟩ := h1.fz rfl (fun _ h => h) f1 f2
    have s3 := s2 x u f3 k2
    rw [f5] at s1
    rw [f4] at s3
    exact ⟨u, k1, c.fz σ H, u, rfl, rfl, ⟨⟨s1.fr.os, s1.fr.tape, s1.fr.output, s1.fr.size, s1.fr.block⟩, s1.le, s1.len, s1.blk, s1.inj, s1.imm, s1.old⟩, s3⟩
  cases e with
  | normal =>
    obtain ⟨c, E, H, rfl, h1, h2, h3, h4⟩ := hq
    obtain ⟨u, k1, k2⟩ := key c E H h1 h2 h4
    exact ⟨h3.defers, u, k1, k2⟩
  | ret =>
    obtain ⟨c, E, H, rfl, h1, h2, h3, h4⟩ := hq
    obtain ⟨u, k1, k2⟩ := key c E H h1 h2 h4
    exact ⟨h3.defers, u, k1, k2⟩
  | exit i => obtain ⟨c, E, H, rfl, h1, h2, h3, h4⟩ := hq; exact h4.elim
  | goto l => exact hq.elim
  | panic ch => exact hq.elim
  | outgrown => exact hq.elim
/-- A FUNCTION'S CONTRACT, FROM A WALK OF ITS BODY. -/
theorem meets_body {f : Nat} {fn : Func} {body : Code} {args : List V} {v : V} {H1 : Heap} (hf : P.funcs[f]? = some fn) (hb : fn.body = some body) (hname : fbody P f = true)
    (hok : okc fn.ntmps body = true) (hnt : args.length ≤ fn.ntmps) (d : Nat) (σ : List Nat)
    (h : xc P 0 body (argE 0 args) [] (retK P fn.results.toList (fin d σ v H1))) : Meets P f args v H1 :=
  meets_cx hf hb hname hok hnt d σ (cx_of_xc h)
theorem argE_ER {c : Ctx} {us : Array Value} {args : List V} {nt : Nat} (hus : VRs c args fun j => us[j]?) : ER c (argE 0 args) { tmps := us ++ Array.replicate (nt - us.size) undef, defers := [] } := by
  intro t
  rw [argE_get]
  refine ⟨fun _ => ?_, fun h => absurd trivial h⟩
  simp only [Nat.not_lt_zero, if_false, Nat.sub_zero]
  cases ht : args[t]? with
  | none => simp only [Option.getD_none, VR]
  | some v =>
    simp only [Option.getD_some]
    obtain ⟨u, e1, e2⟩ := VRs_get hus ht
    have hlt : t < us.size := (Array.getElem?_eq_some_iff.1 e1).1
    have : tmpOf { tmps := us ++ Array.replicate (nt - us.size) undef, defers := [] } t = u := by
      simp only [tmpOf, Array.getD_eq_getD_getElem?]
      rw [Array.getElem?_append_left hlt, e1]
      rfl
    rw [this]
    exact e2
/-- the frame of a call that may write the caller's own blocks -/
def Fr.here (F : Fr) (c : Ctx) (H : Heap) (nt : Nat) : Fr := ⟨c, fun b => ∃ (r : Nat) (x : Blk) (m : Nat), H[r]? = some x ∧ Live x ∧ c.locs[r]? = some (some (b, m)), nt⟩
theorem SR.here {F : Fr} {c : Ctx} {H : Heap} (hs : SR F c H) (nt : Nat) : SR (F.here c H nt) c H :=
  ⟨⟨rfl, rfl, rfl, Nat.le_refl _, fun _ _ _ => rfl⟩, Le.refl _, hs.len, fun r b l hr hl => by
    cases l with
    | none => exact hs.blk r b _ hr hl
    | some l =>
      obtain ⟨bb, m⟩ := l
      intro hlive
      obtain ⟨C, el, h1, h2, h3, _⟩ := hs.blk r b _ hr hl hlive
      exact ⟨C, el, h1, h2, h3, .inr ⟨r, b, m, hr, hlive, hl⟩⟩, hs.inj, hs.imm, fun b h => .inl h⟩
theorem SR.back {F : Fr} {c c' : Ctx} {H H' : Heap} {nt : Nat} (hs : SR F c H) (h : SR (F.here c H nt) c' H') : SR F c' H' := by
  have hw : ∀ b, Wr (F.here c H nt) b → Wr F b := by
    rintro b (hb | ⟨r, x, m, hr, hx, hl⟩)
    · exact .inl (Nat.le_trans hs.fr.size hb)
    · obtain ⟨C, el, _, _, _, h4⟩ := hs.blk r x _ hr hl hx
      exact h4
  refine ⟨⟨h.fr.os.trans hs.fr.os, h.fr.tape.trans hs.fr.tape, h.fr.output.trans hs.fr.output, Nat.le_trans hs.fr.size h.fr.size, fun k hk hx => ?_⟩, hs.le.trans h.le, h.len, fun r b l hr hl => ?_, h.inj, h.imm, fun b hb => ?_⟩
  · refine (h.fr.block k (Nat.lt_of_lt_of_le hk hs.fr.size) fun hh => ?_).trans (hs.fr.block k hk hx)
    rcases hw k (.inr hh) with h1 | h1
    · omega
    · exact hx h1
  · cases l with
    | none => exact h.blk r b _ hr hl
    | some l =>
      obtain ⟨bb, m⟩ := l
      intro hlive
      obtain ⟨C, el, h1, h2, h3, h4⟩ := h.blk r b _ hr hl hlive
      exact ⟨C, el, h1, h2, h3, hw _ h4⟩
  · rcases h.old b hb with h1 | h1
    · exact hs.old b h1
    · exact .inr (Nat.le_trans hs.fr.size h1)
/-- A CALL, BY WHAT THE CALLED FUNCTION'S BODY COMES TO IN THE CALLER'S OWN HEAP. -/
theorem cw_cx {f : Nat} {fn : Func} {body : Code} {args : List V} {H : Heap} {K : V → Heap → Prop} (hf : P.funcs[f]? = some fn) (hb : fn.body = some body) (hname : fbody P f = true)
    (hok : okc fn.ntmps body = true) (hnt : args.length ≤ fn.ntmps) (h : cx P (hlen H) body (argE 0 args) H (retK P fn.results.toList K)) : cw P f args H K := by
  refine ⟨hname, fun F c hs0 us hsz hus => calls_of_wp hf hb ?_⟩
  have hs := hs0.here fn.ntmps
  have hn : (F.here c H fn.ntmps).c0.locs.length ≤ hlen H := by
    rw [hlen_eq, ← hs0.len]
    exact Nat.le_refl _
  have ha : AO (F.here c H fn.ntmps) { tmps := us ++ Array.replicate (fn.ntmps - us.size) undef, defers := [] } := ⟨rfl, by
    show (us ++ Array.replicate (fn.ntmps - us.size) undef).size = fn.ntmps
    simp; omega⟩
  have hw := h (F.here c H fn.ntmps) c _ hn hs (argE_ER hus) ha hok
  refine wp_mono hw fun e a' w' hq => ?_
  have key : ∀ c' E H', SR (F.here c H fn.ntmps) c' H' → ER c' E a' → (resV P E H' fn.results.toList [] fun vs => K (one vs) H') →
      ∃ u, (results fn a'.tmps).run P c'.w = .ok u c'.w ∧ ∃ v, VR c' v u ∧ K v H' := by
    intro c' E H' h1 h2 h3
    obtain ⟨x, u, k1, k2, k3⟩ := results_ok (K := K) h1 h2 h3
    exact ⟨u, k1, x, k2, k3⟩
  cases e with
  | normal =>
    obtain ⟨c', E, H', rfl, h1, h2, h3, h4⟩ := hq
    obtain ⟨u, k1, v, k2, k3⟩ := key c' E H' h1 h2 h4
    exact ⟨h3.defers, u, k1, c', u, v, H', rfl, rfl, h1.le, hs0.back h1, k2, k3⟩
  | ret =>
    obtain ⟨c', E, H', rfl, h1, h2, h3, h4⟩ := hq
    obtain ⟨u, k1, v, k2, k3⟩ := key c' E H' h1 h2 h4
    exact ⟨h3.defers, u, k1, c', u, v, H', rfl, rfl, h1.le, hs0.back h1, k2, k3⟩
  | exit i => obtain ⟨c', E, H', rfl, h1, h2, h3, h4⟩ := hq; exact h4.elim
  | goto l => exact hq.elim
  | panic ch => exact hq.elim
  | outgrown => exact hq.elim
/-- how much room a slice of the call's own has -/
theorem cx_exact {n : Nat} {code : Code} {E : Env} {H : Heap} {K : X → Env → Heap → Prop} (t : Nat) {nl : Option Bool} {r e off k : Nat} {tg : Tg} (ht : evt E [] t = .own nl r e off k tg)
    (h : ∀ C, k ≤ C → cx P n code (⟨t, 0, [], .own nl r e off k (.exact C)⟩ :: E) H K) : cx P n code E H K := by
  intro F c a hn hs he ha hok
  have hv := evt_top he t
  rw [ht] at hv
  simp only [VR] at hv
  obtain ⟨A, cap, e1, e2, e3, e4, e5⟩ := hv
  refine h cap e2.1 F c a hn hs (fun t' => ?_) ha hok
  rw [get_cons]
  split
  · rename_i htt
    have htt' : t = t' := htt
    subst htt'
    refine ⟨fun _ => ?_, fun h => absurd trivial h⟩
    rw [e1]
    simp only [VR]
    exact ⟨A, cap, rfl, ⟨e2.1, fun C h => by cases h; rfl⟩, (fun h => by cases h), e4, e5⟩
  · exact he t'
end
end Go.VM
