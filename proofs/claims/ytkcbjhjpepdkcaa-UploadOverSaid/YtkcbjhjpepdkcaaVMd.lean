import Derived.Test.YtkcbjhjpepdkcaaVMc
set_option linter.unusedVariables false
set_option linter.unusedSimpArgs false
namespace Go.VM
def R.has (r : R) (v : V) : Prop :=
  match r with
  | .no => False
  | .ok z => v = z
  | .chk q z => q ∧ v = z
structure St (F : Fr) (c : Ctx) (E : Env) (H : Heap) (a : Act) (X : Nat → Bool) (k : Nat) : Prop where
  sr : SR F c H
  er : ER c E a
  ki : KI X k E
  ao : AO F a
def Nx (F : Fr) (k : Nat) (K : Env → Heap → Prop) (a : Act) (w : World) : Prop := ∃ c E H X, c.w = w ∧ St F c E H a X k ∧ K E H
def OpOk (P : Program) (F : Fr) (Q : Exit → Act → World → Prop) (o : Oper) (k : Nat) (p : Path) (a : Act) (c : Ctx) (K : Env → Heap → Prop) : Prop :=
  (pc p → o.wp P a c.w (Nx F (k + 1) K) Q) ∧ (¬ pc p → Nx F (k + 1) K (a.put o.dst undef) c.w)
section
variable {P : Program} {F : Fr} {c : Ctx} {E : Env} {H : Heap} {a : Act} {X : Nat → Bool} {k : Nat} {p : Path} {o : Oper} {Q : Exit → Act → World → Prop} {K : Env → Heap → Prop}
theorem Nx_put (hs : St F c E H a X k) (hd : ∀ x, o.dst = some x → x < F.nt) (hp : KP X k p) {v : V} {u : Value} (h1 : pc p → VR c v u) (h2 : ¬ pc p → u = undef)
    (h : K (put E o.dst (k + 1) p v) H) : Nx F (k + 1) K (a.put o.dst u) c.w := by
  obtain ⟨X', hX⟩ := KI_put (v := v) hs.ki (d := o.dst) hp
  exact ⟨c, _, H, X', rfl, ⟨hs.sr, ER_put hs.er (fun x hx => by rw [hs.ao.size]; exact hd x hx) h1 h2, hX, hs.ao.put _ _⟩, h⟩
theorem op_pure (hs : St F c E H a X k) (hd : ∀ x, o.dst = some x → x < F.nt) (hp : KP X k p) {r : R}
    (hrun : pc p → ∀ v, r.has v → ∃ u, (execOp a.eval o).run P c.w = .ok (.value u) c.w ∧ VR c v u)
    (h : rk p r fun v => K (put E o.dst (k + 1) p v) H) : OpOk P F Q o k p a c K := by
  have key : ∃ v, (pc p → r.has v) ∧ K (put E o.dst (k + 1) p v) H := by
    cases r with
    | no => exact h.elim
    | ok v => exact ⟨v, fun _ => rfl, h⟩
    | chk q v => exact ⟨v, fun hpc => ⟨h.1 hpc, rfl⟩, h.2⟩
  obtain ⟨v, hv, hK⟩ := key
  refine ⟨fun hpc => ?_, fun hn => Nx_put hs hd hp (fun h => absurd h hn) (fun _ => rfl) hK⟩
  obtain ⟨u, hu, hvu⟩ := hrun hpc v (hv hpc)
  simp only [Oper.wp, hu, Oper.upon]
  exact Nx_put hs hd hp (fun _ => hvu) (fun h => absurd hpc h) hK
end
section
variable {P : Program} {c : Ctx} {w : World}
theorem exec_v {s : Sem Value} {u : Value} {w' : World} (h : s.run P w = .ok u w') : (do pure (Next.value (← s)) : Sem Next).run P w = .ok (.value u) w' := by
  simp [Sem.run_bind, h]
theorem pick_ok {cv av bv z : V} {cu au bu : Value} (h : (pickV cv av bv).has z) (hc : VR c cv cu)
    (ha : cv = .bool true → VR c av au) (hb : cv = .bool false → VR c bv bu) :
    ∃ u, (do pure (Next.value (if ← asBool cu then au else bu)) : Sem Next).run P w = .ok (.value u) w ∧ VR c z u := by
  unfold pickV at h
  split at h
  · rename_i b
    simp only [VR] at hc
    subst hc
    refine ⟨if b then au else bu, by simp [asBool, Sem.run_bind], ?_⟩
    split at h
    · rename_i x y
      simp only [R.has] at h
      subst h
      cases b with
      | true => have := ha rfl; simp only [VR] at this; simp [this, bsel, VR]
      | false => have := hb rfl; simp only [VR] at this; simp [this, bsel, VR]
    · simp only [R.has] at h
      subst h
      simp [VR]
  · exact h.elim
theorem toList_str (l : List UInt8) : (⟨l.toArray⟩ : ByteArray).toList = l := by
  rw [ByteArray.toList_eq]
theorem kind_bool {t : Nat} (h : tkind P t = .bool) : P.underlying t = some .bool := by
  unfold tkind at h
  split at h <;> first | assumption | (split at h <;> first | (split at h <;> cases h) | cases h) | cases h
theorem kind_int {t : Nat} {k : IntKind} (h : tkind P t = .int k) : P.underlying t = some (.int k) := by
  unfold tkind at h
  split at h <;> first | (cases h; assumption) | (split at h <;> first | (split at h <;> cases h) | cases h) | cases h
theorem kind_str {t : Nat} (h : tkind P t = .str) : P.underlying t = some .string := by
  unfold tkind at h
  split at h <;> first | assumption | (split at h <;> first | (split at h <;> cases h) | cases h) | cases h
theorem kind_slice {t : Nat} (h : tkind P t = .slice) : ∃ e, P.underlying t = some (.slice e) := by
  unfold tkind at h
  split at h <;> first | exact ⟨_, by assumption⟩ | (split at h <;> first | (split at h <;> cases h) | cases h) | cases h
theorem decide_beq {α : Type} [DecidableEq α] [BEq α] [LawfulBEq α] (a b : α) : (a == b) = decide (a = b) := by
  by_cases h : a = b <;> simp [h]
theorem bin_int {op : BinOp} {T : Nat} {k l : IntKind} {m n : Int} {z : V} {x y : Operand} (h : (bin op (tkind P T) (.int k m) (.int l n)).has z) :
    ∃ r, (do eqGuard op T x y (.int k m) (.int l n); binOp op T (.int k m) (.int l n) : Sem Value).run P w = .ok r w ∧ VR c z r := by
  unfold bin at h
  dsimp only at h
  cases hk : Nat.beq (ikn k) (ikn l) with
  | false => rw [hk] at h; exact h.elim
  | true =>
    rw [hk] at h
    obtain rfl := ikn_inj hk
    dsimp only [cond] at h
    rw [eqGuard_at_int]
    cases op <;> simp only [R.has] at h <;> first
      | exact h.elim
      | (subst h; simp [binOp, Op.intArith, Op.intCmp, VR, Sem.run_bind, decide_beq, bne]; done)
      | (obtain ⟨h0, rfl⟩ := h; simp [binOp, Op.intDiv, VR, Sem.run_bind, h0]; done)
theorem bin_str {op : BinOp} {T : Nat} {m n : List UInt8} {z : V} {x y : Operand} (h : (bin op (tkind P T) (.str m) (.str n)).has z) :
    ∃ r, (do eqGuard op T x y (.string ⟨m.toArray⟩) (.string ⟨n.toArray⟩); binOp op T (.string ⟨m.toArray⟩) (.string ⟨n.toArray⟩) : Sem Value).run P w = .ok r w ∧ VR c z r := by
  unfold bin at h
  dsimp only at h
  rw [eqGuard_at_string]
  have e1 := toList_str m
  have e2 := toList_str n
  cases op <;> simp only [R.has] at h <;> first
      | exact h.elim
      | (subst h; simp [binOp, Op.stringOp, VR, Sem.run_bind, decide_beq, bne, e1, e2, blt]; done)
      | (obtain ⟨h0, rfl⟩ := h
         have : ¬ (9223372036854775807 < ((m.length : Int) + (n.length : Int))) := by omega
         simp [binOp, Op.stringOp, VR, Sem.run_bind, ByteArray.size, this]
         rfl)
theorem bin_bool {op : BinOp} {T : Nat} {m n : Bool} {z : V} {x y : Operand} (h : (bin op (tkind P T) (.bool m) (.bool n)).has z) :
    ∃ r, (do eqGuard op T x y (.bool m) (.bool n); binOp op T (.bool m) (.bool n) : Sem Value).run P w = .ok r w ∧ VR c z r := by
  unfold bin at h
  dsimp only at h
  rw [eqGuard_at_bool]
  have key : ∀ d, P.underlying T = some .bool → (Op.equalIn (d + 1) T (.bool m) (.bool n)).run P w = .ok (m == n) w := fun d hT => run_equalIn_bool' w d T m n hT
  split at h
  · rename_i hk
    simp only [R.has] at h; subst h
    refine ⟨.bool (decide (m = n)), ?_, by simp [VR]⟩
    simp only [binOp, Sem.run_bind, Sem.run_pure, Result.andThen_ok, Op.equal, Op.maxDepth]
    rw [key 9999 (kind_bool hk)]
    simp [decide_beq]
  · rename_i hk
    simp only [R.has] at h; subst h
    refine ⟨.bool (!decide (m = n)), ?_, by simp [VR]⟩
    simp only [binOp, Sem.run_bind, Sem.run_pure, Result.andThen_ok, Op.equal, Op.maxDepth]
    rw [key 9999 (kind_bool hk)]
    simp [decide_beq]
  · exact h.elim
theorem run_eq_nil {T e : Nat} (hT : P.underlying T = some (.slice e)) (d : Nat) (A : Option Addr) (n m : Nat) :
    (Op.equalIn (d + 1) T (.slice A n m) (.slice none 0 0)).run P w = .ok A.isNone w := by
  cases A <;> simp [Op.equalIn, Sem.run_bind, run_underlying hT]
theorem bin_nil {op : BinOp} {T : Nat} {A : Option Addr} {n m : Nat} {nl : Bool} (hA : nl = true ↔ A = none) {x y : Operand}
    {z : V} (h : (match op, tkind P T with | .eql, .slice => R.ok (.bool nl) | .neq, .slice => .ok (.bool (!nl)) | _, _ => .no).has z) :
    ∃ r, (do eqGuard op T x y (.slice A n m) (.slice none 0 0); binOp op T (.slice A n m) (.slice none 0 0) : Sem Value).run P w = .ok r w ∧ VR c z r := by
  rw [eqGuard_at_slice]
  have hn : A.isNone = nl := by cases A <;> cases nl <;> simp_all
  split at h
  · rename_i hk
    obtain ⟨e, hT⟩ := kind_slice hk
    simp only [R.has] at h; subst h
    refine ⟨.bool nl, ?_, by simp [VR]⟩
    simp only [binOp, Sem.run_bind, Sem.run_pure, Result.andThen_ok, Op.equal, Op.maxDepth]
    rw [run_eq_nil hT 9999]
    simp [hn]
  · rename_i hk
    obtain ⟨e, hT⟩ := kind_slice hk
    simp only [R.has] at h; subst h
    refine ⟨.bool (!nl), ?_, by simp [VR]⟩
    simp only [binOp, Sem.run_bind, Sem.run_pure, Result.andThen_ok, Op.equal, Op.maxDepth]
    rw [run_eq_nil hT 9999]
    simp [hn]
  · exact h.elim
/-! #### structs held against each other -/
theorem part_scalar {t : Nat} (hT : tagg P t = some false) (cs : Array Value) (i : Nat) {u : Value} (h : cs[i]? = some u) : (part t cs i).run P w = .ok u w := by
  have : P.underlying t ≠ none ∧ ∀ d, P.underlying t = some d → (match d with | .struct _ | .array _ _ => true | _ => false) = false := by
    unfold tagg at hT
    split at hT
    · cases hT
    · cases hT
    · rename_i d h1 h2 h3
      rw [h3]
      refine ⟨by simp, fun d' hd => ?_⟩
      cases hd
      cases d <;> simp_all
    · cases hT
  obtain ⟨h1, h2⟩ := this
  obtain ⟨d, hd⟩ := Option.ne_none_iff_exists'.1 h1
  have h3 := h2 d hd
  unfold part
  simp only [Sem.run_bind, isAgg, run_underlying hd, Result.andThen_ok]
  cases d <;> simp_all
theorem flatAt_cons {f : Field} {fs : List Field} {i : Nat} {ks : List Nat} (h : flatAt P (f :: fs) i = some ks) :
    ∃ q ks', ks = q :: ks' ∧ f.name ≠ "_" ∧ f.offset = i ∧ flatAt P fs (i + 1) = some ks' ∧
      ((q = 0 ∧ P.underlying f.type = some .bool) ∨ (q = 1 ∧ ∃ k, P.underlying f.type = some (.int k)) ∨ (q = 2 ∧ P.underlying f.type = some .string)) := by
  simp only [flatAt] at h
  split at h
  · rename_i hc
    simp only [Bool.and_eq_true, bne_iff_ne, ne_eq, beq_iff_eq] at hc
    split at h
    · rename_i ks' h1 h2; cases h; exact ⟨0, ks', rfl, hc.1, hc.2, h2, .inl ⟨rfl, h1⟩⟩
    · rename_i k ks' h1 h2; cases h; exact ⟨1, ks', rfl, hc.1, hc.2, h2, .inr (.inl ⟨rfl, k, h1⟩)⟩
    · rename_i ks' h1 h2; cases h; exact ⟨2, ks', rfl, hc.1, hc.2, h2, .inr (.inr ⟨rfl, h1⟩)⟩
    · cases h
  · cases h
theorem eq1_ok {q t : Nat} {x y : V} {b : Bool} (h : eq1 q x y = some b) {u v : Value} (hx : VR c x u) (hy : VR c y v) (d : Nat)
    (ht : (q = 0 ∧ P.underlying t = some .bool) ∨ (q = 1 ∧ ∃ k, P.underlying t = some (.int k)) ∨ (q = 2 ∧ P.underlying t = some .string)) :
    (Op.equalIn (d + 1) t u v).run P w = .ok b w := by
  unfold eq1 at h
  split at h
  · cases h
    simp only [VR] at hx hy
    subst hx hy
    rcases ht with ⟨_, h⟩ | ⟨h, _⟩ | ⟨h, _⟩
    · rw [run_equalIn_bool' w d t _ _ h]; simp [decide_beq]
    · cases h
    · cases h
  · rename_i k m l n
    cases hb : Nat.beq (ikn k) (ikn l) with
    | false => rw [hb] at h; cases h
    | true =>
      rw [hb] at h
      obtain rfl := ikn_inj hb
      cases h
      simp only [VR] at hx hy
      subst hx hy
      rcases ht with ⟨h, _⟩ | ⟨_, k', h⟩ | ⟨h, _⟩
      · cases h
      · rw [run_equalIn_int w d t k k' m n h]; simp [decide_beq]
      · cases h
  · cases h
    simp only [VR] at hx hy
    subst hx hy
    rcases ht with ⟨h, _⟩ | ⟨h, _⟩ | ⟨_, h⟩
    · cases h
    · cases h
    · rw [run_equalIn_string w d t _ _ h]; simp [decide_beq, toList_str]
  · cases h
theorem eqs_ok {ks : List Nat} {xs ys : List V} {b : Bool} (h : eqs ks xs ys = some b) {us vs : Array Value} (d : Nat) :
    ∀ (fs : List Field) (i : Nat), flatAt P fs i = some ks →
      (VRs c xs fun j => us[i + j]?) → (VRs c ys fun j => vs[i + j]?) → (Op.eqFields (d + 1) us vs fs).run P w = .ok b w := by
  induction ks generalizing xs ys b with
  | nil =>
    intro fs i hf _ _
    cases fs with
    | nil => cases xs <;> cases ys <;> simp [eqs] at h; subst h; simp [Op.eqFields]
    | cons f fs => obtain ⟨_, _, h, _⟩ := flatAt_cons hf; cases h
  | cons q ks ih =>
    intro fs i hf hx hy
    cases fs with
    | nil => simp [flatAt] at hf
    | cons f fs =>
      obtain ⟨q', ks', hq, hn, ho, hf', ht⟩ := flatAt_cons hf
      cases hq
      have hagg : tagg P f.type = some false := by
        unfold tagg; rcases ht with ⟨_, h⟩ | ⟨_, k, h⟩ | ⟨_, h⟩ <;> rw [h]
      cases xs with
      | nil => simp [eqs] at h
      | cons x xs =>
        cases ys with
        | nil => simp [eqs] at h
        | cons y ys =>
          simp only [VRs] at hx hy
          obtain ⟨⟨u, hu, hxu⟩, hx'⟩ := hx
          obtain ⟨⟨v, hv, hyv⟩, hy'⟩ := hy
          simp only [Nat.add_zero] at hu hv
          have hgo : ∃ r r' : Bool, b = (r && r') ∧ eq1 q x y = some r ∧ eqs ks xs ys = some r' := by
            cases ks with
            | nil =>
              simp only [eqs] at h
              cases xs <;> cases ys <;> simp at h
              exact ⟨b, true, by simp, h, by simp [eqs]⟩
            | cons k2 ks =>
              simp only [eqs] at h
              split at h
              · rename_i r r' h1 h2; cases h; exact ⟨r, r', rfl, h1, by simpa only [eqs] using h2⟩
              · cases h
          obtain ⟨r, r', rfl, hr, hr'⟩ := hgo
          have hrun := eq1_ok (P := P) (w := w) hr hxu hyv d ht
          have ihh := ih hr' fs (i + 1) hf' (by simpa [Nat.add_assoc, Nat.add_comm 1] using hx') (by simpa [Nat.add_assoc, Nat.add_comm 1] using hy')
          simp only [Op.eqFields, hn, ne_eq, not_false_eq_true, if_true, Sem.run_bind, ho, part_scalar hagg us i hu, part_scalar hagg vs i hv, Result.andThen_ok, hrun]
          cases r <;> simp [ihh]
theorem kind_flat {t : Nat} {ks : List Nat} (h : tkind P t = .flat ks) : ∃ fs, P.underlying t = some (.struct fs) ∧ flatAt P fs.toList 0 = some ks ∧ P.stoodInHeld t = false ∧ P.eqGuardType P.depth t = false := by
  unfold tkind at h
  split at h
  · cases h
  · cases h
  · cases h
  · cases h
  · rename_i fs hfs
    split at h
    · rename_i ks' hk
      split at h
      · rename_i hc
        cases h
        simp only [Bool.and_eq_true, Bool.not_eq_true'] at hc
        exact ⟨fs, hfs, hk, hc.1, hc.2⟩
      · cases h
    · cases h
  · cases h
theorem fieldsOf_eq {t : Nat} {fs : Array Field} (h : P.underlying t = some (.struct fs)) : P.fieldsOf t = fs := by
  simp [Program.fieldsOf, h]
theorem bin_flat {op : BinOp} {T : Nat} {ks : List Nat} (hk : tkind P T = .flat ks) {xs ys : List V} {us vs : Array Value} (hx : VRs c xs fun j => us[j]?) (hy : VRs c ys fun j => vs[j]?) {x y : Operand}
    {z : V} (h : (match op, eqs ks xs ys with | .eql, some b => R.ok (.bool b) | .neq, some b => .ok (.bool (!b)) | _, _ => .no).has z) :
    ∃ r, (do eqGuard op T x y (.agg us) (.agg vs); binOp op T (.agg us) (.agg vs) : Sem Value).run P w = .ok r w ∧ VR c z r := by
  obtain ⟨fs, hT, hf, hs, hg⟩ := kind_flat hk
  have hT' : P.underlying T = some (.struct (P.fieldsOf T)) := by rw [fieldsOf_eq hT]; exact hT
  have key : ∀ b, eqs ks xs ys = some b → (Op.equalIn 10000 T (.agg us) (.agg vs)).run P w = .ok b w := fun b hb => by
    rw [run_equalIn_agg w 9999 T us vs hT' hs, fieldsOf_eq hT]
    exact eqs_ok hb 9998 fs.toList 0 hf (by simpa using hx) (by simpa using hy)
  split at h
  · rename_i b hb
    simp only [R.has] at h; subst h
    refine ⟨.bool b, ?_, by simp [VR]⟩
    simp only [Sem.run_bind, run_eqGuard_agg w .eql T x y us vs hg, Result.andThen_ok, run_eql_struct w T us vs, key b hb]
  · rename_i b hb
    simp only [R.has] at h; subst h
    refine ⟨.bool (!b), ?_, by simp [VR]⟩
    simp only [Sem.run_bind, run_eqGuard_agg w .neq T x y us vs hg, Result.andThen_ok, run_neq_struct w T us vs, key b hb]
  · exact h.elim
theorem bin_ok {op : BinOp} {T : Nat} {u v : V} {m n : Value} (hu : VR c u m) (hv : VR c v n) {z : V} {x y : Operand} (h : (bin op (tkind P T) u v).has z) :
    ∃ r, (do eqGuard op T x y m n; binOp op T m n : Sem Value).run P w = .ok r w ∧ VR c z r := by
  cases u <;> cases v <;> first
    | (simp only [VR] at hu hv; subst hu hv; exact bin_int h)
    | (simp only [VR] at hu hv; subst hu hv; exact bin_str h)
    | (simp only [VR] at hu hv; subst hu hv; exact bin_bool h)
    | (unfold bin at h; exact h.elim)
    | skip
  · simp only [VR] at hu hv; subst hu hv
    exact bin_nil (nl := true) (by simp) h
  · rename_i nl _ _ _ _
    simp only [VR] at hu hv; subst hv
    obtain ⟨A, cap, rfl, _, _, hA, _⟩ := hu
    cases nl with
    | none => unfold bin at h; dsimp only at h; split at h <;> exact h.elim
    | some b => exact bin_nil (hA b rfl) h
  · rename_i nl _ _ _ _ _
    simp only [VR] at hu hv; subst hv
    obtain ⟨A, cap, rfl, _, _, hA, _⟩ := hu
    cases nl with
    | none => unfold bin at h; dsimp only at h; split at h <;> exact h.elim
    | some b => exact bin_nil (hA b rfl) h
  · simp only [VR] at hu hv
    obtain ⟨us, rfl, _, _, hx⟩ := hu
    obtain ⟨vs, rfl, _, _, hy⟩ := hv
    unfold bin at h
    dsimp only at h
    split at h
    · rename_i ks hk
      exact bin_flat hk hx hy h
    · exact h.elim
end
end Go.VM
