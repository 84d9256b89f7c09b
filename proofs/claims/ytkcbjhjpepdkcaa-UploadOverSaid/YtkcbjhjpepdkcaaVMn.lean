import Derived.Test.YtkcbjhjpepdkcaaVMm
import Derived.Orders
set_option linter.unusedVariables false
set_option linter.unusedSimpArgs false
set_option linter.unnecessarySimpa false
namespace Go.VM
theorem onth_eq (ops : List Oper) (i : Nat) : onth ops i = ops[i]? := by
  induction ops generalizing i with
  | nil => simp [onth]
  | cons o os ih => cases i with
    | zero => simp [onth]
    | succ i => simp [onth]; exact ih i
section
variable {P : Program} {F : Fr} {c : Ctx} {E : Env} {H : Heap} {a : Act} {X : Nat → Bool} {k : Nat} {p : Path} {o : Oper}
theorem gp_ok {ops : List Oper} (hE : ER c E a) (hK : KI X k E) {g : Option (Nat × Bool)} (hg : o.guard = g) (h : gp ops E g = some p) : KP X k p ∧ (Region.wanted o (yielded ops.toArray a.tmps) = true ↔ pc p) := by
  cases g with
  | none =>
    simp only [gp, Option.some.injEq] at h
    subst h
    exact ⟨fun i b x h => by simp at h, by simp [Region.wanted, hg, pc]⟩
  | some ib =>
    obtain ⟨i, b⟩ := ib
    simp only [gp] at h
    split at h
    · rename_i oi hoi
      split at h
      · rename_i t ht
        split at h
        · rename_i s q x hget
          cases hb : Nat.beq s (i + 1) with
          | false => rw [hb] at h; cases h
          | true =>
            rw [hb] at h
            have hs := beq_nat hb
            subst hs
            simp only [cond, Option.some.injEq] at h
            subst h
            have h1 := hE t
            have h2 := hK t
            rw [hget] at h1 h2
            dsimp only at h1 h2
            obtain ⟨h3, h4⟩ := h2.2 i rfl
            rw [padd_eq]
            refine ⟨fun i' b' x' hm => ?_, ?_⟩
            · rcases List.mem_append.1 hm with hm | hm
              · exact h2.1 i' b' x' hm
              · simp only [List.mem_singleton, Prod.mk.injEq] at hm
                obtain ⟨rfl, rfl, rfl⟩ := hm
                exact ⟨h4 _ rfl, h3⟩
            · have hpc : pc (q ++ [(i, b, x)]) ↔ pc q ∧ x = b := by
                rw [pc_iff, pc_iff]
                constructor
                · intro h
                  exact ⟨fun i' b' x' hm => h i' b' x' (List.mem_append.2 (.inl hm)), h i b x (by simp)⟩
                · rintro ⟨h5, h6⟩ i' b' x' hm
                  rcases List.mem_append.1 hm with hm | hm
                  · exact h5 i' b' x' hm
                  · simp only [List.mem_singleton, Prod.mk.injEq] at hm
                    obtain ⟨rfl, rfl, rfl⟩ := hm
                    exact h6
              rw [hpc]
              have hoi' : ops.toArray[i]? = some oi := by rw [List.getElem?_toArray, ← onth_eq]; exact hoi
              have hy : yielded ops.toArray a.tmps i = match a.tmps[t]? with | some (.bool b) => some b | _ => none := by
                unfold yielded
                rw [hoi']
                show (match (oi.dst).bind (a.tmps[·]?) with | some (.bool b) => some b | _ => none) = _
                rw [ht]
                rfl
              have hw : Region.wanted o (yielded ops.toArray a.tmps) = (yielded ops.toArray a.tmps i == some b) := by simp [Region.wanted, hg]
              rw [hw, hy]
              by_cases hq : pc q
              · have := h1.1 hq
                simp only [VR] at this
                have ht2 : a.tmps[t]? = some (.bool x) := by
                  rw [tmpOf, Array.getD_eq_getD_getElem?] at this
                  cases hh : a.tmps[t]? with
                  | none => rw [hh] at this; cases this
                  | some v => rw [hh] at this; simp at this; rw [this]
                simp [ht2, hq]
              · have := h1.2 hq
                have ht2 : ∀ y, a.tmps[t]? ≠ some (.bool y) := by
                  intro y hy'
                  rw [tmpOf, Array.getD_eq_getD_getElem?, hy'] at this
                  cases this
                constructor
                · intro hh
                  exfalso
                  split at hh
                  · rename_i y hy'; exact ht2 y hy'
                  · cases hh
                · rintro ⟨h5, _⟩; exact absurd h5 hq
        · cases h
      · cases h
    · cases h
theorem xs_sound {ops : List Oper} {K : Env → Heap → Prop} {KX : VM.X → Env → Heap → Prop} (hKX : ∀ E H, K E H → KX .normal E H) :
    ∀ (os : List Oper) (k : Nat) (c : Ctx) (E : Env) (H : Heap) (a : Act) (X : Nat → Bool), (∀ o ∈ os, ∀ x, o.dst = some x → x < F.nt) → St F c E H a X k → xs P ops k os K E H →
      wpList P ops.toArray (lift F KX) os a c.w := by
  intro os
  induction os with
  | nil =>
    intro k c E H a X hnt hs h
    exact wpList_nil ⟨c, E, H, rfl, hs.sr, hs.er, hs.ao, hKX E H h⟩
  | cons o os ih =>
    intro k c E H a X hnt hs h
    simp only [xs] at h
    split at h
    · rename_i p hg
      obtain ⟨hp, hw⟩ := gp_ok hs.er hs.ki rfl hg
      have hok := xo_sound (Q := lift F KX) hs (hnt o (.head _)) hp h
      have hnx : ∀ a w, Nx F (k + 1) (xs P ops (k + 1) os K) a w → wpList P ops.toArray (lift F KX) os a w := by
        rintro a' w' ⟨c', E', H', X', rfl, hs', hk⟩
        exact ih (k + 1) c' E' H' a' X' (fun o ho => hnt o (.tail _ ho)) hs' hk
      refine wpList_step fun K' hK' => ?_
      by_cases hpc : pc p
      · rw [if_pos (hw.2 hpc)]
        exact Oper.wp_mono (fun a w h => hK' a w (hnx a w h)) (hok.1 hpc)
      · rw [if_neg (fun h => hpc (hw.1 h))]
        exact hK' _ _ (hnx _ _ (hok.2 hpc))
    · exact h.elim
theorem okc_region {n : Nat} {id : Nat} {ops : Array Oper} {d : Bool} (h : okc n (.region id ops d) = true) : ∀ o ∈ ops.toList, ∀ x, o.dst = some x → x < n := by
  simp only [okc, List.all_eq_true] at h
  intro o ho x hx
  have := h o ho
  rw [hx] at this
  simpa using this
theorem xc_sound {n : Nat} : ∀ (code : Code) (E : Env) (H : Heap) (K : VM.X → Env → Heap → Prop) (F : Fr) (c : Ctx) (a : Act), F.c0.locs.length ≤ n → SR F c H → ER c E a → AO F a → okc F.nt code = true → xc P n code E H K →
    code.wp P (lift F K) a c.w := by
  intro code
  induction code with
  | skip => intro E H K F c a hn hs he ha _ h; exact wp_skip ⟨c, E, H, rfl, hs, he, ha, h⟩
  | region id ops d =>
    intro E H K F c a hn hs he ha hok h
    simp only [xc] at h
    cases d with
    | false =>
      exact wp_region_list (xs_sound (K := K .normal) (fun _ _ h => h) ops.toList 0 c (clean E) H a _ (okc_region hok) ⟨hs, ER_clean he, KI_clean E, ha⟩ h)
    | true => exact h F c a hn hs he ha hok
  | seq x y ihx ihy =>
    intro E H K F c a hn hs he ha hok h
    simp only [okc, Bool.and_eq_true] at hok
    refine wp_seq (wp_mono (ihx E H _ F c a hn hs he ha hok.1 h) fun e a' w' hq => ?_)
    cases e with
    | normal => obtain ⟨c', E', H', rfl, h1, h2, h3, h4⟩ := hq; exact ihy E' H' K F c' a' hn h1 h2 h3 hok.2 h4
    | exit i => obtain ⟨c', E', H', rfl, h1, h2, h3, h4⟩ := hq; exact ⟨c', E', H', rfl, h1, h2, h3, h4⟩
    | ret => obtain ⟨c', E', H', rfl, h1, h2, h3, h4⟩ := hq; exact ⟨c', E', H', rfl, h1, h2, h3, h4⟩
    | goto l => exact hq.elim
    | panic ch => exact hq.elim
    | outgrown => exact hq.elim
  | cond cc x y ihx ihy =>
    intro E H K F c a hn hs he ha hok h
    simp only [okc, Bool.and_eq_true] at hok
    simp only [xc] at h
    split at h
    · rename_i b hb
      have hv := ev_ok (ER_clean he) (KI_clean E) (p := []) (fun i b x h => by simp at h) trivial cc
      rw [hb] at hv
      simp only [VR] at hv
      cases b with
      | true => exact wp_cond_true hv (ihx E H K F c a hn hs he ha hok.1 (h.1 rfl))
      | false => exact wp_cond_false hv (ihy E H K F c a hn hs he ha hok.2 (h.2 rfl))
    · exact h.elim
  | block id x ih =>
    intro E H K F c a hn hs he ha hok h
    refine wp_block (wp_mono (ih E H _ F c a hn hs he ha hok h) fun e a' w' hq => ?_)
    cases e with
    | normal => obtain ⟨c', E', H', rfl, h1, h2, h3, h4⟩ := hq; exact ⟨c', E', H', rfl, h1, h2, h3, h4⟩
    | exit i =>
      obtain ⟨c', E', H', rfl, h1, h2, h3, h4⟩ := hq
      dsimp only at h4
      simp only [Exit.inBlock]
      by_cases hi : i = id
      · subst hi
        rw [if_pos rfl]
        rw [Nat.beq_refl] at h4
        exact ⟨c', E', H', rfl, h1, h2, h3, h4⟩
      · rw [if_neg hi]
        have hb : Nat.beq i id = false := by
          cases hh : Nat.beq i id with
          | false => rfl
          | true => exact absurd (beq_nat hh) hi
        rw [hb] at h4
        exact ⟨c', E', H', rfl, h1, h2, h3, h4⟩
    | ret => obtain ⟨c', E', H', rfl, h1, h2, h3, h4⟩ := hq; exact ⟨c', E', H', rfl, h1, h2, h3, h4⟩
    | goto l => exact hq.elim
    | panic ch => exact hq.elim
    | outgrown => exact hq.elim
  | loop x ih => intro E H K F c a hn hs he ha hok h; exact h F c a hn hs he ha hok
  | exit i => intro E H K F c a hn hs he ha _ h; exact wp_exit ⟨c, E, H, rfl, hs, he, ha, h⟩
  | ret => intro E H K F c a hn hs he ha _ h; exact wp_ret ⟨c, E, H, rfl, hs, he, ha, h⟩
  | rangeFunc f ps x y ihx ihy => intro E H K F c a hn hs he ha _ h; exact h.elim
  | scope x ih => intro E H K F c a hn hs he ha _ h; exact h.elim
  | label l => intro E H K F c a hn hs he ha _ h; exact h.elim
  | goto l => intro E H K F c a hn hs he ha _ h; exact h.elim
  | refuse w => intro E H K F c a hn hs he ha _ h; exact h.elim
end
end Go.VM
