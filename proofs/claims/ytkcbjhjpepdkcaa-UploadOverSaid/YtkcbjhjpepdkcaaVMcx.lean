import Derived.Test.YtkcbjhjpepdkcaaVMy
set_option linter.unusedVariables false
set_option linter.unusedSimpArgs false
namespace Go.VM
/-! ### Piece by piece -/
/-- what follows a piece of code -/
def andThen (P : Program) (n : Nat) (b : Code) (K : X → Env → Heap → Prop) : X → Env → Heap → Prop
  | .normal, E, H => cx P n b E H K
  | .exit i, E, H => K (.exit i) E H
  | .ret, E, H => K .ret E H
/-- what follows a block -/
def ofBlock (id : Nat) (K : X → Env → Heap → Prop) : X → Env → Heap → Prop
  | .normal, E, H => K .normal E H
  | .exit i, E, H => (match Nat.beq i id with | true => K .normal E H | false => K (.exit i) E H)
  | .ret, E, H => K .ret E H
section
variable {P : Program} {n : Nat} {E : Env} {H : Heap} {K : X → Env → Heap → Prop}
theorem cx_seq {a b : Code} (h : cx P n a E H (andThen P n b K)) : cx P n (.seq a b) E H K := by
  intro F c ac hn hs he ha hok
  simp only [okc, Bool.and_eq_true] at hok
  refine wp_seq (wp_mono (h F c ac hn hs he ha hok.1) fun e a' w' hq => ?_)
  cases e with
  | normal => obtain ⟨c', E', H', rfl, h1, h2, h3, h4⟩ := hq; exact h4 F c' a' hn h1 h2 h3 hok.2
  | exit i => obtain ⟨c', E', H', rfl, h1, h2, h3, h4⟩ := hq; exact ⟨c', E', H', rfl, h1, h2, h3, h4⟩
  | ret => obtain ⟨c', E', H', rfl, h1, h2, h3, h4⟩ := hq; exact ⟨c', E', H', rfl, h1, h2, h3, h4⟩
  | goto l => exact hq.elim
  | panic ch => exact hq.elim
  | outgrown => exact hq.elim
theorem cx_region {id : Nat} {ops : Array Oper} (h : xs P ops.toList 0 ops.toList (K .normal) (clean E) H) : cx P n (.region id ops false) E H K :=
  cx_of_xc (by simp only [xc]; exact h)
theorem cx_sr {id : Nat} {ops : Array Oper} {b : Code} (h : xs P ops.toList 0 ops.toList (andThen P n b K .normal) (clean E) H) : cx P n (.seq (.region id ops false) b) E H K :=
  cx_seq (cx_region h)
theorem cx_cond {c : Operand} {t e : Code} (h : match ev (clean E) [] c with
    | .bool b => (b = true → cx P n t E H K) ∧ (b = false → cx P n e E H K)
    | _ => False) : cx P n (.cond c t e) E H K := by
  intro F cc a hn hs he ha hok
  simp only [okc, Bool.and_eq_true] at hok
  split at h
  · rename_i b hb
    have hv := ev_ok (ER_clean he) (KI_clean E) (p := []) (fun i b x h => by simp at h) trivial c
    rw [hb] at hv
    simp only [VR] at hv
    cases b with
    | true => exact wp_cond_true hv (h.1 rfl F cc a hn hs he ha hok.1)
    | false => exact wp_cond_false hv (h.2 rfl F cc a hn hs he ha hok.2)
  · exact h.elim
theorem cx_block {id : Nat} {b : Code} (h : cx P n b E H (ofBlock id K)) : cx P n (.block id b) E H K := by
  intro F c a hn hs he ha hok
  refine wp_block (wp_mono (h F c a hn hs he ha hok) fun e a' w' hq => ?_)
  cases e with
  | normal => obtain ⟨c', E', H', rfl, h1, h2, h3, h4⟩ := hq; exact ⟨c', E', H', rfl, h1, h2, h3, h4⟩
  | exit i =>
    obtain ⟨c', E', H', rfl, h1, h2, h3, h4⟩ := hq
    simp only [ofBlock] at h4
    simp only [Exit.inBlock]
    by_cases hi : i = id
    · subst hi
      rw [if_pos rfl]
      rw [Nat.beq_refl] at h4
      exact ⟨c', E', H', rfl, h1, h2, h3, h4⟩
    · rw [if_neg hi]
      have hb : Nat.beq i id = false := by
        cases hh : Nat.beq i id with
        | false => rfl
        | true => exact absurd (beq_nat hh) hi
      rw [hb] at h4
      exact ⟨c', E', H', rfl, h1, h2, h3, h4⟩
  | ret => obtain ⟨c', E', H', rfl, h1, h2, h3, h4⟩ := hq; exact ⟨c', E', H', rfl, h1, h2, h3, h4⟩
  | goto l => exact hq.elim
  | panic ch => exact hq.elim
  | outgrown => exact hq.elim
theorem cx_skip (h : K .normal E H) : cx P n .skip E H K := cx_of_xc (by simp only [xc]; exact h)
theorem cx_ret (h : K .ret E H) : cx P n .ret E H K := cx_of_xc (by simp only [xc]; exact h)
theorem cx_exit {i : Nat} (h : K (.exit i) E H) : cx P n (.exit i) E H K := cx_of_xc (by simp only [xc]; exact h)
/-- from a state that says less -/
theorem cx_less {code : Code} (E2 : Env) (H2 : Heap) (h1 : fgE E2 E) (h2 : fgH H2 H) (h : cx P n code E2 H2 K) : cx P n code E H K :=
  fun F c a hn hs he ha hok => h F c a hn (hs.fg h2) (ER_fg he h1) ha hok
theorem fgH_refl (H : Heap) : fgH H H := by
  induction H with
  | nil => rfl
  | cons b H ih => exact ⟨.inr rfl, ih⟩
/-- what is not named is forgotten -/
def keep (ts : List Nat) (E : Env) : Env :=
  match ts with
  | [] => []
  | t :: r => ⟨t, 0, [], evt E [] t⟩ :: keep r E
theorem fgE_keep (ts : List Nat) (E : Env) : fgE (keep ts E) E := by
  induction ts with
  | nil => trivial
  | cons t r ih => exact ⟨rfl, rfl, ih⟩
theorem cx_keep {code : Code} (ts : List Nat) (h : cx P n code (keep ts E) H K) : cx P n code E H K := cx_less _ _ (fgE_keep ts E) (fgH_refl H) h
theorem andThen_normal {b : Code} : andThen P n b K .normal E H = cx P n b E H K := rfl
theorem andThen_ret {b : Code} : andThen P n b K .ret E H = K .ret E H := rfl
theorem andThen_exit {b : Code} {i : Nat} : andThen P n b K (.exit i) E H = K (.exit i) E H := rfl
/-- where two ways meet: what both come to -/
theorem cx_join {a b : Code} (E2 : Env) (H2 : Heap) (h : cx P n a E H fun x E' H' => (match x with
    | .normal => fgE E2 E' ∧ fgH H2 H'
    | x => K x E' H')) (hK : cx P n b E2 H2 K) : cx P n (.seq a b) E H K := by
  refine cx_seq ?_
  intro F c ac hn hs he ha hok
  refine wp_mono (h F c ac hn hs he ha hok) fun e a' w' hq => ?_
  cases e with
  | normal =>
    obtain ⟨c', E', H', h0, h1, h2, h3, h4, h5⟩ := hq
    exact ⟨c', E2, H2, h0, h1.fg h5, ER_fg h2 h4, h3, hK⟩
  | exit i => obtain ⟨c', E', H', h0, h1, h2, h3, h4⟩ := hq; exact ⟨c', E', H', h0, h1, h2, h3, h4⟩
  | ret => obtain ⟨c', E', H', h0, h1, h2, h3, h4⟩ := hq; exact ⟨c', E', H', h0, h1, h2, h3, h4⟩
  | goto l => exact hq.elim
  | panic ch => exact hq.elim
  | outgrown => exact hq.elim
/-- a loop, by what holds at each round's head -/
theorem cx_loop {σ : Type} (inv : σ → Env) (hv : σ → Heap) (μ : σ → Nat) {b : Code} (hn : ∀ s, n ≤ hlen (hv s))
    (round : ∀ s, cx P n b (inv s) (hv s) fun x E H => match x with
      | .normal => ∃ s', μ s' < μ s ∧ sub (inv s') (hv s') E H
      | .exit i => K (.exit i) E H
      | .ret => K .ret E H)
    (s : σ) (h0 : sub (inv s) (hv s) E H) : cx P n (.loop b) E H K := by
  refine cx_sub h0 (hn s) fun F c a hF hs he ha hok => ?_
  refine wp_loop_ghost (fun m a' w' => ∃ s c', μ s = m ∧ c'.w = w' ∧ SR F c' (hv s) ∧ ER c' (inv s) a' ∧ AO F a') (μ s) ⟨s, c, rfl, rfl, hs, he, ha⟩ ?_
  rintro m a' w' ⟨s, c', rfl, rfl, hs, he, ha⟩
  refine wp_mono (round s F c' a' hF hs he ha hok) fun e a2 w2 hq => ?_
  cases e with
  | normal =>
    obtain ⟨c2, E2, H2, rfl, h1, h2, h3, s', hlt, hsub⟩ := hq
    refine ⟨μ s', hlt, s', c2.cut (hv s').length, rfl, rfl, ?_, ?_, h3⟩
    · have := hn s'
      rw [hlen_eq] at this
      exact h1.cut (Nat.le_trans hF this) hsub.2
    · have := ER_sub h2 hsub.1
      rw [hlen_eq] at this
      exact this
  | exit i => obtain ⟨c', E', H', h0, h1, h2, h3, h4⟩ := hq; exact ⟨c', E', H', h0, h1, h2, h3, h4⟩
  | ret => obtain ⟨c', E', H', h0, h1, h2, h3, h4⟩ := hq; exact ⟨c', E', H', h0, h1, h2, h3, h4⟩
  | goto l => exact hq.elim
  | panic ch => exact hq.elim
  | outgrown => exact hq.elim
end
end Go.VM
