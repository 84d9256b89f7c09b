import Derived.Test.YtkcbjhjpepdkcaaW2
section
set_option linter.unusedVariables false
set_option linter.unusedSimpArgs false
open Go Go.VM Go.Proofs Tether
namespace Go.VM.Try
set_option maxRecDepth 100000
set_option maxHeartbeats 1000000
def giveG (l : List Grant) (f by_ w : Str) (r : Int) : List Grant × Int :=
  if ¬ checkG l = 0 then ([], checkG l) else if giveErr l f by_ w r = 0 then (putG l f w r, 0) else ([], giveErr l f by_ w r)
def makeG (l : List Grant) (f w : Str) : List Grant × Int :=
  if ¬ checkG l = 0 then ([], checkG l) else if makeErr l f w = 0 then (putG l f w 3, 0) else ([], makeErr l f w)
theorem Make_c (l : List Grant) (hl : okG l) (f w : Str) (hf : f.length < 4611686018427387904) (hw : w.length < 4611686018427387904) :
    Meets Try.prog 38 [gsV l, .str f, .str w] (.tup [gsV (makeG l f w).1, .int .i64 (makeG l f w).2]) [] := by
  refine meets_x (fn := Try.f38) Try.func38 rfl fb38 (by kernel_rfl) (Nat.le_of_ble_eq_true rfl) ?_
  refine cx_sr ?_
  simp only [go_sem]
  repeat first | (with_reducible refine side_d ?_ ?_; exact byD) | (with_reducible refine side_q ?_ ?_; exact byQ)
  refine cx_seq ?_
  refine cx_sr ?_
  simp only [go_sem]
  repeat first | (with_reducible refine side_d ?_ ?_; exact byD) | (with_reducible refine side_q ?_ ?_; exact byQ)
  refine cw_m (checkG_c l hl) byW byT ?_
  simp only [go_sem]
  repeat first | (with_reducible refine side_d ?_ ?_; exact byD) | (with_reducible refine side_q ?_ ?_; exact byQ)
  refine cx_sr ?_
  simp only [go_sem]
  repeat first | (with_reducible refine side_d ?_ ?_; exact byD) | (with_reducible refine side_q ?_ ?_; exact byQ)
  intro t12 e12
  repeat first | (with_reducible refine side_d ?_ ?_; exact byD) | (with_reducible refine side_q ?_ ?_; exact byQ)
  subst e12
  refine cx_if _ rfl (fun h12 => ?_) (fun h12 => ?_)
  ·
    (try simp only [go_sem] at h12)
    refine cx_sr ?_
    simp only [go_sem]
    repeat first | (with_reducible refine side_d ?_ ?_; exact byD) | (with_reducible refine side_q ?_ ?_; exact byQ)
    refine cx_ret ?_
    simp only [go_sem]
    rw [makeG, if_pos h12]
    exact finx_of 1 [] rfl byC byC byC byC
  ·
    (try simp only [go_sem] at h12)
    have hg := checkG_iff.1 h12
    have h60 := hg.len
    refine cx_skip ?_
    (try simp only [go_sem])
    refine cx_seq (cx_block ?_)
    refine cx_sr ?_
    simp only [go_sem]
    repeat first | (with_reducible refine side_d ?_ ?_; exact byD) | (with_reducible refine side_q ?_ ?_; exact byQ)
    refine cw_v 2 (names_c [f, w] (by simp) (by intro s hs; rcases List.mem_cons.1 hs with rfl | hs; exact hf; rcases List.mem_singleton.1 hs with rfl; exact hw)) byV byC rfl ?_
    simp only [go_sem]
    repeat first | (with_reducible refine side_d ?_ ?_; exact byD) | (with_reducible refine side_q ?_ ?_; exact byQ)
    intro t19 e19
    repeat first | (with_reducible refine side_d ?_ ?_; exact byD) | (with_reducible refine side_q ?_ ?_; exact byQ)
    subst e19
    refine cx_if _ rfl (fun h14 => ?_) (fun h14 => ?_)
    ·
      (try simp only [go_sem] at h14)
      refine cx_sr ?_
      simp only [go_sem]
      repeat first | (with_reducible refine side_d ?_ ?_; exact byD) | (with_reducible refine side_q ?_ ?_; exact byQ)
      refine cx_ret ?_
      simp only [go_sem]
      have he : makeErr l f w = 1 := by rw [makeErr, if_pos (by simpa using h14)]
      rw [makeG, if_neg (by simpa using h12), if_neg (by rw [he]; decide), he]
      exact finx_of 1 [] rfl byC byC byC byC
    ·
      (try simp only [go_sem] at h14)
      refine cx_sr ?_
      simp only [go_sem]
      repeat first | (with_reducible refine side_d ?_ ?_; exact byD) | (with_reducible refine side_q ?_ ?_; exact byQ)
      refine cw_v 2 (ContainsFunc_Grant 64 [.iptr [.str f] 0] rfl (fun g => decide (g.folder = f)) l (fun g _ => Make1_c f g) hl.len) byV byC rfl ?_
      simp only [go_sem]
      repeat first | (with_reducible refine side_d ?_ ?_; exact byD) | (with_reducible refine side_q ?_ ?_; exact byQ)
      refine cx_if _ rfl (fun h20 => ?_) (fun h20 => ?_)
      ·
        (try simp only [go_sem] at h20)
        refine cx_sr ?_
        simp only [go_sem]
        repeat first | (with_reducible refine side_d ?_ ?_; exact byD) | (with_reducible refine side_q ?_ ?_; exact byQ)
        refine cx_ret ?_
        simp only [go_sem]
        have he : makeErr l f w = 6 := by rw [makeErr, if_neg (by simpa using h14), if_pos h20]
        rw [makeG, if_neg (by simpa using h12), if_neg (by rw [he]; decide), he]
        exact finx_of 1 [] rfl byC byC byC byC
      ·
        (try simp only [go_sem] at h20)
        refine cx_sr ?_
        simp only [go_sem]
        repeat first | (with_reducible refine side_d ?_ ?_; exact byD) | (with_reducible refine side_q ?_ ?_; exact byQ)
        intro t27 e27
        repeat first | (with_reducible refine side_d ?_ ?_; exact byD) | (with_reducible refine side_q ?_ ?_; exact byQ)
        subst e27
        refine cx_if _ rfl (fun h24 => ?_) (fun h24 => ?_)
        ·
          (try simp only [go_sem] at h24)
          refine cx_sr ?_
          simp only [go_sem]
          repeat first | (with_reducible refine side_d ?_ ?_; exact byD) | (with_reducible refine side_q ?_ ?_; exact byQ)
          refine cx_ret ?_
          simp only [go_sem]
          have he : makeErr l f w = 2 := by rw [makeErr, if_neg (by simpa using h14), if_neg (by simpa using h20), if_pos h24]
          rw [makeG, if_neg (by simpa using h12), if_neg (by rw [he]; decide), he]
          exact finx_of 1 [] rfl byC byC byC byC
        ·
          (try simp only [go_sem] at h24)
          refine cx_skip ?_
          (try simp only [go_sem])
          refine cx_sr ?_
          simp only [go_sem]
          repeat first | (with_reducible refine side_d ?_ ?_; exact byD) | (with_reducible refine side_q ?_ ?_; exact byQ)
          refine cw_m (set_c l h60 hg.rise f w 3 (fun h => by cases h)) byW byT ?_
          simp only [go_sem]
          repeat first | (with_reducible refine side_d ?_ ?_; exact byD) | (with_reducible refine side_q ?_ ?_; exact byQ)
          refine cx_ret ?_
          simp only [go_sem]
          have he : makeErr l f w = 0 := by rw [makeErr, if_neg (by simpa using h14), if_neg (by simpa using h20), if_neg h24]
          rw [makeG, if_neg (by simpa using h12), if_pos he]
          exact finx_of 1 [] rfl byC byC byC byC
theorem Give_c (l : List Grant) (hl : okG l) (f by_ w : Str) (hf : f.length < 4611686018427387904) (hb : by_.length < 4611686018427387904) (hw : w.length < 4611686018427387904) (r : Int) :
    Meets Try.prog 35 [gsV l, .str f, .str by_, .str w, .int .i64 r] (.tup [gsV (giveG l f by_ w r).1, .int .i64 (giveG l f by_ w r).2]) [] := by
  refine meets_x (fn := Try.f35) Try.func35 rfl fb35 (by kernel_rfl) (Nat.le_of_ble_eq_true rfl) ?_
  refine cx_sr ?_
  simp only [go_sem]
  repeat first | (with_reducible refine side_d ?_ ?_; exact byD) | (with_reducible refine side_q ?_ ?_; exact byQ)
  refine cx_seq ?_
  refine cx_sr ?_
  simp only [go_sem]
  repeat first | (with_reducible refine side_d ?_ ?_; exact byD) | (with_reducible refine side_q ?_ ?_; exact byQ)
  refine cw_m (checkG_c l hl) byW byT ?_
  simp only [go_sem]
  repeat first | (with_reducible refine side_d ?_ ?_; exact byD) | (with_reducible refine side_q ?_ ?_; exact byQ)
  refine cx_sr ?_
  simp only [go_sem]
  repeat first | (with_reducible refine side_d ?_ ?_; exact byD) | (with_reducible refine side_q ?_ ?_; exact byQ)
  intro t16 e16
  repeat first | (with_reducible refine side_d ?_ ?_; exact byD) | (with_reducible refine side_q ?_ ?_; exact byQ)
  subst e16
  refine cx_if _ rfl (fun h16 => ?_) (fun h16 => ?_)
  ·
    (try simp only [go_sem] at h16)
    refine cx_sr ?_
    simp only [go_sem]
    repeat first | (with_reducible refine side_d ?_ ?_; exact byD) | (with_reducible refine side_q ?_ ?_; exact byQ)
    refine cx_ret ?_
    simp only [go_sem]
    rw [giveG, if_pos h16]
    exact finx_of 1 [] rfl byC byC byC byC
  ·
    (try simp only [go_sem] at h16)
    have hg := checkG_iff.1 h16
    have h60 := hg.len
    have hpl := ins_len (l := l) (f := f) (w := w) (r := r)
    refine cx_skip ?_
    (try simp only [go_sem])
    refine cx_seq (cx_block ?_)
    refine cx_sr ?_
    simp only [go_sem]
    repeat first | (with_reducible refine side_d ?_ ?_; exact byD) | (with_reducible refine side_q ?_ ?_; exact byQ)
    refine cw_v 2 (names_c [f, by_, w] (by simp) (by intro s hs; rcases List.mem_cons.1 hs with rfl | hs; exact hf; rcases List.mem_cons.1 hs with rfl | hs; exact hb; rcases List.mem_singleton.1 hs with rfl; exact hw)) byV byC rfl ?_
    simp only [go_sem]
    repeat first | (with_reducible refine side_d ?_ ?_; exact byD) | (with_reducible refine side_q ?_ ?_; exact byQ)
    intro t24 e24
    repeat first | (with_reducible refine side_d ?_ ?_; exact byD) | (with_reducible refine side_q ?_ ?_; exact byQ)
    subst e24
    refine cx_if _ rfl (fun h18 => ?_) (fun h18 => ?_)
    ·
      (try simp only [go_sem] at h18)
      refine cx_sr ?_
      simp only [go_sem]
      repeat first | (with_reducible refine side_d ?_ ?_; exact byD) | (with_reducible refine side_q ?_ ?_; exact byQ)
      refine cx_ret ?_
      simp only [go_sem]
      have he : giveErr l f by_ w r = 1 := by
        simp only [List.all_cons, List.all_nil, Bool.and_true] at h18
        unfold giveErr
        grind
      rw [giveG, if_neg (by simpa using h16), if_neg (by rw [he]; decide), he]
      exact finx_of 1 [] rfl byC byC byC byC
    ·
      (try simp only [go_sem] at h18)
      refine cx_sr ?_
      simp only [go_sem]
      repeat first | (with_reducible refine side_d ?_ ?_; exact byD) | (with_reducible refine side_q ?_ ?_; exact byQ)
      intro t27 e27
      repeat first | (with_reducible refine side_d ?_ ?_; exact byD) | (with_reducible refine side_q ?_ ?_; exact byQ)
      intro t30 e30
      repeat first | (with_reducible refine side_d ?_ ?_; exact byD) | (with_reducible refine side_q ?_ ?_; exact byQ)
      intro t31 e31
      rw [bsel_or] at e31
      repeat first | (with_reducible refine side_d ?_ ?_; exact byD) | (with_reducible refine side_q ?_ ?_; exact byQ)
      subst e27 e30 e31
      refine cx_if _ rfl (fun h25 => ?_) (fun h25 => ?_)
      ·
        (try simp only [go_sem] at h25)
        refine cx_sr ?_
        simp only [go_sem]
        repeat first | (with_reducible refine side_d ?_ ?_; exact byD) | (with_reducible refine side_q ?_ ?_; exact byQ)
        refine cx_ret ?_
        simp only [go_sem]
        have he : giveErr l f by_ w r = 3 := by
          simp only [List.all_cons, List.all_nil, Bool.and_true] at h18
          unfold giveErr
          grind
        rw [giveG, if_neg (by simpa using h16), if_neg (by rw [he]; decide), he]
        exact finx_of 1 [] rfl byC byC byC byC
      ·
        (try simp only [go_sem] at h25)
        refine cx_sr ?_
        simp only [go_sem]
        repeat first | (with_reducible refine side_d ?_ ?_; exact byD) | (with_reducible refine side_q ?_ ?_; exact byQ)
        refine cw_m (Of_c l hl.len hg.rise f by_) byW byT ?_
        simp only [go_sem]
        repeat first | (with_reducible refine side_d ?_ ?_; exact byD) | (with_reducible refine side_q ?_ ?_; exact byQ)
        intro t37 e37
        repeat first | (with_reducible refine side_d ?_ ?_; exact byD) | (with_reducible refine side_q ?_ ?_; exact byQ)
        intro t41 e41
        repeat first | (with_reducible refine side_d ?_ ?_; exact byD) | (with_reducible refine side_q ?_ ?_; exact byQ)
        intro t44 e44
        repeat first | (with_reducible refine side_d ?_ ?_; exact byD) | (with_reducible refine side_q ?_ ?_; exact byQ)
        intro t45 e45
        rw [bsel_and] at e45
        repeat first | (with_reducible refine side_d ?_ ?_; exact byD) | (with_reducible refine side_q ?_ ?_; exact byQ)
        intro t46 e46
        repeat first | (with_reducible refine side_d ?_ ?_; exact byD) | (with_reducible refine side_q ?_ ?_; exact byQ)
        intro t47 e47
        rw [bsel_and] at e47
        repeat first | (with_reducible refine side_d ?_ ?_; exact byD) | (with_reducible refine side_q ?_ ?_; exact byQ)
        subst e37 e41 e44 e45 e46 e47
        refine cx_if _ rfl (fun h32 => ?_) (fun h32 => ?_)
        ·
          (try simp only [go_sem] at h32)
          refine cx_sr ?_
          simp only [go_sem]
          repeat first | (with_reducible refine side_d ?_ ?_; exact byD) | (with_reducible refine side_q ?_ ?_; exact byQ)
          refine cx_ret ?_
          simp only [go_sem]
          have he : giveErr l f by_ w r = 9 := by
            simp only [List.all_cons, List.all_nil, Bool.and_true] at h18
            unfold giveErr
            grind
          rw [giveG, if_neg (by simpa using h16), if_neg (by rw [he]; decide), he]
          exact finx_of 1 [] rfl byC byC byC byC
        ·
          (try simp only [go_sem] at h32)
          refine cx_sr ?_
          simp only [go_sem]
          repeat first | (with_reducible refine side_d ?_ ?_; exact byD) | (with_reducible refine side_q ?_ ?_; exact byQ)
          intro t50 e50
          repeat first | (with_reducible refine side_d ?_ ?_; exact byD) | (with_reducible refine side_q ?_ ?_; exact byQ)
          refine ⟨_, fun hp => cw_m (Of_c l hl.len hg.rise f w) byW byT ⟨rfl, rfl⟩, ?_⟩
          simp only [go_sem]
          repeat first | (with_reducible refine side_d ?_ ?_; exact byD) | (with_reducible refine side_q ?_ ?_; exact byQ)
          intro t56 e56
          repeat first | (with_reducible refine side_d ?_ ?_; exact byD) | (with_reducible refine side_q ?_ ?_; exact byQ)
          intro t57 e57
          rw [bsel_and] at e57
          repeat first | (with_reducible refine side_d ?_ ?_; exact byD) | (with_reducible refine side_q ?_ ?_; exact byQ)
          subst e50 e56 e57
          refine cx_if _ rfl (fun h48 => ?_) (fun h48 => ?_)
          ·
            (try simp only [go_sem] at h48)
            refine cx_sr ?_
            simp only [go_sem]
            repeat first | (with_reducible refine side_d ?_ ?_; exact byD) | (with_reducible refine side_q ?_ ?_; exact byQ)
            refine cx_ret ?_
            simp only [go_sem]
            have he : giveErr l f by_ w r = 5 := by
              simp only [List.all_cons, List.all_nil, Bool.and_true] at h18
              unfold giveErr
              grind
            rw [giveG, if_neg (by simpa using h16), if_neg (by rw [he]; decide), he]
            exact finx_of 1 [] rfl byC byC byC byC
          ·
            (try simp only [go_sem] at h48)
            have hrh : r = 0 → hasG l f w = true := fun h0 => by
              have h1 : ¬ rightG l f w = 0 := by
                rcases h48 with h | h
                · exact absurd h0 h
                · exact h
              rw [rightG_eq hg.rise] at h1
              split at h1
              · rename_i h2
                unfold hasG
                rw [decide_eq_true h2.1, decide_eq_true h2.2]; rfl
              · exact absurd rfl h1
            refine cx_skip ?_
            (try simp only [go_sem])
            refine cx_sr ?_
            simp only [go_sem]
            repeat first | (with_reducible refine side_d ?_ ?_; exact byD) | (with_reducible refine side_q ?_ ?_; exact byQ)
            refine cw_m (set_c l h60 hg.rise f w r hrh) byW byT ?_
            simp only [go_sem]
            repeat first | (with_reducible refine side_d ?_ ?_; exact byD) | (with_reducible refine side_q ?_ ?_; exact byQ)
            refine cx_seq (cx_block ?_)
            refine cx_sr ?_
            simp only [go_sem]
            repeat first | (with_reducible refine side_d ?_ ?_; exact byD) | (with_reducible refine side_q ?_ ?_; exact byQ)
            refine cw_v 2 (ContainsFunc_Grant 61 [.iptr [.str f] 0] rfl (fun g => decide (g.folder = f) && decide (g.right = 3)) (putG l f w r) (fun g _ => Give1_c f g) (by omega)) byV byC rfl ?_
            simp only [go_sem]
            repeat first | (with_reducible refine side_d ?_ ?_; exact byD) | (with_reducible refine side_q ?_ ?_; exact byQ)
            intro t67 e67
            repeat first | (with_reducible refine side_d ?_ ?_; exact byD) | (with_reducible refine side_q ?_ ?_; exact byQ)
            subst e67
            refine cx_if _ rfl (fun h63 => ?_) (fun h63 => ?_)
            ·
              (try simp only [go_sem] at h63)
              refine cx_sr ?_
              simp only [go_sem]
              repeat first | (with_reducible refine side_d ?_ ?_; exact byD) | (with_reducible refine side_q ?_ ?_; exact byQ)
              refine cx_ret ?_
              simp only [go_sem]
              have he : giveErr l f by_ w r = 4 := by
                simp only [List.all_cons, List.all_nil, Bool.and_true] at h18
                unfold giveErr
                grind
              rw [giveG, if_neg (by simpa using h16), if_neg (by rw [he]; decide), he]
              exact finx_of 1 [] rfl byC byC byC byC
            ·
              (try simp only [go_sem] at h63)
              refine cx_sr ?_
              simp only [go_sem]
              repeat first | (with_reducible refine side_d ?_ ?_; exact byD) | (with_reducible refine side_q ?_ ?_; exact byQ)
              intro t71 e71
              repeat first | (with_reducible refine side_d ?_ ?_; exact byD) | (with_reducible refine side_q ?_ ?_; exact byQ)
              subst e71
              refine cx_if _ rfl (fun h68 => ?_) (fun h68 => ?_)
              ·
                (try simp only [go_sem] at h68)
                refine cx_sr ?_
                simp only [go_sem]
                repeat first | (with_reducible refine side_d ?_ ?_; exact byD) | (with_reducible refine side_q ?_ ?_; exact byQ)
                refine cx_ret ?_
                simp only [go_sem]
                have he : giveErr l f by_ w r = 2 := by
                  simp only [List.all_cons, List.all_nil, Bool.and_true] at h18
                  unfold giveErr
                  grind
                rw [giveG, if_neg (by simpa using h16), if_neg (by rw [he]; decide), he]
                exact finx_of 1 [] rfl byC byC byC byC
              ·
                (try simp only [go_sem] at h68)
                refine cx_skip ?_
                (try simp only [go_sem])
                refine cx_sr ?_
                simp only [go_sem]
                repeat first | (with_reducible refine side_d ?_ ?_; exact byD) | (with_reducible refine side_q ?_ ?_; exact byQ)
                refine cx_ret ?_
                simp only [go_sem]
                have he : giveErr l f by_ w r = 0 := by
                  simp only [List.all_cons, List.all_nil, Bool.and_true] at h18
                  unfold giveErr
                  grind
                rw [giveG, if_neg (by simpa using h16), if_pos he]
                exact finx_of 1 [] rfl byC byC byC byC
end Go.VM.Try
end
section
set_option linter.unusedVariables false
set_option linter.unusedSimpArgs false
open Go Go.VM
namespace Tether
/-! the document's putting of a grant, step by step -/
def putStep (f w : Str) (r : Int) (s : List Grant × Bool) (g : Grant) : List Grant × Bool :=
  let s1 := if s.2 = false ∧ (f < g.folder ∨ g.folder = f ∧ ¬ g.who < w) then (s.1 ++ [⟨f, w, r⟩], true) else s
  if ¬ g.folder = f ∨ ¬ g.who = w then (s1.1 ++ [g], s1.2) else s1
def refPut (l : List Grant) (f w : Str) (r : Int) : List Grant :=
  let s := l.foldl (putStep f w r) ([], decide (r = 0))
  if s.2 = false then s.1 ++ [⟨f, w, r⟩] else s.1
theorem foldl_len {f w : Str} {r : Int} (l : List Grant) (s : List Grant × Bool) : (l.foldl (putStep f w r) s).1.length ≤ s.1.length + 2 * l.length := by
  induction l generalizing s with
  | nil => simp
  | cons g l ih =>
    rw [List.foldl_cons]
    refine Nat.le_trans (ih _) ?_
    have : (putStep f w r s g).1.length ≤ s.1.length + 2 := by
      unfold putStep
      dsimp only
      split <;> split <;> simp <;> omega
    simp; omega
/-- behind its place nothing is put any more -/
theorem fold_behind {f w : Str} {r : Int} : ∀ (l : List Grant) (o : List Grant), (∀ g ∈ l, ¬ sameG g ⟨f, w, 0⟩) → l.foldl (putStep f w r) (o, true) = (o ++ l, true)
  | [], o, _ => by simp
  | g :: l, o, h => by
    rw [List.foldl_cons]
    have h1 : putStep f w r (o, true) g = (o ++ [g], true) := by
      have := h g (by simp)
      unfold putStep
      simp only [sameG] at this
      have h2 : ¬ g.folder = f ∨ ¬ g.who = w := by
        by_cases e : g.folder = f
        · right; intro e2; exact this ⟨e, e2⟩
        · exact .inl e
      simp [h2]
    rw [h1, fold_behind l _ fun x hx => h x (by simp [hx])]
    simp
/-- ahead of its place -/
theorem fold_ahead {f w : Str} {r : Int} {b : Bool} : ∀ (l : List Grant) (o : List Grant), (∀ g ∈ l, ahead g ⟨f, w, 0⟩) → l.foldl (putStep f w r) (o, b) = (o ++ l, b)
  | [], o, _ => by simp
  | g :: l, o, h => by
    rw [List.foldl_cons]
    have h1 : putStep f w r (o, b) g = (o ++ [g], b) := by
      have ha : g.folder < f ∨ g.folder = f ∧ g.who < w := h g (by simp)
      unfold putStep
      have h2 : ¬ (f < g.folder ∨ g.folder = f ∧ ¬ g.who < w) := by
        rintro (h | ⟨e, h⟩)
        · rcases ha with k | ⟨k, _⟩
          · exact List.lt_irrefl _ (List.lt_trans h k)
          · rw [k] at h; exact List.lt_irrefl _ h
        · rcases ha with k | ⟨_, k⟩
          · rw [e] at k; exact List.lt_irrefl _ k
          · exact h k
      have h3 : ¬ g.folder = f ∨ ¬ g.who = w := by
        rcases ha with k | ⟨k1, k⟩
        · left; intro e; rw [e] at k; exact List.lt_irrefl _ k
        · right; intro e; rw [e] at k; exact List.lt_irrefl _ k
      have h4 : ¬ (b = false ∧ (f < g.folder ∨ g.folder = f ∧ ¬ g.who < w)) := fun h => h2 h.2
      dsimp only
      rw [if_neg h4, if_pos h3]
    rw [h1, fold_ahead l _ fun x hx => h x (by simp [hx])]
    simp
theorem split_at {l : List Grant} {k : Nat} (hk : k < l.length) : l = l.take k ++ l.getD k default :: l.drop (k + 1) := by
  have : l.getD k default = l[k] := by simp [List.getD, hk]
  rw [this, ← List.drop_eq_getElem_cons hk, List.take_append_drop]
theorem refPut_eq {l : List Grant} (hs : SortedG l) (f w : Str) (r : Int) : refPut l f w r = putG l f w r := by
  have hle := gIx_le l f w
  have hah : ∀ g ∈ l.take (gIx l f w), ahead g ⟨f, w, 0⟩ := fun g hg => by
    obtain ⟨j, hj, rfl⟩ := List.getElem_of_mem hg
    have hj2 : j < gIx l f w := by simp at hj; omega
    have := order_lt.1 (gIx_lt hj2)
    have hjl : j < l.length := by omega
    simpa [List.getD, hjl] using this
  unfold refPut putG
  by_cases hh : hasG l f w = true
  · have h1 : gIx l f w < l.length ∧ order (l.getD (gIx l f w) default) ⟨f, w, 0⟩ = 0 := by simpa [hasG] using hh
    obtain ⟨hk, h0⟩ := h1
    have hsame := order_eq.1 h0
    have hb : ∀ g ∈ l.drop (gIx l f w + 1), ¬ sameG g ⟨f, w, 0⟩ := fun g hg hg2 => by
      obtain ⟨j, hj, rfl⟩ := List.getElem_of_mem hg
      rw [List.getElem_drop] at hg2
      have hj2 : gIx l f w + 1 + j < l.length := by simp at hj; omega
      have h3 : ahead l[gIx l f w] l[gIx l f w + 1 + j] := List.pairwise_iff_getElem.1 hs _ _ hk hj2 (by omega)
      have h4 := ahead_same h3 hg2
      have h5 := order_lt.2 h4
      have e2 : l.getD (gIx l f w) default = l[gIx l f w] := by simp [List.getD, hk]
      rw [e2] at h0
      omega
    have key : l.foldl (putStep f w r) ([], decide (r = 0)) = (l.take (gIx l f w) ++ (if r = 0 then [] else [⟨f, w, r⟩]) ++ l.drop (gIx l f w + 1), true) := by
      conv => lhs; rw [split_at hk]
      rw [List.foldl_append, fold_ahead _ _ hah, List.foldl_cons]
      have hst : putStep f w r ([] ++ l.take (gIx l f w), decide (r = 0)) (l.getD (gIx l f w) default) = (l.take (gIx l f w) ++ (if r = 0 then [] else [⟨f, w, r⟩]), true) := by
        have e1 : (l.getD (gIx l f w) default).folder = f := hsame.1
        have e2 : (l.getD (gIx l f w) default).who = w := hsame.2
        unfold putStep
        simp only [e1, e2]
        by_cases hr : r = 0
        · simp [hr]
        · simp [hr, List.lt_irrefl]
      rw [hst, fold_behind _ _ hb]
    rw [key, hh]
    simp
  · have hh' : hasG l f w = false := by simpa using hh
    rw [hh']
    have hb : ∀ g ∈ l.drop (gIx l f w), ahead ⟨f, w, 0⟩ g := fun g hg => by
      obtain ⟨j, hj, rfl⟩ := List.getElem_of_mem hg
      rw [List.getElem_drop]
      have hj2 : gIx l f w + j < l.length := by simp at hj; omega
      have h3 := gIx_ge hs (f := f) (w := w) (j := gIx l f w + j) (by omega) hj2
      have e2 : l.getD (gIx l f w + j) default = l[gIx l f w + j] := by simp [List.getD, hj2]
      rw [e2] at h3
      rcases ahead_tri l[gIx l f w + j] ⟨f, w, 0⟩ with h | h | h
      · have := order_lt.2 h; omega
      · exfalso
        have hk : gIx l f w < l.length := by omega
        have h4 := gIx_ge hs (Nat.le_refl _) hk (f := f) (w := w)
        have e3 : l.getD (gIx l f w) default = l[gIx l f w] := by simp [List.getD, hk]
        rcases Nat.eq_zero_or_pos j with rfl | hpos
        · have h0 := order_eq.2 h
          apply hh
          unfold hasG
          rw [decide_eq_true hk, e3]
          simpa using h0
        · have h5 : ahead l[gIx l f w] l[gIx l f w + j] := List.pairwise_iff_getElem.1 hs _ _ hk hj2 (by omega)
          have h6 := order_lt.2 (ahead_same h5 h)
          rw [e3] at h4
          omega
      · exact h
    have hns : ∀ g ∈ l.drop (gIx l f w), ¬ sameG g ⟨f, w, 0⟩ := fun g hg h => by
      have h2 := hb g hg
      have h3 : ahead ⟨f, w, 0⟩ ⟨f, w, 0⟩ := ahead_same h2 h
      exact ahead_irrefl _ h3
    have key : l.foldl (putStep f w r) ([], decide (r = 0)) = (l.drop (gIx l f w)).foldl (putStep f w r) (l.take (gIx l f w), decide (r = 0)) := by
      conv => lhs; rw [← List.take_append_drop (gIx l f w) l]
      rw [List.foldl_append, fold_ahead _ _ hah]
      simp
    rw [key]
    by_cases hr : r = 0
    · rw [decide_eq_true hr, fold_behind _ _ hns]
      simp [hr]
    · rw [decide_eq_false hr, if_neg hr]
      cases hd : l.drop (gIx l f w) with
      | nil => simp [hd]
      | cons g t =>
        rw [hd] at hb hns
        rw [List.foldl_cons]
        have hst : putStep f w r (l.take (gIx l f w), false) g = (l.take (gIx l f w) ++ [⟨f, w, r⟩] ++ [g], true) := by
          have ha := hb g (by simp)
          have hn := hns g (by simp)
          unfold putStep
          have h2 : f < g.folder ∨ g.folder = f ∧ ¬ g.who < w := by
            rcases ha with k | ⟨k1, k2⟩
            · exact .inl k
            · exact .inr ⟨k1.symm, fun h => List.lt_irrefl _ (List.lt_trans h k2)⟩
          have h3 : ¬ g.folder = f ∨ ¬ g.who = w := by
            by_cases e : g.folder = f
            · right; intro e2; exact hn ⟨e, e2⟩
            · exact .inl e
          simp only [h2, true_and, if_true, h3]
        rw [hst, fold_behind _ _ fun x hx => hns x (by simp [hx])]
        simp [hd]
theorem whoG_nil {l : List Grant} {f : Str} : (0 < ((whoG l f).length : Int)) ↔ (l.any fun g => decide (g.folder = f)) = true := by
  unfold whoG
  rw [List.length_map]
  constructor
  · intro h
    have h : 0 < (l.filter fun g => decide (g.folder = f)).length := by omega
    obtain ⟨x, hx⟩ := List.exists_mem_of_length_pos h
    have := List.mem_filter.1 hx
    exact List.any_eq_true.2 ⟨x, this.1, this.2⟩
  · intro h
    obtain ⟨x, h1, h2⟩ := List.any_eq_true.1 h
    have : 0 < (l.filter fun g => decide (g.folder = f)).length := List.length_pos_of_mem (List.mem_filter.2 ⟨h1, h2⟩)
    omega
theorem Grant.of_eq {a b : Grant} (h : a.folder = b.folder ∧ a.who = b.who ∧ a.right = b.right) : a = b := by
  cases a; cases b; simp only at h; obtain ⟨rfl, rfl, rfl⟩ := h; rfl
theorem ahead_of {a b : Grant} (h : blt b.folder a.folder = false ∧ (¬ b.folder = a.folder ∨ blt b.who a.who = false ∧ ¬ b.who = a.who)) : ahead a b := by
  have h1 : ¬ b.folder < a.folder := fun h' => by rw [blt_iff.2 h'] at h; exact absurd h.1 (by simp)
  unfold ahead
  rcases str_tri a.folder b.folder with k | k | k
  · exact .inl k
  · refine .inr ⟨k, ?_⟩
    rcases h.2 with h2 | ⟨h2, h3⟩
    · exact absurd k.symm h2
    · rcases str_tri a.who b.who with q | q | q
      · exact q
      · exact absurd q.symm h3
      · rw [blt_iff.2 q] at h2; cases h2
  · exact absurd k h1
theorem not_ahead_of {a b : Grant} (h : blt b.folder a.folder = true ∨ b.folder = a.folder ∧ (blt b.who a.who = true ∨ b.who = a.who)) : ¬ ahead a b := by
  rintro (k | ⟨k1, k2⟩)
  · rcases h with h | ⟨h, _⟩
    · exact List.lt_irrefl _ (List.lt_trans k (blt_iff.1 h))
    · rw [h] at k; exact List.lt_irrefl _ k
  · rcases h with h | ⟨_, h | h⟩
    · rw [k1] at h; exact List.lt_irrefl _ (blt_iff.1 h)
    · exact List.lt_irrefl _ (List.lt_trans k2 (blt_iff.1 h))
    · rw [h] at k2; exact List.lt_irrefl _ k2
theorem blt_swap {a b : Str} : blt b a = true ↔ (blt a b = false ∧ ¬ a = b) := by
  rw [blt_eq, blt_eq]
  simp only [decide_eq_true_eq, decide_eq_false_iff_not]
  constructor
  · intro h
    exact ⟨fun h' => List.lt_irrefl _ (List.lt_trans h h'), fun e => by subst e; exact List.lt_irrefl _ h⟩
  · rintro ⟨h1, h2⟩
    rcases str_tri a b with h | h | h
    · exact absurd h h1
    · exact absurd h h2
    · exact h
def step1 (f w : Str) (r : Int) (s : List Grant × Bool) (g : Grant) : List Grant × Bool := if s.2 = false ∧ (f < g.folder ∨ g.folder = f ∧ ¬ g.who < w) then (s.1 ++ [⟨f, w, r⟩], true) else s
theorem putStep_eq {f w : Str} {r : Int} {s : List Grant × Bool} {g : Grant} : putStep f w r s g = if ¬ g.folder = f ∨ ¬ g.who = w then ((step1 f w r s g).1 ++ [g], (step1 f w r s g).2) else step1 f w r s g := rfl
def putS (l : List Grant) (f w : Str) (r : Int) (i : Nat) : List Grant × Bool := (l.take i).foldl (putStep f w r) ([], decide (r = 0))
theorem putS_next {l : List Grant} {f w : Str} {r : Int} {i : Nat} (hi : i < l.length) : putS l f w r (i + 1) = putStep f w r (putS l f w r i) (l.getD i default) := foldl_take _ _ _ _ hi
theorem putS_len (l : List Grant) (f w : Str) (r : Int) (i : Nat) : (putS l f w r i).1.length ≤ 2 * i := by
  have := foldl_len (f := f) (w := w) (r := r) (l.take i) ([], decide (r = 0))
  simp only [List.length_nil, List.length_take] at this
  unfold putS
  omega
theorem step1_T {f w : Str} {r : Int} {s : List Grant × Bool} {g : Grant} (h : s.2 = false ∧ (blt f g.folder = true ∨ g.folder = f ∧ blt g.who w = false)) : step1 f w r s g = (s.1 ++ [⟨f, w, r⟩], true) := by
  unfold step1
  refine if_pos ⟨h.1, ?_⟩
  rcases h.2 with k | ⟨k1, k2⟩
  · exact .inl (blt_iff.1 k)
  · refine .inr ⟨k1, fun h' => ?_⟩
    rw [blt_iff.2 h'] at k2; cases k2
theorem step1_F {f w : Str} {r : Int} {s : List Grant × Bool} {g : Grant} (h : ¬ (s.2 = false ∧ (blt f g.folder = true ∨ g.folder = f ∧ blt g.who w = false))) : step1 f w r s g = s := by
  unfold step1
  refine if_neg fun h' => h ⟨h'.1, ?_⟩
  rcases h'.2 with k | ⟨k1, k2⟩
  · exact .inl (blt_iff.2 k)
  · refine .inr ⟨k1, ?_⟩
    cases hb : blt g.who w with
    | false => rfl
    | true => exact absurd (blt_iff.1 hb) k2
/-- the same grants -/
def sameL {α : Type} [DecidableEq α] (a b : List α) : Bool := decide (a = b)
theorem list_eq_of {α : Type} {a b : List α} {d : α} (hl : a.length = b.length) (h : ∀ i, i < a.length → a.getD i d = b.getD i d) : a = b := by
  apply List.ext_getElem hl
  intro i h1 h2
  have := h i h1
  simpa [List.getD, h1, h2] using this
end Tether
end
section
set_option linter.unusedVariables false
set_option linter.unusedSimpArgs false
open Go Go.VM Go.Proofs Tether
namespace Go.VM.Try
set_option maxRecDepth 100000
theorem swept1_c (s : Session) (now : Int) : Meets Try.prog 81 [.agg s.enc, .iptr [.int .i64 now] 0] (.bool (decide (s.till < now))) [] := by
  refine meets_x (fn := Try.f81) Try.func81 rfl fb81 (by kernel_rfl) (Nat.le_of_ble_eq_true rfl) ?_
  refine cx_sr ?_
  simp only [go_sem]
  repeat first | (with_reducible refine side_d ?_ ?_; exact byD) | (with_reducible refine side_q ?_ ?_; exact byQ)
  refine cx_sr ?_
  simp only [go_sem]
  repeat first | (with_reducible refine side_d ?_ ?_; exact byD) | (with_reducible refine side_q ?_ ?_; exact byQ)
  intro t7 e7
  repeat first | (with_reducible refine side_d ?_ ?_; exact byD) | (with_reducible refine side_q ?_ ?_; exact byQ)
  subst e7
  refine cx_ret ?_
  simp only [go_sem]
  exact finw_bool rfl
theorem swept_c (u : Uploads) (hu : u.ok) (now : Int) : Meets Try.prog 65 [u.enc, .int .i64 now] (swept u now).own (swept u now).blk := by
  refine meets_x (fn := Try.f65) Try.func65 rfl fb65 (by kernel_rfl) (Nat.le_of_ble_eq_true rfl) ?_
  refine cx_sr ?_
  simp only [go_sem]
  repeat first | (with_reducible refine side_d ?_ ?_; exact byD) | (with_reducible refine side_q ?_ ?_; exact byQ)
  refine cx_sr ?_
  simp only [go_sem]
  repeat first | (with_reducible refine side_d ?_ ?_; exact byD) | (with_reducible refine side_q ?_ ?_; exact byQ)
  refine cw_m (Clone_Session u.ss hu.1) byW byT ?_
  simp only [go_sem]
  repeat first | (with_reducible refine side_d ?_ ?_; exact byD) | (with_reducible refine side_q ?_ ?_; exact byQ)
  refine cw_does (DeleteFunc_Session 81 [.int .i64 now] rfl (fun s => decide (s.till < now)) (fun s => swept1_c s now) u.ss hu.len) [3, 1] rfl byC byC ?_
  simp only [go_sem]
  repeat first | (with_reducible refine side_d ?_ ?_; exact byD) | (with_reducible refine side_q ?_ ?_; exact byQ)
  refine cx_sr ?_
  simp only [go_sem]
  repeat first | (with_reducible refine side_d ?_ ?_; exact byD) | (with_reducible refine side_q ?_ ?_; exact byQ)
  refine cx_ret ?_
  simp only [go_sem]
  exact finx_of 1 [3] rfl byC byC byC byC
theorem begin_err (u : Uploads) (hu : u.ok) (now : Int) (h : beginErr u now ≠ 0) : Meets Try.prog 45 [u.enc, .int .i64 now] (.tup [noU, .int .i64 (beginErr u now)]) [] := by
  refine meets_x (fn := Try.f45) Try.func45 rfl fb45 (by kernel_rfl) (Nat.le_of_ble_eq_true rfl) ?_
  refine cx_sr ?_
  simp only [go_sem]
  repeat first | (with_reducible refine side_d ?_ ?_; exact byD) | (with_reducible refine side_q ?_ ?_; exact byQ)
  refine cx_seq ?_
  refine cx_sr ?_
  simp only [go_sem]
  repeat first | (with_reducible refine side_d ?_ ?_; exact byD) | (with_reducible refine side_q ?_ ?_; exact byQ)
  refine cw_m (Check_c u hu.len fun s hs => (hu.2 s hs).1) byW byT ?_
  simp only [go_sem]
  repeat first | (with_reducible refine side_d ?_ ?_; exact byD) | (with_reducible refine side_q ?_ ?_; exact byQ)
  refine cx_sr ?_
  simp only [go_sem]
  repeat first | (with_reducible refine side_d ?_ ?_; exact byD) | (with_reducible refine side_q ?_ ?_; exact byQ)
  intro t10 e10
  repeat first | (with_reducible refine side_d ?_ ?_; exact byD) | (with_reducible refine side_q ?_ ?_; exact byQ)
  subst e10
  refine cx_if _ rfl (fun h10 => ?_) (fun h10 => ?_)
  ·
    (try simp only [go_sem] at h10)
    refine cx_sr ?_
    simp only [go_sem]
    repeat first | (with_reducible refine side_d ?_ ?_; exact byD) | (with_reducible refine side_q ?_ ?_; exact byQ)
    refine cx_ret ?_
    simp only [go_sem]
    rw [beginErr, if_pos h10]
    exact finx_of 1 [] rfl byC byC byC byC
  ·
    (try simp only [go_sem] at h10)
    refine cx_skip ?_
    (try simp only [go_sem])
    refine cx_seq ?_
    refine cx_sr ?_
    simp only [go_sem]
    repeat first | (with_reducible refine side_d ?_ ?_; exact byD) | (with_reducible refine side_q ?_ ?_; exact byQ)
    refine cw_m (within_c _ _ _) byW byT ?_
    simp only [go_sem]
    repeat first | (with_reducible refine side_d ?_ ?_; exact byD) | (with_reducible refine side_q ?_ ?_; exact byQ)
    intro t15 e15
    repeat first | (with_reducible refine side_d ?_ ?_; exact byD) | (with_reducible refine side_q ?_ ?_; exact byQ)
    subst e15
    refine cx_if _ rfl (fun h15 => ?_) (fun h15 => ?_)
    ·
      (try simp only [go_sem] at h15)
      refine cx_sr ?_
      simp only [go_sem]
      repeat first | (with_reducible refine side_d ?_ ?_; exact byD) | (with_reducible refine side_q ?_ ?_; exact byQ)
      refine cx_ret ?_
      simp only [go_sem]
      rw [beginErr, if_neg (by simp [h10]), if_pos h15]
      exact finx_of 1 [] rfl byC byC byC byC
    ·
      (try simp only [go_sem] at h15)
      refine cx_skip ?_
      (try simp only [go_sem])
      refine cx_sr ?_
      simp only [go_sem]
      repeat first | (with_reducible refine side_d ?_ ?_; exact byD) | (with_reducible refine side_q ?_ ?_; exact byQ)
      refine cw_m (swept_c u hu now) byW byT ?_
      simp only [go_sem]
      repeat first | (with_reducible refine side_d ?_ ?_; exact byD) | (with_reducible refine side_q ?_ ?_; exact byQ)
      refine cx_ret ?_
      simp only [go_sem]
      exact absurd (by rw [beginErr, if_neg (by simp [h10]), if_neg (by simp [h15])]) h
theorem begin_ok (u : Uploads) (hu : u.ok) (now : Int) (h : beginErr u now = 0) : Meets Try.prog 45 [u.enc, .int .i64 now] (.tup [(swept u now).own, .int .i64 0]) (swept u now).blk := by
  refine meets_x (fn := Try.f45) Try.func45 rfl fb45 (by kernel_rfl) (Nat.le_of_ble_eq_true rfl) ?_
  refine cx_sr ?_
  simp only [go_sem]
  repeat first | (with_reducible refine side_d ?_ ?_; exact byD) | (with_reducible refine side_q ?_ ?_; exact byQ)
  refine cx_seq ?_
  refine cx_sr ?_
  simp only [go_sem]
  repeat first | (with_reducible refine side_d ?_ ?_; exact byD) | (with_reducible refine side_q ?_ ?_; exact byQ)
  refine cw_m (Check_c u hu.len fun s hs => (hu.2 s hs).1) byW byT ?_
  simp only [go_sem]
  repeat first | (with_reducible refine side_d ?_ ?_; exact byD) | (with_reducible refine side_q ?_ ?_; exact byQ)
  refine cx_sr ?_
  simp only [go_sem]
  repeat first | (with_reducible refine side_d ?_ ?_; exact byD) | (with_reducible refine side_q ?_ ?_; exact byQ)
  intro t10 e10
  repeat first | (with_reducible refine side_d ?_ ?_; exact byD) | (with_reducible refine side_q ?_ ?_; exact byQ)
  subst e10
  refine cx_if _ rfl (fun h10 => ?_) (fun h10 => ?_)
  ·
    (try simp only [go_sem] at h10)
    refine cx_sr ?_
    simp only [go_sem]
    repeat first | (with_reducible refine side_d ?_ ?_; exact byD) | (with_reducible refine side_q ?_ ?_; exact byQ)
    refine cx_ret ?_
    simp only [go_sem]
    exact absurd h (by rw [beginErr, if_pos h10]; exact h10)
  ·
    (try simp only [go_sem] at h10)
    refine cx_skip ?_
    (try simp only [go_sem])
    refine cx_seq ?_
    refine cx_sr ?_
    simp only [go_sem]
    repeat first | (with_reducible refine side_d ?_ ?_; exact byD) | (with_reducible refine side_q ?_ ?_; exact byQ)
    refine cw_m (within_c _ _ _) byW byT ?_
    simp only [go_sem]
    repeat first | (with_reducible refine side_d ?_ ?_; exact byD) | (with_reducible refine side_q ?_ ?_; exact byQ)
    intro t15 e15
    repeat first | (with_reducible refine side_d ?_ ?_; exact byD) | (with_reducible refine side_q ?_ ?_; exact byQ)
    subst e15
    refine cx_if _ rfl (fun h15 => ?_) (fun h15 => ?_)
    ·
      (try simp only [go_sem] at h15)
      refine cx_sr ?_
      simp only [go_sem]
      repeat first | (with_reducible refine side_d ?_ ?_; exact byD) | (with_reducible refine side_q ?_ ?_; exact byQ)
      refine cx_ret ?_
      simp only [go_sem]
      exact absurd h (by rw [beginErr, if_neg (by simp [h10]), if_pos h15]; simp)
    ·
      (try simp only [go_sem] at h15)
      refine cx_skip ?_
      (try simp only [go_sem])
      refine cx_sr ?_
      simp only [go_sem]
      repeat first | (with_reducible refine side_d ?_ ?_; exact byD) | (with_reducible refine side_q ?_ ?_; exact byQ)
      refine cw_m (swept_c u hu now) byW byT ?_
      simp only [go_sem]
      repeat first | (with_reducible refine side_d ?_ ?_; exact byD) | (with_reducible refine side_q ?_ ?_; exact byQ)
      refine cx_ret ?_
      simp only [go_sem]
      exact finx_of 1 [2] rfl byC byC byC byC
end Go.VM.Try
end
section
set_option linter.unusedVariables false
set_option linter.unusedSimpArgs false
open Go Go.VM Go.Proofs Tether
namespace Go.VM.Try
set_option maxRecDepth 100000
theorem mine1_c (s : Session) (number : Int) (who : Str) : Meets Try.prog 69 [.agg s.enc, .iptr [.int .i64 number] 0, .iptr [.str who] 0] (.bool (decide (s.num = number) && decide (s.who = who))) [] := by
  refine meets_x (fn := Try.f69) Try.func69 rfl fb69 (by kernel_rfl) (Nat.le_of_ble_eq_true rfl) ?_
  refine cx_sr ?_
  simp only [go_sem]
  repeat first | (with_reducible refine side_d ?_ ?_; exact byD) | (with_reducible refine side_q ?_ ?_; exact byQ)
  refine cx_sr ?_
  simp only [go_sem]
  repeat first | (with_reducible refine side_d ?_ ?_; exact byD) | (with_reducible refine side_q ?_ ?_; exact byQ)
  intro t8 e8
  repeat first | (with_reducible refine side_d ?_ ?_; exact byD) | (with_reducible refine side_q ?_ ?_; exact byQ)
  intro t13 e13
  repeat first | (with_reducible refine side_d ?_ ?_; exact byD) | (with_reducible refine side_q ?_ ?_; exact byQ)
  intro t14 e14
  rw [bsel_and] at e14
  repeat first | (with_reducible refine side_d ?_ ?_; exact byD) | (with_reducible refine side_q ?_ ?_; exact byQ)
  subst e8 e13 e14
  refine cx_ret ?_
  simp only [go_sem]
  exact finw_bool rfl
theorem idxMine_c (u : Uploads) (hu : u.ok) (who : Str) (number now : Int) : Meets Try.prog 68 [ssV (swept u now).ss, .fn 69 [] [.iptr [.int .i64 number] 0, .iptr [.str who] 0]] (.int .i64 (mineIx u who number now)) [] :=
  IndexFunc_Session 69 [.iptr [.int .i64 number] 0, .iptr [.str who] 0] rfl (fun s => decide (s.num = number) && decide (s.who = who)) (fun s => mine1_c s number who) (swept u now).ss (swept_len hu now)
theorem mine_err (u : Uploads) (hu : u.ok) (who : Str) (hw : who.length < 4611686018427387904) (number now : Int) (h : ¬ mineErr u who number now = 0) :
    Meets Try.prog 50 [u.enc, .str who, .int .i64 number, .int .i64 now] (.tup [noU, .int .i64 0, .int .i64 (mineErr u who number now)]) [] := by
  refine meets_x (fn := Try.f50) Try.func50 rfl fb50 (by kernel_rfl) (Nat.le_of_ble_eq_true rfl) ?_
  refine cx_sr ?_
  simp only [go_sem]
  repeat first | (with_reducible refine side_d ?_ ?_; exact byD) | (with_reducible refine side_q ?_ ?_; exact byQ)
  refine cx_sr ?_
  simp only [go_sem]
  repeat first | (with_reducible refine side_d ?_ ?_; exact byD) | (with_reducible refine side_q ?_ ?_; exact byQ)
  by_cases hs16 : beginErr u now = 0
  ·
    repeat first | (with_reducible refine side_d ?_ ?_; exact byD) | (with_reducible refine side_q ?_ ?_; exact byQ)
    refine cw_m (begin_ok u hu now hs16) byW byT ?_
    simp only [go_sem]
    repeat first | (with_reducible refine side_d ?_ ?_; exact byD) | (with_reducible refine side_q ?_ ?_; exact byQ)
    refine cx_seq ?_
    refine cx_sr ?_
    simp only [go_sem]
    repeat first | (with_reducible refine side_d ?_ ?_; exact byD) | (with_reducible refine side_q ?_ ?_; exact byQ)
    intro t20 e20
    repeat first | (with_reducible refine side_d ?_ ?_; exact byD) | (with_reducible refine side_q ?_ ?_; exact byQ)
    subst e20
    refine cx_if _ rfl (fun h20 => no_if h20) (fun h20 => ?_)
    refine cx_skip ?_
    (try simp only [go_sem])
    refine cx_seq ?_
    refine cx_sr ?_
    simp only [go_sem]
    repeat first | (with_reducible refine side_d ?_ ?_; exact byD) | (with_reducible refine side_q ?_ ?_; exact byQ)
    refine cw_m (IsName_c who hw) byW byT ?_
    simp only [go_sem]
    repeat first | (with_reducible refine side_d ?_ ?_; exact byD) | (with_reducible refine side_q ?_ ?_; exact byQ)
    intro t25 e25
    repeat first | (with_reducible refine side_d ?_ ?_; exact byD) | (with_reducible refine side_q ?_ ?_; exact byQ)
    subst e25
    refine cx_if _ rfl (fun h25 => ?_) (fun h25 => ?_)
    ·
      (try simp only [go_sem] at h25)
      refine cx_sr ?_
      simp only [go_sem]
      repeat first | (with_reducible refine side_d ?_ ?_; exact byD) | (with_reducible refine side_q ?_ ?_; exact byQ)
      refine cx_ret ?_
      simp only [go_sem]
      rw [mineErr, if_neg (by simp [hs16]), if_pos h25]
      exact finx_of 1 [] rfl byC byC byC byC
    ·
      (try simp only [go_sem] at h25)
      refine cx_skip ?_
      (try simp only [go_sem])
      refine cx_sr ?_
      simp only [go_sem]
      repeat first | (with_reducible refine side_d ?_ ?_; exact byD) | (with_reducible refine side_q ?_ ?_; exact byQ)
      refine cw_v 2 (idxMine_c u hu who number now) byV byC rfl ?_
      simp only [go_sem]
      repeat first | (with_reducible refine side_d ?_ ?_; exact byD) | (with_reducible refine side_q ?_ ?_; exact byQ)
      refine cx_seq ?_
      refine cx_sr ?_
      simp only [go_sem]
      repeat first | (with_reducible refine side_d ?_ ?_; exact byD) | (with_reducible refine side_q ?_ ?_; exact byQ)
      intro t32 e32
      repeat first | (with_reducible refine side_d ?_ ?_; exact byD) | (with_reducible refine side_q ?_ ?_; exact byQ)
      subst e32
      refine cx_if _ rfl (fun h32 => ?_) (fun h32 => ?_)
      ·
        (try simp only [go_sem] at h32)
        refine cx_sr ?_
        simp only [go_sem]
        repeat first | (with_reducible refine side_d ?_ ?_; exact byD) | (with_reducible refine side_q ?_ ?_; exact byQ)
        refine cx_ret ?_
        simp only [go_sem]
        rw [mineErr, if_neg (by simp [hs16]), if_neg (by simp [h25]), if_pos h32]
        exact finx_of 1 [] rfl byC byC byC byC
      ·
        (try simp only [go_sem] at h32)
        refine cx_skip ?_
        (try simp only [go_sem])
        refine cx_sr ?_
        simp only [go_sem]
        repeat first | (with_reducible refine side_d ?_ ?_; exact byD) | (with_reducible refine side_q ?_ ?_; exact byQ)
        refine cx_ret ?_
        simp only [go_sem]
        exact absurd (by rw [mineErr, if_neg (by simp [hs16]), if_neg (by simp [h25]), if_neg h32]) h
  ·
    repeat first | (with_reducible refine side_d ?_ ?_; exact byD) | (with_reducible refine side_q ?_ ?_; exact byQ)
    refine cw_m (begin_err u hu now hs16) byW byT ?_
    simp only [go_sem]
    repeat first | (with_reducible refine side_d ?_ ?_; exact byD) | (with_reducible refine side_q ?_ ?_; exact byQ)
    refine cx_seq ?_
    refine cx_sr ?_
    simp only [go_sem]
    repeat first | (with_reducible refine side_d ?_ ?_; exact byD) | (with_reducible refine side_q ?_ ?_; exact byQ)
    intro t20 e20
    repeat first | (with_reducible refine side_d ?_ ?_; exact byD) | (with_reducible refine side_q ?_ ?_; exact byQ)
    subst e20
    refine cx_if _ rfl (fun h20 => ?_) (fun h20 => no_if h20)
    refine cx_sr ?_
    simp only [go_sem]
    repeat first | (with_reducible refine side_d ?_ ?_; exact byD) | (with_reducible refine side_q ?_ ?_; exact byQ)
    refine cx_ret ?_
    simp only [go_sem]
    rw [mineErr, if_pos hs16]
    exact finx_of 1 [] rfl byC byC byC byC
theorem mine_ok (u : Uploads) (hu : u.ok) (who : Str) (hw : who.length < 4611686018427387904) (number now : Int) (h : mineErr u who number now = 0) :
    Meets Try.prog 50 [u.enc, .str who, .int .i64 number, .int .i64 now] (.tup [(swept u now).own, .int .i64 (mineIx u who number now), .int .i64 0]) (swept u now).blk := by
  refine meets_x (fn := Try.f50) Try.func50 rfl fb50 (by kernel_rfl) (Nat.le_of_ble_eq_true rfl) ?_
  refine cx_sr ?_
  simp only [go_sem]
  repeat first | (with_reducible refine side_d ?_ ?_; exact byD) | (with_reducible refine side_q ?_ ?_; exact byQ)
  refine cx_sr ?_
  simp only [go_sem]
  repeat first | (with_reducible refine side_d ?_ ?_; exact byD) | (with_reducible refine side_q ?_ ?_; exact byQ)
  by_cases hs16 : beginErr u now = 0
  ·
    repeat first | (with_reducible refine side_d ?_ ?_; exact byD) | (with_reducible refine side_q ?_ ?_; exact byQ)
    refine cw_m (begin_ok u hu now hs16) byW byT ?_
    simp only [go_sem]
    repeat first | (with_reducible refine side_d ?_ ?_; exact byD) | (with_reducible refine side_q ?_ ?_; exact byQ)
    refine cx_seq ?_
    refine cx_sr ?_
    simp only [go_sem]
    repeat first | (with_reducible refine side_d ?_ ?_; exact byD) | (with_reducible refine side_q ?_ ?_; exact byQ)
    intro t20 e20
    repeat first | (with_reducible refine side_d ?_ ?_; exact byD) | (with_reducible refine side_q ?_ ?_; exact byQ)
    subst e20
    refine cx_if _ rfl (fun h20 => no_if h20) (fun h20 => ?_)
    refine cx_skip ?_
    (try simp only [go_sem])
    refine cx_seq ?_
    refine cx_sr ?_
    simp only [go_sem]
    repeat first | (with_reducible refine side_d ?_ ?_; exact byD) | (with_reducible refine side_q ?_ ?_; exact byQ)
    refine cw_m (IsName_c who hw) byW byT ?_
    simp only [go_sem]
    repeat first | (with_reducible refine side_d ?_ ?_; exact byD) | (with_reducible refine side_q ?_ ?_; exact byQ)
    intro t25 e25
    repeat first | (with_reducible refine side_d ?_ ?_; exact byD) | (with_reducible refine side_q ?_ ?_; exact byQ)
    subst e25
    refine cx_if _ rfl (fun h25 => ?_) (fun h25 => ?_)
    ·
      (try simp only [go_sem] at h25)
      refine cx_sr ?_
      simp only [go_sem]
      repeat first | (with_reducible refine side_d ?_ ?_; exact byD) | (with_reducible refine side_q ?_ ?_; exact byQ)
      refine cx_ret ?_
      simp only [go_sem]
      exact absurd h (by rw [mineErr, if_neg (by simp [hs16]), if_pos h25]; simp)
    ·
      (try simp only [go_sem] at h25)
      refine cx_skip ?_
      (try simp only [go_sem])
      refine cx_sr ?_
      simp only [go_sem]
      repeat first | (with_reducible refine side_d ?_ ?_; exact byD) | (with_reducible refine side_q ?_ ?_; exact byQ)
      refine cw_v 2 (idxMine_c u hu who number now) byV byC rfl ?_
      simp only [go_sem]
      repeat first | (with_reducible refine side_d ?_ ?_; exact byD) | (with_reducible refine side_q ?_ ?_; exact byQ)
      refine cx_seq ?_
      refine cx_sr ?_
      simp only [go_sem]
      repeat first | (with_reducible refine side_d ?_ ?_; exact byD) | (with_reducible refine side_q ?_ ?_; exact byQ)
      intro t32 e32
      repeat first | (with_reducible refine side_d ?_ ?_; exact byD) | (with_reducible refine side_q ?_ ?_; exact byQ)
      subst e32
      refine cx_if _ rfl (fun h32 => ?_) (fun h32 => ?_)
      ·
        (try simp only [go_sem] at h32)
        refine cx_sr ?_
        simp only [go_sem]
        repeat first | (with_reducible refine side_d ?_ ?_; exact byD) | (with_reducible refine side_q ?_ ?_; exact byQ)
        refine cx_ret ?_
        simp only [go_sem]
        exact absurd h (by rw [mineErr, if_neg (by simp [hs16]), if_neg (by simp [h25]), if_pos h32]; simp)
      ·
        (try simp only [go_sem] at h32)
        refine cx_skip ?_
        (try simp only [go_sem])
        refine cx_sr ?_
        simp only [go_sem]
        repeat first | (with_reducible refine side_d ?_ ?_; exact byD) | (with_reducible refine side_q ?_ ?_; exact byQ)
        refine cx_ret ?_
        simp only [go_sem]
        exact finx_of 1 [4] rfl byC byC byC byC
  ·
    repeat first | (with_reducible refine side_d ?_ ?_; exact byD) | (with_reducible refine side_q ?_ ?_; exact byQ)
    refine cw_m (begin_err u hu now hs16) byW byT ?_
    simp only [go_sem]
    repeat first | (with_reducible refine side_d ?_ ?_; exact byD) | (with_reducible refine side_q ?_ ?_; exact byQ)
    refine cx_seq ?_
    refine cx_sr ?_
    simp only [go_sem]
    repeat first | (with_reducible refine side_d ?_ ?_; exact byD) | (with_reducible refine side_q ?_ ?_; exact byQ)
    intro t20 e20
    repeat first | (with_reducible refine side_d ?_ ?_; exact byD) | (with_reducible refine side_q ?_ ?_; exact byQ)
    subst e20
    refine cx_if _ rfl (fun h20 => ?_) (fun h20 => no_if h20)
    refine cx_sr ?_
    simp only [go_sem]
    repeat first | (with_reducible refine side_d ?_ ?_; exact byD) | (with_reducible refine side_q ?_ ?_; exact byQ)
    refine cx_ret ?_
    simp only [go_sem]
    exact absurd h (by rw [mineErr, if_pos hs16]; exact hs16)
end Go.VM.Try
end
section
set_option linter.unusedVariables false
set_option linter.unusedSimpArgs false
open Go Go.VM Go.Proofs Tether
namespace Go.VM.Try
set_option maxRecDepth 100000
theorem Open_c (u : Uploads) (hu : u.ok) (who : Str) (hw : who.length < 4611686018427387904) (size now : Int) :
    Meets Try.prog 14 [u.enc, .str who, .int .i64 size, .int .i64 now] (.tup [(openU u who size now).1.enc, .int .i64 (openU u who size now).2.1, .int .i64 (openU u who size now).2.2]) [] := by
  refine meets_x (fn := Try.f14) Try.func14 rfl fb14 (by kernel_rfl) (Nat.le_of_ble_eq_true rfl) ?_
  refine cx_sr ?_
  simp only [go_sem]
  repeat first | (with_reducible refine side_d ?_ ?_; exact byD) | (with_reducible refine side_q ?_ ?_; exact byQ)
  refine cx_sr ?_
  simp only [go_sem]
  repeat first | (with_reducible refine side_d ?_ ?_; exact byD) | (with_reducible refine side_q ?_ ?_; exact byQ)
  by_cases hs16 : beginErr u now = 0
  ·
    repeat first | (with_reducible refine side_d ?_ ?_; exact byD) | (with_reducible refine side_q ?_ ?_; exact byQ)
    obtain ⟨hc, hn1, hn2⟩ := begin_facts hs16
    obtain ⟨⟨hl1, hl2⟩, -, ⟨hx1, hx2⟩, h20, hse⟩ := checkU_ok hc
    have hsl : (swept u now).ss.length ≤ 20 := Nat.le_trans (List.length_filter_le _ _) h20
    refine cw_m (begin_ok u hu now hs16) byW byT ?_
    simp only [go_sem]
    repeat first | (with_reducible refine side_d ?_ ?_; exact byD) | (with_reducible refine side_q ?_ ?_; exact byQ)
    refine cx_seq (cx_block ?_)
    refine cx_sr ?_
    simp only [go_sem]
    repeat first | (with_reducible refine side_d ?_ ?_; exact byD) | (with_reducible refine side_q ?_ ?_; exact byQ)
    intro t21 e21
    repeat first | (with_reducible refine side_d ?_ ?_; exact byD) | (with_reducible refine side_q ?_ ?_; exact byQ)
    subst e21
    refine cx_if _ rfl (fun h19 => no_if h19) (fun h19 => ?_)
    refine cx_sr ?_
    simp only [go_sem]
    repeat first | (with_reducible refine side_d ?_ ?_; exact byD) | (with_reducible refine side_q ?_ ?_; exact byQ)
    refine cw_m (IsName_c who hw) byW byT ?_
    simp only [go_sem]
    repeat first | (with_reducible refine side_d ?_ ?_; exact byD) | (with_reducible refine side_q ?_ ?_; exact byQ)
    intro t25 e25
    repeat first | (with_reducible refine side_d ?_ ?_; exact byD) | (with_reducible refine side_q ?_ ?_; exact byQ)
    subst e25
    refine cx_if _ rfl (fun h22 => ?_) (fun h22 => ?_)
    ·
      (try simp only [go_sem] at h22)
      refine cx_region ?_
      simp only [go_sem]
      repeat first | (with_reducible refine side_d ?_ ?_; exact byD) | (with_reducible refine side_q ?_ ?_; exact byQ)
      refine cx_seq ?_
      refine cx_sr ?_
      simp only [go_sem]
      repeat first | (with_reducible refine side_d ?_ ?_; exact byD) | (with_reducible refine side_q ?_ ?_; exact byQ)
      intro t51 e51
      repeat first | (with_reducible refine side_d ?_ ?_; exact byD) | (with_reducible refine side_q ?_ ?_; exact byQ)
      subst e51
      refine cx_if _ rfl (fun h51 => ?_) (fun h51 => no_if h51)
      refine cx_sr ?_
      simp only [go_sem]
      repeat first | (with_reducible refine side_d ?_ ?_; exact byD) | (with_reducible refine side_q ?_ ?_; exact byQ)
      refine cx_ret ?_
      simp only [go_sem]
      have he : openErr u who size now = 1 := by rw [openErr, if_neg (by simp [hs16]), if_pos h22]
      rw [openU, if_neg (by rw [he]; simp), he]
      exact finx_of 1 [] rfl byC byC byC byC
    ·
      (try simp only [go_sem] at h22)
      refine cx_sr ?_
      simp only [go_sem]
      repeat first | (with_reducible refine side_d ?_ ?_; exact byD) | (with_reducible refine side_q ?_ ?_; exact byQ)
      refine cw_m (within_c _ _ _) byW byT ?_
      simp only [go_sem]
      repeat first | (with_reducible refine side_d ?_ ?_; exact byD) | (with_reducible refine side_q ?_ ?_; exact byQ)
      intro t29 e29
      repeat first | (with_reducible refine side_d ?_ ?_; exact byD) | (with_reducible refine side_q ?_ ?_; exact byQ)
      intro t33 e33
      repeat first | (with_reducible refine side_d ?_ ?_; exact byD) | (with_reducible refine side_q ?_ ?_; exact byQ)
      intro t34 e34
      rw [bsel_or] at e34
      repeat first | (with_reducible refine side_d ?_ ?_; exact byD) | (with_reducible refine side_q ?_ ?_; exact byQ)
      subst e29 e33 e34
      refine cx_if _ rfl (fun h26 => ?_) (fun h26 => ?_)
      ·
        (try simp only [go_sem] at h26)
        refine cx_region ?_
        simp only [go_sem]
        repeat first | (with_reducible refine side_d ?_ ?_; exact byD) | (with_reducible refine side_q ?_ ?_; exact byQ)
        refine cx_seq ?_
        refine cx_sr ?_
        simp only [go_sem]
        repeat first | (with_reducible refine side_d ?_ ?_; exact byD) | (with_reducible refine side_q ?_ ?_; exact byQ)
        intro t51 e51
        repeat first | (with_reducible refine side_d ?_ ?_; exact byD) | (with_reducible refine side_q ?_ ?_; exact byQ)
        subst e51
        refine cx_if _ rfl (fun h51 => ?_) (fun h51 => no_if h51)
        refine cx_sr ?_
        simp only [go_sem]
        repeat first | (with_reducible refine side_d ?_ ?_; exact byD) | (with_reducible refine side_q ?_ ?_; exact byQ)
        refine cx_ret ?_
        simp only [go_sem]
        have he : openErr u who size now = 3 := by rw [openErr, if_neg (by simp [hs16]), if_neg (by simp [h22]), if_pos h26]
        rw [openU, if_neg (by rw [he]; simp), he]
        exact finx_of 1 [] rfl byC byC byC byC
      ·
        (try simp only [go_sem] at h26)
        refine cx_sr ?_
        simp only [go_sem]
        repeat first | (with_reducible refine side_d ?_ ?_; exact byD) | (with_reducible refine side_q ?_ ?_; exact byQ)
        intro t39 e39
        repeat first | (with_reducible refine side_d ?_ ?_; exact byD) | (with_reducible refine side_q ?_ ?_; exact byQ)
        subst e39
        refine cx_if _ rfl (fun h35 => ?_) (fun h35 => ?_)
        ·
          (try simp only [go_sem] at h35)
          refine cx_region ?_
          simp only [go_sem]
          repeat first | (with_reducible refine side_d ?_ ?_; exact byD) | (with_reducible refine side_q ?_ ?_; exact byQ)
          refine cx_seq ?_
          refine cx_sr ?_
          simp only [go_sem]
          repeat first | (with_reducible refine side_d ?_ ?_; exact byD) | (with_reducible refine side_q ?_ ?_; exact byQ)
          intro t51 e51
          repeat first | (with_reducible refine side_d ?_ ?_; exact byD) | (with_reducible refine side_q ?_ ?_; exact byQ)
          subst e51
          refine cx_if _ rfl (fun h51 => ?_) (fun h51 => no_if h51)
          refine cx_sr ?_
          simp only [go_sem]
          repeat first | (with_reducible refine side_d ?_ ?_; exact byD) | (with_reducible refine side_q ?_ ?_; exact byQ)
          refine cx_ret ?_
          simp only [go_sem]
          have he : openErr u who size now = 2 := by rw [openErr, if_neg (by simp [hs16]), if_neg (by simp [h22]), if_neg (by simpa using h26), if_pos h35]
          rw [openU, if_neg (by rw [he]; simp), he]
          exact finx_of 1 [] rfl byC byC byC byC
        ·
          (try simp only [go_sem] at h35)
          refine cx_seq (cx_draw mixed [] (.first 0 (.first 1 (.first 2 (.first 4 (.first 6 (.first 7 (.one 3 (.first 5 (.first 8 (.first 9 (.done))))))))))) (by kernel_rfl) ?_)
          simp only [go_sem]
          repeat first | (with_reducible refine side_d ?_ ?_; exact byD) | (with_reducible refine side_q ?_ ?_; exact byQ)
          refine cwE_v 2 (open_c (swept u now).ss who (swept_len hu now)) byV byC rfl ?_
          simp only [go_sem]
          repeat first | (with_reducible refine side_d ?_ ?_; exact byD) | (with_reducible refine side_q ?_ ?_; exact byQ)
          intro t46 e46
          (try replace e46 := w64 e46 (by omega) (by omega))
          repeat first | (with_reducible refine side_d ?_ ?_; exact byD) | (with_reducible refine side_q ?_ ?_; exact byQ)
          intro t49 e49
          repeat first | (with_reducible refine side_d ?_ ?_; exact byD) | (with_reducible refine side_q ?_ ?_; exact byQ)
          subst e49
          refine cx_if _ rfl (fun h40 => ?_) (fun h40 => ?_)
          ·
            (try simp only [go_sem] at h40)
            refine cx_region ?_
            simp only [go_sem]
            repeat first | (with_reducible refine side_d ?_ ?_; exact byD) | (with_reducible refine side_q ?_ ?_; exact byQ)
            refine cx_seq ?_
            refine cx_sr ?_
            simp only [go_sem]
            repeat first | (with_reducible refine side_d ?_ ?_; exact byD) | (with_reducible refine side_q ?_ ?_; exact byQ)
            intro t51 e51
            repeat first | (with_reducible refine side_d ?_ ?_; exact byD) | (with_reducible refine side_q ?_ ?_; exact byQ)
            subst e51
            refine cx_if _ rfl (fun h51 => ?_) (fun h51 => no_if h51)
            refine cx_sr ?_
            simp only [go_sem]
            repeat first | (with_reducible refine side_d ?_ ?_; exact byD) | (with_reducible refine side_q ?_ ?_; exact byQ)
            refine cx_ret ?_
            simp only [go_sem]
            subst e46
            have he : openErr u who size now = 10 := by rw [openErr, if_neg (by simp [hs16]), if_neg (by simp [h22]), if_neg (by simpa using h26), if_neg h35, if_pos h40]
            rw [openU, if_neg (by rw [he]; simp), he]
            exact finx_of 1 [] rfl byC byC byC byC
          ·
            (try simp only [go_sem] at h40)
            refine cx_skip ?_
            (try simp only [go_sem])
            refine cx_seq ?_
            refine cx_sr ?_
            simp only [go_sem]
            repeat first | (with_reducible refine side_d ?_ ?_; exact byD) | (with_reducible refine side_q ?_ ?_; exact byQ)
            intro t51 e51
            repeat first | (with_reducible refine side_d ?_ ?_; exact byD) | (with_reducible refine side_q ?_ ?_; exact byQ)
            subst e51
            refine cx_if _ rfl (fun h51 => no_if h51) (fun h51 => ?_)
            refine cx_skip ?_
            (try simp only [go_sem])
            refine cx_sr ?_
            simp only [go_sem]
            repeat first | (with_reducible refine side_d ?_ ?_; exact byD) | (with_reducible refine side_q ?_ ?_; exact byQ)
            refine cx_sr ?_
            simp only [go_sem]
            repeat first | (with_reducible refine side_d ?_ ?_; exact byD) | (with_reducible refine side_q ?_ ?_; exact byQ)
            intro t58 e58
            (try replace e58 := w64 e58 (by omega) (by omega))
            repeat first | (with_reducible refine side_d ?_ ?_; exact byD) | (with_reducible refine side_q ?_ ?_; exact byQ)
            refine cx_sr ?_
            simp only [go_sem]
            repeat first | (with_reducible refine side_d ?_ ?_; exact byD) | (with_reducible refine side_q ?_ ?_; exact byQ)
            intro t68 e68
            (try replace e68 := w64 e68 (by omega) (by omega))
            repeat first | (with_reducible refine side_d ?_ ?_; exact byD) | (with_reducible refine side_q ?_ ?_; exact byQ)
            refine cx_sr ?_
            simp only [go_sem]
            repeat first | (with_reducible refine side_d ?_ ?_; exact byD) | (with_reducible refine side_q ?_ ?_; exact byQ)
            refine cx_ret ?_
            simp only [go_sem]
            have he : openErr u who size now = 0 := by rw [openErr, if_neg (by simp [hs16]), if_neg (by simp [h22]), if_neg (by simpa using h26), if_neg h35, if_neg (by simpa [e46] using h40)]
            rw [openU, if_pos he]
            refine finx_w (.tup [.agg [.own none 4 5 0 ((swept u now).ss ++ [Session.mk u.next who [] size (now + u.lasts)]).length .loose, .int .i64 (u.next + 1), .int .i64 u.lasts, .int .i64 u.room], .int .i64 u.next, .int .i64 0]) [.dead, .dead, .dead, .dead, .arr 5 ((swept u now).ss ++ [Session.mk u.next who [] size (now + u.lasts)]).length (En Session.enc default ((swept u now).ss ++ [Session.mk u.next who [] size (now + u.lasts)]))] ?_ ?_ ?_
            · exact byC
            · simp only [go_sem, wkB, wkH, List.length_append, List.length_cons, List.length_nil]
              exact fun i hi => wks_En_snoc (by rw [e68]; exact wks_refl _) hi
            · exact finx_of 1 [] rfl byC byC byC byC
  ·
    repeat first | (with_reducible refine side_d ?_ ?_; exact byD) | (with_reducible refine side_q ?_ ?_; exact byQ)
    refine cw_m (begin_err u hu now hs16) byW byT ?_
    simp only [go_sem]
    repeat first | (with_reducible refine side_d ?_ ?_; exact byD) | (with_reducible refine side_q ?_ ?_; exact byQ)
    refine cx_seq (cx_block ?_)
    refine cx_sr ?_
    simp only [go_sem]
    repeat first | (with_reducible refine side_d ?_ ?_; exact byD) | (with_reducible refine side_q ?_ ?_; exact byQ)
    intro t21 e21
    repeat first | (with_reducible refine side_d ?_ ?_; exact byD) | (with_reducible refine side_q ?_ ?_; exact byQ)
    subst e21
    refine cx_if _ rfl (fun h19 => ?_) (fun h19 => no_if h19)
    refine cx_skip ?_
    (try simp only [go_sem])
    refine cx_seq ?_
    refine cx_sr ?_
    simp only [go_sem]
    repeat first | (with_reducible refine side_d ?_ ?_; exact byD) | (with_reducible refine side_q ?_ ?_; exact byQ)
    intro t51 e51
    repeat first | (with_reducible refine side_d ?_ ?_; exact byD) | (with_reducible refine side_q ?_ ?_; exact byQ)
    subst e51
    refine cx_if _ rfl (fun h51 => ?_) (fun h51 => no_if h51)
    refine cx_sr ?_
    simp only [go_sem]
    repeat first | (with_reducible refine side_d ?_ ?_; exact byD) | (with_reducible refine side_q ?_ ?_; exact byQ)
    refine cx_ret ?_
    simp only [go_sem]
    have he : openErr u who size now = beginErr u now := by rw [openErr, if_pos hs16]
    rw [openU, if_neg (by rw [he]; exact hs16), he]
    exact finx_of 1 [] rfl byC byC byC byC
end Go.VM.Try
end
section
set_option linter.unusedVariables false
set_option linter.unusedSimpArgs false
open Go Go.VM Go.Proofs Tether
namespace Go.VM.Try
set_option maxRecDepth 100000
theorem Sweep_err (u : Uploads) (hu : u.ok) (now : Int) (h : ¬ beginErr u now = 0) : Meets Try.prog 20 [u.enc, .int .i64 now] (.tup [zeroU.enc, .int .i64 (beginErr u now)]) [] := by
  refine meets_x (fn := Try.f20) Try.func20 rfl fb20 (by kernel_rfl) (Nat.le_of_ble_eq_true rfl) ?_
  refine cx_sr ?_
  simp only [go_sem]
  repeat first | (with_reducible refine side_d ?_ ?_; exact byD) | (with_reducible refine side_q ?_ ?_; exact byQ)
  refine cx_sr ?_
  simp only [go_sem]
  repeat first | (with_reducible refine side_d ?_ ?_; exact byD) | (with_reducible refine side_q ?_ ?_; exact byQ)
  refine cw_m (begin_err u hu now h) byW byT ?_
  simp only [go_sem]
  repeat first | (with_reducible refine side_d ?_ ?_; exact byD) | (with_reducible refine side_q ?_ ?_; exact byQ)
  refine cx_ret ?_
  simp only [go_sem]
  exact finx_of 1 [] rfl byC byC byC byC
theorem Sweep_ok (u : Uploads) (hu : u.ok) (now : Int) (h : beginErr u now = 0) : Meets Try.prog 20 [u.enc, .int .i64 now] (.tup [(swept u now).enc, .int .i64 0]) [] := by
  refine meets_x (fn := Try.f20) Try.func20 rfl fb20 (by kernel_rfl) (Nat.le_of_ble_eq_true rfl) ?_
  refine cx_sr ?_
  simp only [go_sem]
  repeat first | (with_reducible refine side_d ?_ ?_; exact byD) | (with_reducible refine side_q ?_ ?_; exact byQ)
  refine cx_sr ?_
  simp only [go_sem]
  repeat first | (with_reducible refine side_d ?_ ?_; exact byD) | (with_reducible refine side_q ?_ ?_; exact byQ)
  refine cw_m (begin_ok u hu now h) byW byT ?_
  simp only [go_sem]
  repeat first | (with_reducible refine side_d ?_ ?_; exact byD) | (with_reducible refine side_q ?_ ?_; exact byQ)
  refine cx_ret ?_
  simp only [go_sem]
  exact finx_of 1 [] rfl byC byC byC byC
theorem Query_c (u : Uploads) (hu : u.ok) (who : Str) (hw : who.length < 4611686018427387904) (number now : Int) :
    Meets Try.prog 25 [u.enc, .str who, .int .i64 number, .int .i64 now] (.tup [.int .i64 (queryU u who number now).1, .int .i64 (queryU u who number now).2]) [] := by
  refine meets_x (fn := Try.f25) Try.func25 rfl fb25 (by kernel_rfl) (Nat.le_of_ble_eq_true rfl) ?_
  refine cx_sr ?_
  simp only [go_sem]
  repeat first | (with_reducible refine side_d ?_ ?_; exact byD) | (with_reducible refine side_q ?_ ?_; exact byQ)
  refine cx_sr ?_
  simp only [go_sem]
  repeat first | (with_reducible refine side_d ?_ ?_; exact byD) | (with_reducible refine side_q ?_ ?_; exact byQ)
  by_cases hs17 : mineErr u who number now = 0
  ·
    repeat first | (with_reducible refine side_d ?_ ?_; exact byD) | (with_reducible refine side_q ?_ ?_; exact byQ)
    obtain ⟨hi1, hi2⟩ := mineIx_of hs17
    refine cw_m (mine_ok u hu who hw number now hs17) byW byT ?_
    simp only [go_sem]
    repeat first | (with_reducible refine side_d ?_ ?_; exact byD) | (with_reducible refine side_q ?_ ?_; exact byQ)
    refine cx_seq ?_
    refine cx_sr ?_
    simp only [go_sem]
    repeat first | (with_reducible refine side_d ?_ ?_; exact byD) | (with_reducible refine side_q ?_ ?_; exact byQ)
    intro t22 e22
    repeat first | (with_reducible refine side_d ?_ ?_; exact byD) | (with_reducible refine side_q ?_ ?_; exact byQ)
    subst e22
    refine cx_if _ rfl (fun h22 => no_if h22) (fun h22 => ?_)
    refine cx_skip ?_
    (try simp only [go_sem])
    refine cx_sr ?_
    simp only [go_sem]
    repeat first | (with_reducible refine side_d ?_ ?_; exact byD) | (with_reducible refine side_q ?_ ?_; exact byQ)
    refine cx_ret ?_
    simp only [go_sem]
    rw [queryU, if_pos hs17]
    exact finx_of 1 [] rfl byC byC byC byC
  ·
    repeat first | (with_reducible refine side_d ?_ ?_; exact byD) | (with_reducible refine side_q ?_ ?_; exact byQ)
    refine cw_m (mine_err u hu who hw number now hs17) byW byT ?_
    simp only [go_sem]
    repeat first | (with_reducible refine side_d ?_ ?_; exact byD) | (with_reducible refine side_q ?_ ?_; exact byQ)
    refine cx_seq ?_
    refine cx_sr ?_
    simp only [go_sem]
    repeat first | (with_reducible refine side_d ?_ ?_; exact byD) | (with_reducible refine side_q ?_ ?_; exact byQ)
    intro t22 e22
    repeat first | (with_reducible refine side_d ?_ ?_; exact byD) | (with_reducible refine side_q ?_ ?_; exact byQ)
    subst e22
    refine cx_if _ rfl (fun h22 => ?_) (fun h22 => no_if h22)
    refine cx_sr ?_
    simp only [go_sem]
    repeat first | (with_reducible refine side_d ?_ ?_; exact byD) | (with_reducible refine side_q ?_ ?_; exact byQ)
    refine cx_ret ?_
    simp only [go_sem]
    rw [queryU, if_neg hs17]
    exact finx_of 1 [] rfl byC byC byC byC
theorem Append_c (u : Uploads) (hu : u.ok) (who : Str) (hw : who.length < 4611686018427387904) (number offset : Int) (text : Str) (ht : text.length < 4611686018427387904) (now : Int) :
    Meets Try.prog 18 [u.enc, .str who, .int .i64 number, .int .i64 offset, .str text, .int .i64 now] (.tup [(appendU u who number offset text now).1.enc, .int .i64 (appendU u who number offset text now).2.1, .int .i64 (appendU u who number offset text now).2.2]) [] := by
  refine meets_x (fn := Try.f18) Try.func18 rfl fb18 (by kernel_rfl) (Nat.le_of_ble_eq_true rfl) ?_
  refine cx_sr ?_
  simp only [go_sem]
  repeat first | (with_reducible refine side_d ?_ ?_; exact byD) | (with_reducible refine side_q ?_ ?_; exact byQ)
  refine cx_sr ?_
  simp only [go_sem]
  repeat first | (with_reducible refine side_d ?_ ?_; exact byD) | (with_reducible refine side_q ?_ ?_; exact byQ)
  by_cases hs24 : mineErr u who number now = 0
  ·
    repeat first | (with_reducible refine side_d ?_ ?_; exact byD) | (with_reducible refine side_q ?_ ?_; exact byQ)
    obtain ⟨hi1, hi2⟩ := mineIx_of hs24
    obtain ⟨hb, hn, -⟩ := mineErr_facts hs24
    obtain ⟨hc, hn1, hn2⟩ := begin_facts hb
    obtain ⟨⟨hl1, hl2⟩, -, -, h20, hse⟩ := checkU_ok hc
    have htx := (hu.2 _ (mine_mem hs24)).2
    refine cw_m (mine_ok u hu who hw number now hs24) byW byT ?_
    simp only [go_sem]
    repeat first | (with_reducible refine side_d ?_ ?_; exact byD) | (with_reducible refine side_q ?_ ?_; exact byQ)
    refine cx_seq ?_
    refine cx_sr ?_
    simp only [go_sem]
    repeat first | (with_reducible refine side_d ?_ ?_; exact byD) | (with_reducible refine side_q ?_ ?_; exact byQ)
    intro t29 e29
    repeat first | (with_reducible refine side_d ?_ ?_; exact byD) | (with_reducible refine side_q ?_ ?_; exact byQ)
    subst e29
    refine cx_if _ rfl (fun h29 => no_if h29) (fun h29 => ?_)
    refine cx_skip ?_
    (try simp only [go_sem])
    refine cx_sr ?_
    simp only [go_sem]
    repeat first | (with_reducible refine side_d ?_ ?_; exact byD) | (with_reducible refine side_q ?_ ?_; exact byQ)
    refine cx_sr ?_
    simp only [go_sem]
    repeat first | (with_reducible refine side_d ?_ ?_; exact byD) | (with_reducible refine side_q ?_ ?_; exact byQ)
    refine cw_m (within_c _ _ _) byW byT ?_
    simp only [go_sem]
    repeat ((with_reducible first | refine side_d ?_ ?_ | refine side_q ?_ ?_); focus (first | exact byD | exact byQ | (refine Sd.of fun hp => ?_; simp only [pc, and_true] at hp; exact within_iff.1 hp)))
    intro t51 e51
    repeat first | (with_reducible refine side_d ?_ ?_; exact byD) | (with_reducible refine side_q ?_ ?_; exact byQ)
    intro t52 e52
    rw [bsel_and] at e52
    repeat first | (with_reducible refine side_d ?_ ?_; exact byD) | (with_reducible refine side_q ?_ ?_; exact byQ)
    subst e51 e52
    refine cx_seq (cx_block ?_)
    refine cx_sr ?_
    simp only [go_sem]
    repeat first | (with_reducible refine side_d ?_ ?_; exact byD) | (with_reducible refine side_q ?_ ?_; exact byQ)
    refine cx_if _ rfl (fun h68 => ?_) (fun h68 => ?_)
    ·
      (try simp only [go_sem] at h68)
      have hj : appendU u who number offset text now = (swept u now, (((swept u now).ss.getD (mineIx u who number now).toNat default).text.length : Int), 0) := by
        rw [appendU, if_pos hs24]; exact if_pos ⟨within_iff.1 h68.1, h68.2⟩
      refine cx_skip ?_
      (try simp only [go_sem])
      refine cx_joinw ([⟨12, 0, [], .ptr 1 0⟩, ⟨13, 0, [], .int .i64 (appendU u who number offset text now).2.1⟩, ⟨14, 0, [], .int .i64 0⟩]) ([.dead, .box [.own none 2 5 0 (appendU u who number offset text now).1.ss.length .loose, .int .i64 u.next, .int .i64 u.lasts, .int .i64 u.room], .arr 5 (appendU u who number offset text now).1.ss.length (En Session.enc default (appendU u who number offset text now).1.ss)]) (cx_draw mixed [0, 2, 3, 4, 5, 6] (.first 1 (.alt 0 (.alt 2 (.alt 3 (.alt 4 (.alt 5 (.one 6 (.first 7 (.first 8 (.done)))) (.one 6 (.one 5 (.first 7 (.first 8 (.done)))))) (.one 6 (.one 4 (.one 5 (.first 7 (.first 8 (.done))))))) (.one 6 (.one 3 (.one 4 (.one 5 (.first 7 (.first 8 (.done)))))))) (.one 6 (.one 2 (.one 3 (.one 4 (.one 5 (.first 7 (.first 8 (.done))))))))) (.one 2 (.alt 0 (.alt 3 (.alt 4 (.alt 5 (.one 6 (.first 7 (.first 8 (.done)))) (.one 6 (.one 5 (.first 7 (.first 8 (.done)))))) (.one 6 (.one 4 (.one 5 (.first 7 (.first 8 (.done))))))) (.one 6 (.one 3 (.one 4 (.one 5 (.first 7 (.first 8 (.done)))))))) (.one 3 (.alt 0 (.alt 4 (.alt 5 (.one 6 (.first 7 (.first 8 (.done)))) (.one 6 (.one 5 (.first 7 (.first 8 (.done)))))) (.one 6 (.one 4 (.one 5 (.first 7 (.first 8 (.done))))))) (.one 4 (.alt 0 (.alt 5 (.one 6 (.first 7 (.first 8 (.done)))) (.one 6 (.one 5 (.first 7 (.first 8 (.done)))))) (.one 5 (.one 0 (.one 6 (.first 7 (.first 8 (.done)))))))))))))) (by kernel_rfl) ?_) ?_
      · ((try simp only [hj]); simp only [go_sem, wk, wks, wkB, wkH, subw, subEw, hprew, ltb, subr, subEr, wkE]; repeat' (first | apply And.intro)) <;> first | (refine Sd.mk ?_; omega) | (refine Sq.mk ?_; omega) | first | trivial | rfl | omega | assumption | exact Nat.le_refl _ | exact wks_refl _ | exact wk_refl _ | (intros; exact wks_refl _) | (simp; done) | (simp; omega) | (intro q hq; exact wks_stF (by omega) (wks_refl _) q) | (intro q hq; exact wks_stF2 (by omega) (wks_refl _) q)
      refine cx_ret ?_
      simp only [go_sem]
      rw [hj]
      exact finx_of 1 [] rfl byC byC byC byC
    ·
      (try simp only [go_sem] at h68)
      have hn68 : ¬ ((0 ≤ offset ∧ offset ≤ (((swept u now).ss.getD (mineIx u who number now).toNat default).text.length : Int)) ∧ ((swept u now).ss.getD (mineIx u who number now).toNat default).text.drop offset.toNat = text) := by
        rintro ⟨k1, k2⟩
        rcases h68 with h | h
        · rw [within_iff.2 k1] at h; cases h
        · exact h k2
      refine cx_sr ?_
      simp only [go_sem]
      repeat first | (with_reducible refine side_d ?_ ?_; exact byD) | (with_reducible refine side_q ?_ ?_; exact byQ)
      intro t77 e77
      repeat first | (with_reducible refine side_d ?_ ?_; exact byD) | (with_reducible refine side_q ?_ ?_; exact byQ)
      subst e77
      refine cx_if _ rfl (fun h70 => ?_) (fun h70 => ?_)
      ·
        (try simp only [go_sem] at h70)
        have ha : appendU u who number offset text now = (zeroU, 0, 4) := by rw [appendU, if_pos hs24]; exact (if_neg hn68).trans (if_pos h70)
        refine cx_sr ?_
        simp only [go_sem]
        repeat first | (with_reducible refine side_d ?_ ?_; exact byD) | (with_reducible refine side_q ?_ ?_; exact byQ)
        refine cx_ret ?_
        simp only [go_sem]
        rw [ha]
        exact finx_of 1 [] rfl byC byC byC byC
      ·
        (try simp only [go_sem] at h70)
        refine cx_seq (cx_draw mixed [] (.first 0 (.first 1 (.first 2 (.first 3 (.first 4 (.first 5 (.first 6 (.first 7 (.first 8 (.first 9 (.first 10 (.first 11 (.first 12 (.first 13 (.done))))))))))))))) (by kernel_rfl) ?_)
        simp only [go_sem]
        repeat first | (with_reducible refine side_d ?_ ?_; exact byD) | (with_reducible refine side_q ?_ ?_; exact byQ)
        intro t87 e87
        (try replace e87 := w64 e87 (by omega) (by omega))
        repeat first | (with_reducible refine side_d ?_ ?_; exact byD) | (with_reducible refine side_q ?_ ?_; exact byQ)
        intro t92 e92
        repeat first | (with_reducible refine side_d ?_ ?_; exact byD) | (with_reducible refine side_q ?_ ?_; exact byQ)
        subst e92
        refine cx_if _ rfl (fun h79 => ?_) (fun h79 => ?_)
        ·
          (try simp only [go_sem] at h79)
          have ha : appendU u who number offset text now = (zeroU, 0, 2) := by rw [appendU, if_pos hs24]; exact (if_neg hn68).trans ((if_neg (by simpa using h70)).trans (if_pos (by rw [← e87]; exact h79)))
          refine cx_sr ?_
          simp only [go_sem]
          repeat first | (with_reducible refine side_d ?_ ?_; exact byD) | (with_reducible refine side_q ?_ ?_; exact byQ)
          refine cx_ret ?_
          simp only [go_sem]
          rw [ha]
          exact finx_of 1 [] rfl byC byC byC byC
        ·
          (try simp only [go_sem] at h79)
          have hj : appendU u who number offset text now = ({ swept u now with ss := (swept u now).ss.set (mineIx u who number now).toNat { (swept u now).ss.getD (mineIx u who number now).toNat default with text := ((swept u now).ss.getD (mineIx u who number now).toNat default).text ++ text, till := now + u.lasts } }, ((((swept u now).ss.getD (mineIx u who number now).toNat default).text ++ text).length : Int), 0) := by
            rw [appendU, if_pos hs24]; exact (if_neg hn68).trans ((if_neg (by simpa using h70)).trans (if_neg (by rw [← e87]; exact h79)))
          refine cx_sr ?_
          simp only [go_sem]
          repeat first | (with_reducible refine side_d ?_ ?_; exact byD) | (with_reducible refine side_q ?_ ?_; exact byQ)
          refine cx_region ?_
          simp only [go_sem]
          repeat first | (with_reducible refine side_d ?_ ?_; exact byD) | (with_reducible refine side_q ?_ ?_; exact byQ)
          intro t65 e65
          (try replace e65 := w64 e65 (by omega) (by omega))
          repeat first | (with_reducible refine side_d ?_ ?_; exact byD) | (with_reducible refine side_q ?_ ?_; exact byQ)
          subst e65
          refine cx_joinw ([⟨12, 0, [], .ptr 1 0⟩, ⟨13, 0, [], .int .i64 (appendU u who number offset text now).2.1⟩, ⟨14, 0, [], .int .i64 0⟩]) ([.dead, .box [.own none 2 5 0 (appendU u who number offset text now).1.ss.length .loose, .int .i64 u.next, .int .i64 u.lasts, .int .i64 u.room], .arr 5 (appendU u who number offset text now).1.ss.length (En Session.enc default (appendU u who number offset text now).1.ss)]) (cx_draw mixed [0, 2, 3, 4, 5, 6] (.first 1 (.alt 0 (.alt 2 (.alt 3 (.alt 4 (.alt 5 (.one 6 (.first 7 (.first 8 (.done)))) (.one 6 (.one 5 (.first 7 (.first 8 (.done)))))) (.one 6 (.one 4 (.one 5 (.first 7 (.first 8 (.done))))))) (.one 6 (.one 3 (.one 4 (.one 5 (.first 7 (.first 8 (.done)))))))) (.one 6 (.one 2 (.one 3 (.one 4 (.one 5 (.first 7 (.first 8 (.done))))))))) (.one 2 (.alt 0 (.alt 3 (.alt 4 (.alt 5 (.one 6 (.first 7 (.first 8 (.done)))) (.one 6 (.one 5 (.first 7 (.first 8 (.done)))))) (.one 6 (.one 4 (.one 5 (.first 7 (.first 8 (.done))))))) (.one 6 (.one 3 (.one 4 (.one 5 (.first 7 (.first 8 (.done)))))))) (.one 3 (.alt 0 (.alt 4 (.alt 5 (.one 6 (.first 7 (.first 8 (.done)))) (.one 6 (.one 5 (.first 7 (.first 8 (.done)))))) (.one 6 (.one 4 (.one 5 (.first 7 (.first 8 (.done))))))) (.one 4 (.alt 0 (.alt 5 (.one 6 (.first 7 (.first 8 (.done)))) (.one 6 (.one 5 (.first 7 (.first 8 (.done)))))) (.one 5 (.one 0 (.one 6 (.first 7 (.first 8 (.done)))))))))))))) (by kernel_rfl) ?_) ?_
          · ((try simp only [hj]); simp only [go_sem, wk, wks, wkB, wkH, subw, subEw, hprew, ltb, subr, subEr, wkE]; repeat' (first | apply And.intro)) <;> first | (refine Sd.mk ?_; omega) | (refine Sq.mk ?_; omega) | first | trivial | rfl | omega | assumption | exact Nat.le_refl _ | exact wks_refl _ | exact wk_refl _ | (intros; exact wks_refl _) | (simp; done) | (simp; omega) | (intro q hq; exact wks_stF (by omega) (wks_refl _) q) | (intro q hq; exact wks_stF2 (by omega) (wks_refl _) q)
          refine cx_ret ?_
          simp only [go_sem]
          rw [hj]
          exact finx_of 1 [] rfl byC byC byC byC
  ·
    repeat first | (with_reducible refine side_d ?_ ?_; exact byD) | (with_reducible refine side_q ?_ ?_; exact byQ)
    refine cw_m (mine_err u hu who hw number now hs24) byW byT ?_
    simp only [go_sem]
    repeat first | (with_reducible refine side_d ?_ ?_; exact byD) | (with_reducible refine side_q ?_ ?_; exact byQ)
    refine cx_seq ?_
    refine cx_sr ?_
    simp only [go_sem]
    repeat first | (with_reducible refine side_d ?_ ?_; exact byD) | (with_reducible refine side_q ?_ ?_; exact byQ)
    intro t29 e29
    repeat first | (with_reducible refine side_d ?_ ?_; exact byD) | (with_reducible refine side_q ?_ ?_; exact byQ)
    subst e29
    refine cx_if _ rfl (fun h29 => ?_) (fun h29 => no_if h29)
    refine cx_sr ?_
    simp only [go_sem]
    repeat first | (with_reducible refine side_d ?_ ?_; exact byD) | (with_reducible refine side_q ?_ ?_; exact byQ)
    refine cx_ret ?_
    simp only [go_sem]
    rw [appendU, if_neg hs24]
    exact finx_of 1 [] rfl byC byC byC byC
end Go.VM.Try
end
section
set_option linter.unusedVariables false
set_option linter.unusedSimpArgs false
open Go Go.VM Go.Proofs Tether
namespace Go.VM.Try
set_option maxRecDepth 100000
theorem Finish_c (u : Uploads) (hu : u.ok) (who : Str) (hw : who.length < 4611686018427387904) (number now : Int) :
    Meets Try.prog 26 [u.enc, .str who, .int .i64 number, .int .i64 now] (.tup [(finishU u who number now).1.enc, .str (finishU u who number now).2.1, .int .i64 (finishU u who number now).2.2]) [] := by
  refine meets_x (fn := Try.f26) Try.func26 rfl fb26 (by kernel_rfl) (Nat.le_of_ble_eq_true rfl) ?_
  refine cx_sr ?_
  simp only [go_sem]
  repeat first | (with_reducible refine side_d ?_ ?_; exact byD) | (with_reducible refine side_q ?_ ?_; exact byQ)
  refine cx_sr ?_
  simp only [go_sem]
  repeat first | (with_reducible refine side_d ?_ ?_; exact byD) | (with_reducible refine side_q ?_ ?_; exact byQ)
  by_cases hs19 : mineErr u who number now = 0
  ·
    repeat first | (with_reducible refine side_d ?_ ?_; exact byD) | (with_reducible refine side_q ?_ ?_; exact byQ)
    obtain ⟨hi1, hi2⟩ := mineIx_of hs19
    obtain ⟨hb, hn, -⟩ := mineErr_facts hs19
    have hsl : (swept u now).ss.length * 56 ≤ 140737488355328 := by
      have := hu.1
      have h2 : (swept u now).ss.length ≤ u.ss.length := List.length_filter_le _ _
      omega
    refine cw_m (mine_ok u hu who hw number now hs19) byW byT ?_
    simp only [go_sem]
    repeat first | (with_reducible refine side_d ?_ ?_; exact byD) | (with_reducible refine side_q ?_ ?_; exact byQ)
    refine cx_seq ?_
    refine cx_sr ?_
    simp only [go_sem]
    repeat first | (with_reducible refine side_d ?_ ?_; exact byD) | (with_reducible refine side_q ?_ ?_; exact byQ)
    intro t24 e24
    repeat first | (with_reducible refine side_d ?_ ?_; exact byD) | (with_reducible refine side_q ?_ ?_; exact byQ)
    subst e24
    refine cx_if _ rfl (fun h24 => no_if h24) (fun h24 => ?_)
    refine cx_skip ?_
    (try simp only [go_sem])
    refine cx_sr ?_
    simp only [go_sem]
    repeat first | (with_reducible refine side_d ?_ ?_; exact byD) | (with_reducible refine side_q ?_ ?_; exact byQ)
    refine cx_seq ?_
    refine cx_sr ?_
    simp only [go_sem]
    repeat first | (with_reducible refine side_d ?_ ?_; exact byD) | (with_reducible refine side_q ?_ ?_; exact byQ)
    intro t37 e37
    repeat first | (with_reducible refine side_d ?_ ?_; exact byD) | (with_reducible refine side_q ?_ ?_; exact byQ)
    subst e37
    refine cx_if _ rfl (fun h37 => ?_) (fun h37 => ?_)
    ·
      (try simp only [go_sem] at h37)
      have ha : finishU u who number now = (zeroU, [], 4) := by rw [finishU, if_pos hs19]; exact if_pos h37
      refine cx_sr ?_
      simp only [go_sem]
      repeat first | (with_reducible refine side_d ?_ ?_; exact byD) | (with_reducible refine side_q ?_ ?_; exact byQ)
      refine cx_ret ?_
      simp only [go_sem]
      rw [ha]
      exact finx_of 1 [] rfl byC byC byC byC
    ·
      (try simp only [go_sem] at h37)
      have hj : finishU u who number now = ({ swept u now with ss := (swept u now).ss.take (mineIx u who number now).toNat ++ (swept u now).ss.drop ((mineIx u who number now).toNat + 1) }, ((swept u now).ss.getD (mineIx u who number now).toNat default).text, 0) := by rw [finishU, if_pos hs19]; exact if_neg h37
      refine cx_skip ?_
      (try simp only [go_sem])
      refine cx_sr ?_
      simp only [go_sem]
      repeat first | (with_reducible refine side_d ?_ ?_; exact byD) | (with_reducible refine side_q ?_ ?_; exact byQ)
      intro t43 e43
      (try replace e43 := w64 e43 (by omega) (by omega))
      repeat first | (with_reducible refine side_d ?_ ?_; exact byD) | (with_reducible refine side_q ?_ ?_; exact byQ)
      refine cw_does (Delete_Session (swept u now).ss (mineIx u who number now).toNat ((mineIx u who number now).toNat + 1) (by omega) (by omega) hsl) [2] rfl byC byC ?_
      simp only [go_sem]
      repeat first | (with_reducible refine side_d ?_ ?_; exact byD) | (with_reducible refine side_q ?_ ?_; exact byQ)
      refine cx_joinw ([⟨8, 0, [], .ptr 1 0⟩, ⟨9, 0, [], .str (finishU u who number now).2.1⟩, ⟨10, 0, [], .int .i64 0⟩]) ([.dead, .box [.own none 2 5 0 (finishU u who number now).1.ss.length .loose, .int .i64 u.next, .int .i64 u.lasts, .int .i64 u.room], .arr 5 (finishU u who number now).1.ss.length (En Session.enc default (finishU u who number now).1.ss), .dead]) (cx_draw mixed [0, 1, 2, 3] (.alt 0 (.alt 1 (.alt 2 (.one 3 (.first 4 (.first 5 (.done)))) (.one 3 (.one 2 (.first 4 (.first 5 (.done)))))) (.one 3 (.one 1 (.one 2 (.first 4 (.first 5 (.done))))))) (.one 1 (.alt 0 (.alt 2 (.one 3 (.first 4 (.first 5 (.done)))) (.one 3 (.one 2 (.first 4 (.first 5 (.done)))))) (.one 2 (.one 0 (.one 3 (.first 4 (.first 5 (.done))))))))) (by kernel_rfl) ?_) ?_
      · ((try simp only [hj]); simp only [go_sem, wk, wks, wkB, wkH, subw, subEw, hprew, ltb, subr, subEr, wkE]; repeat' (first | apply And.intro)) <;> first | (refine Sd.mk ?_; omega) | (refine Sq.mk ?_; omega) | first | trivial | rfl | omega | assumption | exact Nat.le_refl _ | exact wks_refl _ | exact wk_refl _ | (intros; exact wks_refl _) | (simp; done) | (simp; omega) | (intro q hq; exact wks_stF (by omega) (wks_refl _) q) | (intro q hq; exact wks_stF2 (by omega) (wks_refl _) q)
      refine cx_ret ?_
      simp only [go_sem]
      rw [hj]
      exact finx_of 1 [] rfl byC byC byC byC
  ·
    repeat first | (with_reducible refine side_d ?_ ?_; exact byD) | (with_reducible refine side_q ?_ ?_; exact byQ)
    refine cw_m (mine_err u hu who hw number now hs19) byW byT ?_
    simp only [go_sem]
    repeat first | (with_reducible refine side_d ?_ ?_; exact byD) | (with_reducible refine side_q ?_ ?_; exact byQ)
    refine cx_seq ?_
    refine cx_sr ?_
    simp only [go_sem]
    repeat first | (with_reducible refine side_d ?_ ?_; exact byD) | (with_reducible refine side_q ?_ ?_; exact byQ)
    intro t24 e24
    repeat first | (with_reducible refine side_d ?_ ?_; exact byD) | (with_reducible refine side_q ?_ ?_; exact byQ)
    subst e24
    refine cx_if _ rfl (fun h24 => ?_) (fun h24 => no_if h24)
    refine cx_sr ?_
    simp only [go_sem]
    repeat first | (with_reducible refine side_d ?_ ?_; exact byD) | (with_reducible refine side_q ?_ ?_; exact byQ)
    refine cx_ret ?_
    simp only [go_sem]
    rw [finishU, if_neg hs19]
    exact finx_of 1 [] rfl byC byC byC byC
end Go.VM.Try
end
section
set_option linter.unusedVariables false
set_option linter.unusedSimpArgs false
open Go Go.VM
namespace Tether
def sgnR (c : Int) : Bool := decide (97 ≤ c) && decide (c ≤ 122) || decide (65 ≤ c) && decide (c ≤ 90) || decide (48 ≤ c) && decide (c ≤ 57) || decide (c = 45) || decide (c = 95) || decide (c = 46) || decide (c = 40) || decide (c = 41) || decide (c = 32)
theorem sgnR_eq (c : UInt8) : signB (c.toNat : Int) = sgnR (c.toNat : Int) := by
  have h : ∀ n : Fin 256, signB (((UInt8.ofNat n.val).toNat : Nat) : Int) = sgnR (((UInt8.ofNat n.val).toNat : Nat) : Int) := by decide +kernel
  have := h ⟨c.toNat, c.toNat_lt⟩
  simpa using this
/-- may a sign stand there? -/
def okAt (s : Str) (i : Nat) : Bool := sgnR (at8 s i) && !(decide (at8 s i = 32) && (decide (i = 0) || decide ((i : Int) = (s.length : Int) - 1)))
theorem isName_okAt (s : Str) : ((List.range s.length).all (okAt s) && (((!decide (s = []) && decide ((s.length : Int) ≤ 20)) && !decide (s = [46])) && !decide (s = [46, 46]))) = isName s := by
  unfold isName
  by_cases h0 : s = []
  · subst h0; rfl
  have hpos : 0 < s.length := by rcases s with _ | ⟨x, s⟩; exact absurd rfl h0; simp
  have key : (List.range s.length).all (okAt s) = (!(decide (at8 s 0 = 32) || decide (at8 s (s.length - 1) = 32)) && (List.range s.length).all fun i => signB (at8 s i)) := by
    rw [Bool.eq_iff_iff]
    simp only [List.all_eq_true, List.mem_range, Bool.and_eq_true, Bool.not_eq_true', Bool.or_eq_false_iff, decide_eq_false_iff_not]
    have hs : ∀ i, sgnR (at8 s i) = signB (at8 s i) := fun i => (sgnR_eq _).symm
    constructor
    · intro h
      refine ⟨⟨fun e => ?_, fun e => ?_⟩, fun i hi => ?_⟩
      · have := h 0 hpos
        simp [okAt, e] at this
      · have := h (s.length - 1) (by omega)
        have hk : ((s.length - 1 : Nat) : Int) = (s.length : Int) - 1 := by omega
        simp [okAt, e, hk] at this
      · have := h i hi
        rw [okAt, hs] at this
        exact (Bool.and_eq_true_iff.1 this).1
    · rintro ⟨⟨e1, e2⟩, h⟩ i hi
      rw [okAt, hs, h i hi, Bool.true_and, Bool.not_eq_true']
      by_cases e : at8 s i = 32
      · have i0 : i ≠ 0 := by rintro rfl; exact e1 e
        have i1 : ¬ (i : Int) = (s.length : Int) - 1 := by
          intro h
          have : i = s.length - 1 := by omega
          subst this; exact e2 e
        simp [e, i0, i1]
      · simp [e]
  rw [key]
  have e1 : decide ((s.length : Int) ≤ 20) = !decide (20 < (s.length : Int)) := by
    by_cases h : (s.length : Int) ≤ 20
    · have : ¬ 20 < (s.length : Int) := by omega
      simp [h, this]
    · have : 20 < (s.length : Int) := by omega
      simp [h, this]
  rw [e1]
  generalize decide (s = []) = a, decide (20 < (s.length : Int)) = b, decide (s = [46]) = c, decide (s = [46, 46]) = d, (!(decide (at8 s 0 = 32) || decide (at8 s (s.length - 1) = 32))) = e, ((List.range s.length).all fun i => signB (at8 s i)) = f
  cases a <;> cases b <;> cases c <;> cases d <;> cases e <;> cases f <;> rfl
def sameS (s t : Session) : Bool := decide (s.num = t.num) && (decide (s.who = t.who) && (decide (s.text = t.text) && (decide (s.size = t.size) && decide (s.till = t.till))))
theorem sameS_self (s : Session) : sameS s s = true := by simp [sameS]
def sameU (a b : Uploads) : Bool := decide (a.next = b.next) && decide (a.lasts = b.lasts) && decide (a.room = b.room) && decide ((a.ss.length : Int) = (b.ss.length : Int)) && (List.range a.ss.length).all fun i => sameS (a.ss.getD i default) (b.ss.getD i default)
theorem sameU_self (a : Uploads) : sameU a a = true := by
  simp only [sameU, decide_true, Bool.true_and]
  exact range_all_true fun i _ => sameS_self _
end Tether
end
section
set_option linter.unusedVariables false
set_option linter.unusedSimpArgs false
open Go Go.VM Go.Proofs Tether
namespace Go.VM.Try
set_option maxRecDepth 100000
theorem RIsName_c (s : Str) (hs : s.length < 4611686018427387904) : Meets Try.prog 29 [.str s] (.bool (isName s)) [] := by
  refine meets_x (fn := Try.f29) Try.func29 rfl fb29 (by kernel_rfl) (Nat.le_of_ble_eq_true rfl) ?_
  refine cx_sr ?_
  simp only [go_sem]
  repeat first | (with_reducible refine side_d ?_ ?_; exact byD) | (with_reducible refine side_q ?_ ?_; exact byQ)
  refine cx_seq ?_
  refine cx_sr ?_
  simp only [go_sem]
  repeat first | (with_reducible refine side_d ?_ ?_; exact byD) | (with_reducible refine side_q ?_ ?_; exact byQ)
  refine cx_block ?_
  refine cx_loop0 (σ := Nat) (fun i => i ≤ s.length ∧ ∀ j, j < i → okAt s j = true) (fun i => [⟨3, 0, [], .int .i64 (i : Nat)⟩]) [0] (fun i => s.length - i) 0 ⟨Nat.zero_le _, fun j hj => absurd hj (Nat.not_lt_zero j)⟩ (Nat.zero_le _) byC (fun i hI1 => ?_)
  simp only [go_sem]
  refine cx_seq ?_
  refine cx_sr ?_
  simp only [go_sem]
  repeat first | (with_reducible refine side_d ?_ ?_; exact byD) | (with_reducible refine side_q ?_ ?_; exact byQ)
  intro t9 e9
  repeat first | (with_reducible refine side_d ?_ ?_; exact byD) | (with_reducible refine side_q ?_ ?_; exact byQ)
  subst e9
  refine cx_if _ rfl (fun h9 => ?_) (fun h9 => ?_)
  ·
    (try simp only [go_sem] at h9)
    refine cx_skip ?_
    (try simp only [go_sem])
    refine cx_seq (cx_block ?_)
    refine cx_sr ?_
    simp only [go_sem]
    repeat first | (with_reducible refine side_d ?_ ?_; exact byD) | (with_reducible refine side_q ?_ ?_; exact byQ)
    intro t14 e14
    repeat first | (with_reducible refine side_d ?_ ?_; exact byD) | (with_reducible refine side_q ?_ ?_; exact byQ)
    refine cx_sr ?_
    simp only [go_sem]
    repeat first | (with_reducible refine side_d ?_ ?_; exact byD) | (with_reducible refine side_q ?_ ?_; exact byQ)
    intro t16 e16
    repeat first | (with_reducible refine side_d ?_ ?_; exact byD) | (with_reducible refine side_q ?_ ?_; exact byQ)
    intro t19 e19
    repeat first | (with_reducible refine side_d ?_ ?_; exact byD) | (with_reducible refine side_q ?_ ?_; exact byQ)
    intro t20 e20
    rw [bsel_and] at e20
    repeat first | (with_reducible refine side_d ?_ ?_; exact byD) | (with_reducible refine side_q ?_ ?_; exact byQ)
    intro t23 e23
    repeat first | (with_reducible refine side_d ?_ ?_; exact byD) | (with_reducible refine side_q ?_ ?_; exact byQ)
    intro t26 e26
    repeat first | (with_reducible refine side_d ?_ ?_; exact byD) | (with_reducible refine side_q ?_ ?_; exact byQ)
    intro t27 e27
    rw [bsel_and] at e27
    repeat first | (with_reducible refine side_d ?_ ?_; exact byD) | (with_reducible refine side_q ?_ ?_; exact byQ)
    intro t28 e28
    rw [bsel_or] at e28
    repeat first | (with_reducible refine side_d ?_ ?_; exact byD) | (with_reducible refine side_q ?_ ?_; exact byQ)
    intro t31 e31
    repeat first | (with_reducible refine side_d ?_ ?_; exact byD) | (with_reducible refine side_q ?_ ?_; exact byQ)
    intro t34 e34
    repeat first | (with_reducible refine side_d ?_ ?_; exact byD) | (with_reducible refine side_q ?_ ?_; exact byQ)
    intro t35 e35
    rw [bsel_and] at e35
    repeat first | (with_reducible refine side_d ?_ ?_; exact byD) | (with_reducible refine side_q ?_ ?_; exact byQ)
    intro t36 e36
    rw [bsel_or] at e36
    repeat first | (with_reducible refine side_d ?_ ?_; exact byD) | (with_reducible refine side_q ?_ ?_; exact byQ)
    intro t39 e39
    repeat first | (with_reducible refine side_d ?_ ?_; exact byD) | (with_reducible refine side_q ?_ ?_; exact byQ)
    intro t40 e40
    rw [bsel_or] at e40
    repeat first | (with_reducible refine side_d ?_ ?_; exact byD) | (with_reducible refine side_q ?_ ?_; exact byQ)
    intro t43 e43
    repeat first | (with_reducible refine side_d ?_ ?_; exact byD) | (with_reducible refine side_q ?_ ?_; exact byQ)
    intro t44 e44
    rw [bsel_or] at e44
    repeat first | (with_reducible refine side_d ?_ ?_; exact byD) | (with_reducible refine side_q ?_ ?_; exact byQ)
    intro t47 e47
    repeat first | (with_reducible refine side_d ?_ ?_; exact byD) | (with_reducible refine side_q ?_ ?_; exact byQ)
    intro t48 e48
    rw [bsel_or] at e48
    repeat first | (with_reducible refine side_d ?_ ?_; exact byD) | (with_reducible refine side_q ?_ ?_; exact byQ)
    intro t51 e51
    repeat first | (with_reducible refine side_d ?_ ?_; exact byD) | (with_reducible refine side_q ?_ ?_; exact byQ)
    intro t52 e52
    rw [bsel_or] at e52
    repeat first | (with_reducible refine side_d ?_ ?_; exact byD) | (with_reducible refine side_q ?_ ?_; exact byQ)
    intro t55 e55
    repeat first | (with_reducible refine side_d ?_ ?_; exact byD) | (with_reducible refine side_q ?_ ?_; exact byQ)
    intro t56 e56
    rw [bsel_or] at e56
    repeat first | (with_reducible refine side_d ?_ ?_; exact byD) | (with_reducible refine side_q ?_ ?_; exact byQ)
    intro t59 e59
    repeat first | (with_reducible refine side_d ?_ ?_; exact byD) | (with_reducible refine side_q ?_ ?_; exact byQ)
    intro t60 e60
    rw [bsel_or] at e60
    repeat first | (with_reducible refine side_d ?_ ?_; exact byD) | (with_reducible refine side_q ?_ ?_; exact byQ)
    subst e16 e19 e20 e23 e26 e27 e28 e31 e34 e35 e36 e39 e40 e43 e44 e47 e48 e51 e52 e55 e56 e59 e60
    refine cx_sr ?_
    simp only [go_sem]
    repeat first | (with_reducible refine side_d ?_ ?_; exact byD) | (with_reducible refine side_q ?_ ?_; exact byQ)
    intro t62 e62
    repeat first | (with_reducible refine side_d ?_ ?_; exact byD) | (with_reducible refine side_q ?_ ?_; exact byQ)
    intro t65 e65
    repeat first | (with_reducible refine side_d ?_ ?_; exact byD) | (with_reducible refine side_q ?_ ?_; exact byQ)
    intro t68 e68
    repeat first | (with_reducible refine side_d ?_ ?_; exact byD) | (with_reducible refine side_q ?_ ?_; exact byQ)
    intro t73 e73
    (try replace e73 := w64 e73 (by omega) (by omega))
    repeat first | (with_reducible refine side_d ?_ ?_; exact byD) | (with_reducible refine side_q ?_ ?_; exact byQ)
    intro t74 e74
    repeat first | (with_reducible refine side_d ?_ ?_; exact byD) | (with_reducible refine side_q ?_ ?_; exact byQ)
    intro t75 e75
    rw [bsel_or] at e75
    repeat first | (with_reducible refine side_d ?_ ?_; exact byD) | (with_reducible refine side_q ?_ ?_; exact byQ)
    intro t76 e76
    rw [bsel_and] at e76
    repeat first | (with_reducible refine side_d ?_ ?_; exact byD) | (with_reducible refine side_q ?_ ?_; exact byQ)
    intro t77 e77
    rw [bsel_or] at e77
    repeat first | (with_reducible refine side_d ?_ ?_; exact byD) | (with_reducible refine side_q ?_ ?_; exact byQ)
    subst e62 e65 e68 e74 e75 e76 e77
    refine cx_if _ rfl (fun h77 => ?_) (fun h77 => ?_)
    ·
      (try simp only [go_sem] at h77)
      refine cx_sr ?_
      simp only [go_sem]
      repeat first | (with_reducible refine side_d ?_ ?_; exact byD) | (with_reducible refine side_q ?_ ?_; exact byQ)
      refine cx_ret ?_
      simp only [go_sem]
      refine finw_bool ?_
      have ha : at8 s i = t14 := e14.symm
      have hk : okAt s i = false := by
        simp only [okAt, sgnR, ha, Bool.and_eq_true, Bool.or_eq_true, Bool.not_eq_false', Bool.and_eq_false_iff, Bool.or_eq_false_iff, decide_eq_true_eq, decide_eq_false_iff_not]
        omega
      rw [← isName_okAt, range_all_false (i := i) (by omega) hk, Bool.false_and]
    ·
      (try simp only [go_sem] at h77)
      refine cx_skip ?_
      (try simp only [go_sem])
      refine cx_region ?_
      simp only [go_sem]
      repeat first | (with_reducible refine side_d ?_ ?_; exact byD) | (with_reducible refine side_q ?_ ?_; exact byQ)
      intro t11 e11
      (try replace e11 := w64 e11 (by omega) (by omega))
      repeat first | (with_reducible refine side_d ?_ ?_; exact byD) | (with_reducible refine side_q ?_ ?_; exact byQ)
      have ha : at8 s i = t14 := e14.symm
      have hk : okAt s i = true := by
        simp only [okAt, sgnR, ha, Bool.and_eq_true, Bool.or_eq_true, Bool.not_eq_true', Bool.and_eq_false_iff, Bool.or_eq_false_iff, decide_eq_true_eq, decide_eq_false_iff_not]
        omega
      refine rnd_next (i + 1) ⟨by omega, all_next hI1.2 hk⟩ (by first | omega | (dsimp only; omega)) byC
  ·
    (try simp only [go_sem] at h9)
    refine cx_exit ?_
    simp only [go_sem]
    refine cx_sr ?_
    simp only [go_sem]
    repeat first | (with_reducible refine side_d ?_ ?_; exact byD) | (with_reducible refine side_q ?_ ?_; exact byQ)
    intro t79 e79
    repeat first | (with_reducible refine side_d ?_ ?_; exact byD) | (with_reducible refine side_q ?_ ?_; exact byQ)
    intro t83 e83
    repeat first | (with_reducible refine side_d ?_ ?_; exact byD) | (with_reducible refine side_q ?_ ?_; exact byQ)
    intro t84 e84
    rw [bsel_and] at e84
    repeat first | (with_reducible refine side_d ?_ ?_; exact byD) | (with_reducible refine side_q ?_ ?_; exact byQ)
    intro t87 e87
    repeat first | (with_reducible refine side_d ?_ ?_; exact byD) | (with_reducible refine side_q ?_ ?_; exact byQ)
    intro t88 e88
    rw [bsel_and] at e88
    repeat first | (with_reducible refine side_d ?_ ?_; exact byD) | (with_reducible refine side_q ?_ ?_; exact byQ)
    intro t91 e91
    repeat first | (with_reducible refine side_d ?_ ?_; exact byD) | (with_reducible refine side_q ?_ ?_; exact byQ)
    intro t92 e92
    rw [bsel_and] at e92
    repeat first | (with_reducible refine side_d ?_ ?_; exact byD) | (with_reducible refine side_q ?_ ?_; exact byQ)
    subst e79 e83 e84 e87 e88 e91 e92
    refine cx_ret ?_
    simp only [go_sem]
    refine finw_bool ?_
    rw [← isName_okAt, range_all_true fun j hj => hI1.2 j (by omega), Bool.true_and]
theorem OpenOf_c (l : List Session) (who : Str) (hl : l.length < 4611686018427387904) : Meets Try.prog 49 [ssV l, .str who] (.int .i64 (openW l who)) [] := by
  refine meets_x (fn := Try.f49) Try.func49 rfl fb49 (by kernel_rfl) (Nat.le_of_ble_eq_true rfl) ?_
  refine cx_sr ?_
  simp only [go_sem]
  repeat first | (with_reducible refine side_d ?_ ?_; exact byD) | (with_reducible refine side_q ?_ ?_; exact byQ)
  refine cx_sr ?_
  simp only [go_sem]
  repeat first | (with_reducible refine side_d ?_ ?_; exact byD) | (with_reducible refine side_q ?_ ?_; exact byQ)
  refine cx_seq ?_
  refine cx_sr ?_
  simp only [go_sem]
  repeat first | (with_reducible refine side_d ?_ ?_; exact byD) | (with_reducible refine side_q ?_ ?_; exact byQ)
  refine cx_block ?_
  refine cx_loop0 (σ := Nat) (fun i => i ≤ l.length) (fun i => [⟨6, 0, [], .int .i64 (i : Nat)⟩, ⟨5, 0, [], .int .i64 (openW (l.take i) who)⟩]) [0, 1, 4] (fun i => l.length - i) 0 (by first | trivial | omega | simp) (Nat.zero_le _) byC (fun i hI1 => ?_)
  simp only [go_sem]
  refine cx_seq ?_
  refine cx_sr ?_
  simp only [go_sem]
  repeat first | (with_reducible refine side_d ?_ ?_; exact byD) | (with_reducible refine side_q ?_ ?_; exact byQ)
  intro t10 e10
  repeat first | (with_reducible refine side_d ?_ ?_; exact byD) | (with_reducible refine side_q ?_ ?_; exact byQ)
  subst e10
  refine cx_if _ rfl (fun h10 => ?_) (fun h10 => ?_)
  ·
    (try simp only [go_sem] at h10)
    refine cx_skip ?_
    (try simp only [go_sem])
    refine cx_seq (cx_block ?_)
    refine cx_sr ?_
    simp only [go_sem]
    repeat first | (with_reducible refine side_d ?_ ?_; exact byD) | (with_reducible refine side_q ?_ ?_; exact byQ)
    intro t19 e19
    repeat first | (with_reducible refine side_d ?_ ?_; exact byD) | (with_reducible refine side_q ?_ ?_; exact byQ)
    subst e19
    refine cx_if _ rfl (fun h19 => ?_) (fun h19 => ?_)
    ·
      (try simp only [go_sem] at h19)
      refine cx_region ?_
      simp only [go_sem]
      repeat first | (with_reducible refine side_d ?_ ?_; exact byD) | (with_reducible refine side_q ?_ ?_; exact byQ)
      intro t26 e26
      (try replace e26 := w64 e26 (by omega) (by omega))
      repeat first | (with_reducible refine side_d ?_ ?_; exact byD) | (with_reducible refine side_q ?_ ?_; exact byQ)
      refine cx_region ?_
      simp only [go_sem]
      repeat first | (with_reducible refine side_d ?_ ?_; exact byD) | (with_reducible refine side_q ?_ ?_; exact byQ)
      intro t12 e12
      (try replace e12 := w64 e12 (by omega) (by omega))
      repeat first | (with_reducible refine side_d ?_ ?_; exact byD) | (with_reducible refine side_q ?_ ?_; exact byQ)
      have hx : t26 = openW (l.take (i + 1)) who := by
        rw [openW, foldl_take _ _ _ default (by omega), e26, if_pos h19]; rfl
      refine rnd_next (i + 1) (by omega) (by first | omega | (dsimp only; omega)) byC
    ·
      (try simp only [go_sem] at h19)
      refine cx_skip ?_
      (try simp only [go_sem])
      refine cx_region ?_
      simp only [go_sem]
      repeat first | (with_reducible refine side_d ?_ ?_; exact byD) | (with_reducible refine side_q ?_ ?_; exact byQ)
      intro t12 e12
      (try replace e12 := w64 e12 (by omega) (by omega))
      repeat first | (with_reducible refine side_d ?_ ?_; exact byD) | (with_reducible refine side_q ?_ ?_; exact byQ)
      have hx : openW (l.take i) who = openW (l.take (i + 1)) who := by
        rw [openW, openW, foldl_take _ _ _ default (by omega), if_neg h19]
      refine rnd_next (i + 1) (by omega) (by first | omega | (dsimp only; omega)) byC
  ·
    (try simp only [go_sem] at h10)
    refine cx_exit ?_
    simp only [go_sem]
    refine cx_sr ?_
    simp only [go_sem]
    repeat first | (with_reducible refine side_d ?_ ?_; exact byD) | (with_reducible refine side_q ?_ ?_; exact byQ)
    refine cx_ret ?_
    simp only [go_sem]
    refine finw_int ?_
    rw [List.take_of_length_le (by omega)]
theorem RChk1_c (n a b : Int) : Meets Try.prog 52 [.int .i64 n, .int .i64 a, .int .i64 b] (.bool (within n a b)) [] := by
  refine meets_x (fn := Try.f52) Try.func52 rfl fb52 (by kernel_rfl) (Nat.le_of_ble_eq_true rfl) ?_
  refine cx_sr ?_
  simp only [go_sem]
  repeat first | (with_reducible refine side_d ?_ ?_; exact byD) | (with_reducible refine side_q ?_ ?_; exact byQ)
  refine cx_sr ?_
  simp only [go_sem]
  repeat first | (with_reducible refine side_d ?_ ?_; exact byD) | (with_reducible refine side_q ?_ ?_; exact byQ)
  intro t9 e9
  repeat first | (with_reducible refine side_d ?_ ?_; exact byD) | (with_reducible refine side_q ?_ ?_; exact byQ)
  intro t13 e13
  repeat first | (with_reducible refine side_d ?_ ?_; exact byD) | (with_reducible refine side_q ?_ ?_; exact byQ)
  intro t14 e14
  rw [bsel_and] at e14
  repeat first | (with_reducible refine side_d ?_ ?_; exact byD) | (with_reducible refine side_q ?_ ?_; exact byQ)
  subst e9 e13 e14
  refine cx_ret ?_
  simp only [go_sem]
  exact finw_bool rfl
theorem RCheck_c (u : Uploads) (hl : u.ss.length < 4611686018427387904) (hw : ∀ s ∈ u.ss, s.who.length < 4611686018427387904) : Meets Try.prog 24 [u.enc] (.int .i64 (checkU u)) [] := by
  refine meets_x (fn := Try.f24) Try.func24 rfl fb24 (by kernel_rfl) (Nat.le_of_ble_eq_true rfl) ?_
  refine cx_sr ?_
  simp only [go_sem]
  repeat first | (with_reducible refine side_d ?_ ?_; exact byD) | (with_reducible refine side_q ?_ ?_; exact byQ)
  refine cx_sr ?_
  simp only [go_sem]
  repeat first | (with_reducible refine side_d ?_ ?_; exact byD) | (with_reducible refine side_q ?_ ?_; exact byQ)
  refine cx_seq ?_
  refine cx_sr ?_
  simp only [go_sem]
  repeat first | (with_reducible refine side_d ?_ ?_; exact byD) | (with_reducible refine side_q ?_ ?_; exact byQ)
  refine cw_m (RChk1_c _ _ _) byW byT ?_
  simp only [go_sem]
  repeat first | (with_reducible refine side_d ?_ ?_; exact byD) | (with_reducible refine side_q ?_ ?_; exact byQ)
  intro t12 e12
  repeat first | (with_reducible refine side_d ?_ ?_; exact byD) | (with_reducible refine side_q ?_ ?_; exact byQ)
  refine ⟨_, fun hp => cw_m (RChk1_c _ _ _) byW byT ⟨rfl, rfl⟩, ?_⟩
  simp only [go_sem]
  repeat first | (with_reducible refine side_d ?_ ?_; exact byD) | (with_reducible refine side_q ?_ ?_; exact byQ)
  intro t18 e18
  repeat first | (with_reducible refine side_d ?_ ?_; exact byD) | (with_reducible refine side_q ?_ ?_; exact byQ)
  intro t19 e19
  rw [bsel_or] at e19
  repeat first | (with_reducible refine side_d ?_ ?_; exact byD) | (with_reducible refine side_q ?_ ?_; exact byQ)
  refine ⟨_, fun hp => cw_m (RChk1_c _ _ _) byW byT ⟨rfl, rfl⟩, ?_⟩
  simp only [go_sem]
  repeat first | (with_reducible refine side_d ?_ ?_; exact byD) | (with_reducible refine side_q ?_ ?_; exact byQ)
  intro t25 e25
  repeat first | (with_reducible refine side_d ?_ ?_; exact byD) | (with_reducible refine side_q ?_ ?_; exact byQ)
  intro t26 e26
  rw [bsel_or] at e26
  repeat first | (with_reducible refine side_d ?_ ?_; exact byD) | (with_reducible refine side_q ?_ ?_; exact byQ)
  subst e12 e18 e19 e25 e26
  refine cx_if _ rfl (fun h26 => ?_) (fun h26 => ?_)
  ·
    (try simp only [go_sem] at h26)
    refine cx_sr ?_
    simp only [go_sem]
    repeat first | (with_reducible refine side_d ?_ ?_; exact byD) | (with_reducible refine side_q ?_ ?_; exact byQ)
    refine cx_ret ?_
    simp only [go_sem]
    refine finw_int ?_
    rcases h26 with (h | h) | h <;> simp [checkU, h]
  ·
    (try simp only [go_sem] at h26)
    refine cx_skip ?_
    (try simp only [go_sem])
    refine cx_seq ?_
    refine cx_sr ?_
    simp only [go_sem]
    repeat first | (with_reducible refine side_d ?_ ?_; exact byD) | (with_reducible refine side_q ?_ ?_; exact byQ)
    intro t30 e30
    repeat first | (with_reducible refine side_d ?_ ?_; exact byD) | (with_reducible refine side_q ?_ ?_; exact byQ)
    subst e30
    refine cx_if _ rfl (fun h30 => ?_) (fun h30 => ?_)
    ·
      (try simp only [go_sem] at h30)
      refine cx_sr ?_
      simp only [go_sem]
      repeat first | (with_reducible refine side_d ?_ ?_; exact byD) | (with_reducible refine side_q ?_ ?_; exact byQ)
      refine cx_ret ?_
      simp only [go_sem]
      refine finw_int ?_
      simp [checkU, h26, h30]
    ·
      (try simp only [go_sem] at h30)
      refine cx_skip ?_
      (try simp only [go_sem])
      refine cx_seq ?_
      refine cx_sr ?_
      simp only [go_sem]
      repeat first | (with_reducible refine side_d ?_ ?_; exact byD) | (with_reducible refine side_q ?_ ?_; exact byQ)
      refine cx_block ?_
      refine cx_loop0 (σ := Nat) (fun i => i ≤ u.ss.length ∧ ∀ j, j < i → sessErr u (u.ss.getD j default) = 0) (fun i => [⟨4, 0, [], .int .i64 (i : Nat)⟩]) [1, 3] (fun i => u.ss.length - i) 0 ⟨Nat.zero_le _, fun j hj => absurd hj (Nat.not_lt_zero j)⟩ (Nat.zero_le _) byC (fun i hI1 => ?_)
      simp only [go_sem]
      refine cx_seq ?_
      refine cx_sr ?_
      simp only [go_sem]
      repeat first | (with_reducible refine side_d ?_ ?_; exact byD) | (with_reducible refine side_q ?_ ?_; exact byQ)
      intro t35 e35
      repeat first | (with_reducible refine side_d ?_ ?_; exact byD) | (with_reducible refine side_q ?_ ?_; exact byQ)
      subst e35
      refine cx_if _ rfl (fun h35 => ?_) (fun h35 => ?_)
      ·
        (try simp only [go_sem] at h35)
        refine cx_skip ?_
        (try simp only [go_sem])
        refine cx_seq (cx_block ?_)
        refine cx_sr ?_
        simp only [go_sem]
        repeat first | (with_reducible refine side_d ?_ ?_; exact byD) | (with_reducible refine side_q ?_ ?_; exact byQ)
        refine cx_block ?_
        refine cx_seq ?_
        refine cx_sr ?_
        simp only [go_sem]
        repeat first | (with_reducible refine side_d ?_ ?_; exact byD) | (with_reducible refine side_q ?_ ?_; exact byQ)
        intro t49 e49
        (try replace e49 := w64 e49 (by omega) (by omega))
        repeat first | (with_reducible refine side_d ?_ ?_; exact byD) | (with_reducible refine side_q ?_ ?_; exact byQ)
        refine cw_m (RChk1_c _ _ _) byW byT ?_
        simp only [go_sem]
        repeat first | (with_reducible refine side_d ?_ ?_; exact byD) | (with_reducible refine side_q ?_ ?_; exact byQ)
        intro t51 e51
        repeat first | (with_reducible refine side_d ?_ ?_; exact byD) | (with_reducible refine side_q ?_ ?_; exact byQ)
        subst e51
        refine cx_if _ rfl (fun h43 => ?_) (fun h43 => ?_)
        ·
          (try simp only [go_sem] at h43)
          refine cx_skip ?_
          (try simp only [go_sem])
          refine cx_if _ rfl (fun h43b => ?_) (fun h43b => no_if h43b)
          refine cx_sr ?_
          simp only [go_sem]
          repeat first | (with_reducible refine side_d ?_ ?_; exact byD) | (with_reducible refine side_q ?_ ?_; exact byQ)
          refine cx_ret ?_
          simp only [go_sem]
          subst e49
          have hk : sessErr u (u.ss.getD i default) = 3 := if_pos (by rw [h43]; simp)
          refine finw_int ?_
          have hf := firstErr_at (f := sessErr u) (i := i) (by omega) hI1.2 (by rw [hk]; simp)
          rw [checkU, if_neg (by simp [h26]), if_neg h30, hf, hk, if_pos (by simp)]
        ·
          (try simp only [go_sem] at h43)
          refine cx_sr ?_
          simp only [go_sem]
          repeat first | (with_reducible refine side_d ?_ ?_; exact byD) | (with_reducible refine side_q ?_ ?_; exact byQ)
          refine cw_m (RChk1_c _ _ _) byW byT ?_
          simp only [go_sem]
          repeat first | (with_reducible refine side_d ?_ ?_; exact byD) | (with_reducible refine side_q ?_ ?_; exact byQ)
          intro t56 e56
          repeat first | (with_reducible refine side_d ?_ ?_; exact byD) | (with_reducible refine side_q ?_ ?_; exact byQ)
          subst e56
          refine cx_if _ rfl (fun h43b => ?_) (fun h43b => ?_)
          ·
            (try simp only [go_sem] at h43b)
            refine cx_skip ?_
            (try simp only [go_sem])
            refine cx_if _ rfl (fun h43c => ?_) (fun h43c => no_if h43c)
            refine cx_sr ?_
            simp only [go_sem]
            repeat first | (with_reducible refine side_d ?_ ?_; exact byD) | (with_reducible refine side_q ?_ ?_; exact byQ)
            refine cx_ret ?_
            simp only [go_sem]
            have hk : sessErr u (u.ss.getD i default) = 3 := if_pos (by rw [h43b]; simp)
            refine finw_int ?_
            have hf := firstErr_at (f := sessErr u) (i := i) (by omega) hI1.2 (by rw [hk]; simp)
            rw [checkU, if_neg (by simp [h26]), if_neg h30, hf, hk, if_pos (by simp)]
          ·
            (try simp only [go_sem] at h43b)
            refine cx_region ?_
            simp only [go_sem]
            repeat first | (with_reducible refine side_d ?_ ?_; exact byD) | (with_reducible refine side_q ?_ ?_; exact byQ)
            refine cw_m (RChk1_c _ _ _) byW byT ?_
            simp only [go_sem]
            repeat first | (with_reducible refine side_d ?_ ?_; exact byD) | (with_reducible refine side_q ?_ ?_; exact byQ)
            intro t61 e61
            repeat first | (with_reducible refine side_d ?_ ?_; exact byD) | (with_reducible refine side_q ?_ ?_; exact byQ)
            subst e61
            refine cx_if _ rfl (fun h43c => ?_) (fun h43c => ?_)
            ·
              (try simp only [go_sem] at h43c)
              refine cx_sr ?_
              simp only [go_sem]
              repeat first | (with_reducible refine side_d ?_ ?_; exact byD) | (with_reducible refine side_q ?_ ?_; exact byQ)
              refine cx_ret ?_
              simp only [go_sem]
              have hk : sessErr u (u.ss.getD i default) = 3 := if_pos (by rw [h43c]; simp)
              refine finw_int ?_
              have hf := firstErr_at (f := sessErr u) (i := i) (by omega) hI1.2 (by rw [hk]; simp)
              rw [checkU, if_neg (by simp [h26]), if_neg h30, hf, hk, if_pos (by simp)]
            ·
              (try simp only [go_sem] at h43c)
              refine cx_sr ?_
              simp only [go_sem]
              repeat first | (with_reducible refine side_d ?_ ?_; exact byD) | (with_reducible refine side_q ?_ ?_; exact byQ)
              refine cw_m (RIsName_c (u.ss.getD i default).who (hw _ (getD_mem (by omega)))) byW byT ?_
              simp only [go_sem]
              repeat first | (with_reducible refine side_d ?_ ?_; exact byD) | (with_reducible refine side_q ?_ ?_; exact byQ)
              intro t66 e66
              repeat first | (with_reducible refine side_d ?_ ?_; exact byD) | (with_reducible refine side_q ?_ ?_; exact byQ)
              subst e66
              refine cx_if _ rfl (fun h62 => ?_) (fun h62 => ?_)
              ·
                (try simp only [go_sem] at h62)
                refine cx_sr ?_
                simp only [go_sem]
                repeat first | (with_reducible refine side_d ?_ ?_; exact byD) | (with_reducible refine side_q ?_ ?_; exact byQ)
                refine cx_ret ?_
                simp only [go_sem]
                subst e49
                have hk : sessErr u (u.ss.getD i default) = 1 := by rw [sessErr, if_neg (by simp only [wrap]; rw [h43, h43b, h43c]; simp), if_pos h62]
                refine finw_int ?_
                have hf := firstErr_at (f := sessErr u) (i := i) (by omega) hI1.2 (by rw [hk]; simp)
                rw [checkU, if_neg (by simp [h26]), if_neg h30, hf, hk, if_pos (by simp)]
              ·
                (try simp only [go_sem] at h62)
                refine cx_sr ?_
                simp only [go_sem]
                repeat first | (with_reducible refine side_d ?_ ?_; exact byD) | (with_reducible refine side_q ?_ ?_; exact byQ)
                intro t73 e73
                repeat first | (with_reducible refine side_d ?_ ?_; exact byD) | (with_reducible refine side_q ?_ ?_; exact byQ)
                subst e73
                refine cx_if _ rfl (fun h67 => ?_) (fun h67 => ?_)
                ·
                  (try simp only [go_sem] at h67)
                  refine cx_sr ?_
                  simp only [go_sem]
                  repeat first | (with_reducible refine side_d ?_ ?_; exact byD) | (with_reducible refine side_q ?_ ?_; exact byQ)
                  refine cx_ret ?_
                  simp only [go_sem]
                  subst e49
                  have hk : sessErr u (u.ss.getD i default) = 2 := by rw [sessErr, if_neg (by simp only [wrap]; rw [h43, h43b, h43c]; simp), if_neg (by rw [h62]; simp), if_pos h67]
                  refine finw_int ?_
                  have hf := firstErr_at (f := sessErr u) (i := i) (by omega) hI1.2 (by rw [hk]; simp)
                  rw [checkU, if_neg (by simp [h26]), if_neg h30, hf, hk, if_pos (by simp)]
                ·
                  (try simp only [go_sem] at h67)
                  refine cx_skip ?_
                  (try simp only [go_sem])
                  refine cx_region ?_
                  simp only [go_sem]
                  repeat first | (with_reducible refine side_d ?_ ?_; exact byD) | (with_reducible refine side_q ?_ ?_; exact byQ)
                  intro t37 e37
                  (try replace e37 := w64 e37 (by omega) (by omega))
                  repeat first | (with_reducible refine side_d ?_ ?_; exact byD) | (with_reducible refine side_q ?_ ?_; exact byQ)
                  subst e49
                  have hk : sessErr u (u.ss.getD i default) = 0 := by
                    rw [sessErr, if_neg (by simp only [wrap]; rw [h43, h43b, h43c]; simp), if_neg (by rw [h62]; simp), if_neg h67]
                  refine rnd_next (i + 1) ⟨by omega, all_next hI1.2 hk⟩ (by first | omega | (dsimp only; omega)) byC
      ·
        (try simp only [go_sem] at h35)
        have hf := firstErr_none (f := sessErr u) (l := u.ss) (d := default) fun j hj => hI1.2 j (by omega)
        refine cx_exit ?_
        simp only [go_sem]
        refine cx_seq ?_
        refine cx_sr ?_
        simp only [go_sem]
        repeat first | (with_reducible refine side_d ?_ ?_; exact byD) | (with_reducible refine side_q ?_ ?_; exact byQ)
        refine cx_block ?_
        refine cx_loop0 (σ := Nat) (fun i => 1 ≤ i ∧ (i = 1 ∨ i ≤ u.ss.length) ∧ ∀ j, 1 ≤ j → j < i → risesAt u.ss j = true) (fun i => [⟨6, 0, [], .int .i64 (i : Nat)⟩]) [1] (fun i => u.ss.length - i) 1 ⟨Nat.le_refl _, .inl rfl, fun j hj hj' => by omega⟩ (Nat.zero_le _) byC (fun i hI2 => ?_)
        simp only [go_sem]
        refine cx_seq ?_
        refine cx_sr ?_
        simp only [go_sem]
        repeat first | (with_reducible refine side_d ?_ ?_; exact byD) | (with_reducible refine side_q ?_ ?_; exact byQ)
        intro t78 e78
        repeat first | (with_reducible refine side_d ?_ ?_; exact byD) | (with_reducible refine side_q ?_ ?_; exact byQ)
        subst e78
        refine cx_if _ rfl (fun h78 => ?_) (fun h78 => ?_)
        ·
          (try simp only [go_sem] at h78)
          refine cx_skip ?_
          (try simp only [go_sem])
          refine cx_seq (cx_block ?_)
          refine cx_seq (cx_draw mixed [] (.first 0 (.first 1 (.first 2 (.first 3 (.first 4 (.first 5 (.first 6 (.first 7 (.first 8 (.first 9 (.first 10 (.first 11 (.first 12 (.first 13 (.done))))))))))))))) (by kernel_rfl) ?_)
          simp only [go_sem]
          repeat first | (with_reducible refine side_d ?_ ?_; exact byD) | (with_reducible refine side_q ?_ ?_; exact byQ)
          intro t90 e90
          (try replace e90 := w64 e90 (by omega) (by omega))
          repeat first | (with_reducible refine side_d ?_ ?_; exact byD) | (with_reducible refine side_q ?_ ?_; exact byQ)
          intro t94 e94
          repeat first | (with_reducible refine side_d ?_ ?_; exact byD) | (with_reducible refine side_q ?_ ?_; exact byQ)
          subst e94
          refine cx_if _ rfl (fun h94 => ?_) (fun h94 => ?_)
          ·
            (try simp only [go_sem] at h94)
            refine cx_sr ?_
            simp only [go_sem]
            repeat first | (with_reducible refine side_d ?_ ?_; exact byD) | (with_reducible refine side_q ?_ ?_; exact byQ)
            refine cx_ret ?_
            simp only [go_sem]
            refine finw_int ?_
            have hk : ((i : Int) - 1).toNat = i - 1 := by omega
            subst e90
            rw [hk] at h94
            have hr : ((List.range u.ss.length).all fun i => i = 0 || risesAt u.ss i) = false := range_all_false (i := i) (by omega) (by
              have : ¬ i = 0 := by omega
              simp only [this, decide_false, Bool.false_or, risesAt, decide_eq_false_iff_not]; omega)
            rw [checkU, if_neg (by simp [h26]), if_neg h30, hf, if_neg (by simp), hr, if_pos rfl]
          ·
            (try simp only [go_sem] at h94)
            refine cx_skip ?_
            (try simp only [go_sem])
            refine cx_region ?_
            simp only [go_sem]
            repeat first | (with_reducible refine side_d ?_ ?_; exact byD) | (with_reducible refine side_q ?_ ?_; exact byQ)
            intro t80 e80
            (try replace e80 := w64 e80 (by omega) (by omega))
            repeat first | (with_reducible refine side_d ?_ ?_; exact byD) | (with_reducible refine side_q ?_ ?_; exact byQ)
            have hk : ((i : Int) - 1).toNat = i - 1 := by omega
            subst e90
            rw [hk] at h94
            refine rnd_next (i + 1) ⟨by omega, by omega, fun j h1 hj => ?_⟩ (by first | omega | (dsimp only; omega)) byC
            exact all_next (p := fun j => 1 ≤ j → risesAt u.ss j = true) (fun j hj h1 => hI2.2.2 j h1 hj) (fun _ => by simp only [risesAt, decide_eq_true_eq]; omega) j hj h1
        ·
          (try simp only [go_sem] at h78)
          have hr : ((List.range u.ss.length).all fun i => i = 0 || risesAt u.ss i) = true := range_all_true fun j hj => by
            by_cases h0 : j = 0
            · simp [h0]
            · simp [hI2.2.2 j (by omega) (by omega)]
          refine cx_exit ?_
          simp only [go_sem]
          refine cx_seq ?_
          refine cx_sr ?_
          simp only [go_sem]
          repeat first | (with_reducible refine side_d ?_ ?_; exact byD) | (with_reducible refine side_q ?_ ?_; exact byQ)
          refine cx_block ?_
          refine cx_loop0 (σ := Nat) (fun i => i ≤ u.ss.length ∧ ∀ j, j < i → openW u.ss (u.ss.getD j default).who ≤ u.room) (fun i => [⟨7, 0, [], .int .i64 (i : Nat)⟩]) [1] (fun i => u.ss.length - i) 0 ⟨Nat.zero_le _, fun j hj => absurd hj (Nat.not_lt_zero j)⟩ (Nat.zero_le _) byC (fun i hI3 => ?_)
          simp only [go_sem]
          refine cx_seq ?_
          refine cx_sr ?_
          simp only [go_sem]
          repeat first | (with_reducible refine side_d ?_ ?_; exact byD) | (with_reducible refine side_q ?_ ?_; exact byQ)
          intro t99 e99
          repeat first | (with_reducible refine side_d ?_ ?_; exact byD) | (with_reducible refine side_q ?_ ?_; exact byQ)
          subst e99
          refine cx_if _ rfl (fun h99 => ?_) (fun h99 => ?_)
          ·
            (try simp only [go_sem] at h99)
            refine cx_skip ?_
            (try simp only [go_sem])
            refine cx_seq (cx_block ?_)
            refine cx_seq (cx_draw mixed [] (.first 0 (.first 1 (.first 2 (.first 3 (.first 4 (.first 5 (.first 6 (.first 7 (.first 9 (.first 10 (.one 8 (.first 11 (.done))))))))))))) (by kernel_rfl) ?_)
            simp only [go_sem]
            repeat first | (with_reducible refine side_d ?_ ?_; exact byD) | (with_reducible refine side_q ?_ ?_; exact byQ)
            refine cwE_m (OpenOf_c u.ss _ hl) byW byT ?_
            simp only [go_sem]
            repeat first | (with_reducible refine side_d ?_ ?_; exact byD) | (with_reducible refine side_q ?_ ?_; exact byQ)
            intro t113 e113
            repeat first | (with_reducible refine side_d ?_ ?_; exact byD) | (with_reducible refine side_q ?_ ?_; exact byQ)
            subst e113
            refine cx_if _ rfl (fun h113 => ?_) (fun h113 => ?_)
            ·
              (try simp only [go_sem] at h113)
              refine cx_sr ?_
              simp only [go_sem]
              repeat first | (with_reducible refine side_d ?_ ?_; exact byD) | (with_reducible refine side_q ?_ ?_; exact byQ)
              refine cx_ret ?_
              simp only [go_sem]
              refine finw_int ?_
              have ho : (u.ss.all fun s => decide (openW u.ss s.who ≤ u.room)) = false := all_at (d := default) (i := i) (by omega) (by simp only [decide_eq_false_iff_not]; omega)
              rw [checkU, if_neg (by simp [h26]), if_neg h30, hf, if_neg (by simp), hr, if_neg (by simp), ho, if_pos rfl]
            ·
              (try simp only [go_sem] at h113)
              refine cx_skip ?_
              (try simp only [go_sem])
              refine cx_region ?_
              simp only [go_sem]
              repeat first | (with_reducible refine side_d ?_ ?_; exact byD) | (with_reducible refine side_q ?_ ?_; exact byQ)
              intro t101 e101
              (try replace e101 := w64 e101 (by omega) (by omega))
              repeat first | (with_reducible refine side_d ?_ ?_; exact byD) | (with_reducible refine side_q ?_ ?_; exact byQ)
              refine rnd_next (i + 1) ⟨by omega, all_next hI3.2 (by omega)⟩ (by first | omega | (dsimp only; omega)) byC
          ·
            (try simp only [go_sem] at h99)
            refine cx_exit ?_
            simp only [go_sem]
            refine cx_sr ?_
            simp only [go_sem]
            repeat first | (with_reducible refine side_d ?_ ?_; exact byD) | (with_reducible refine side_q ?_ ?_; exact byQ)
            refine cx_ret ?_
            simp only [go_sem]
            refine finw_int ?_
            have ho : (u.ss.all fun s => decide (openW u.ss s.who ≤ u.room)) = true := all_of (d := default) fun j hj => by simpa using hI3.2 j (by omega)
            rw [checkU, if_neg (by simp [h26]), if_neg h30, hf, if_neg (by simp), hr, if_neg (by simp), ho, if_neg (by simp)]
end Go.VM.Try
end
