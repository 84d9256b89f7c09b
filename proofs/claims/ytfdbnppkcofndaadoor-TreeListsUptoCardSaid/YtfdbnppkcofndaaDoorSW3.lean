import Derived.Test.YtfdbnppkcofndaaDoorSW2
section
set_option linter.unusedVariables false
set_option linter.unusedSimpArgs false
open Go Go.VM Go.Proofs Tether
namespace Go.VM.Tryd
set_option maxRecDepth 100000
def formP (c : Change) : Int :=
  if c.kind < 1 ∨ 4 < c.kind then 7 else if checkP [c.path] ≠ 0 then checkP [c.path] else if c.kind = 3 ∧ checkP [c.to] ≠ 0 then checkP [c.to]
  else if (c.kind ≠ 3 ∧ c.to ≠ []) ∨ (c.kind ≠ 2 ∧ c.text ≠ []) then 1 else if 300 < (c.text.length : Int) then 2 else if c.base < -1 ∨ 1000000 < c.base then 3 else 0
def okC (c : Change) : Prop := c.path.length ≤ 1048576 ∧ c.to.length ≤ 1048576 ∧ c.text.length ≤ 1048576
theorem form_c (c : Change) (ok : okC c) : Meets Tryd.prog 68 [.agg c.enc] (.int .i64 (formP c)) [] := by
  refine meets_x (fn := Tryd.f68) Tryd.func68 rfl fb68 (by kernel_rfl) (Nat.le_of_ble_eq_true rfl) ?_
  obtain ⟨ok1, ok2, ok3⟩ := ok
  refine cx_sr ?_
  simp only [go_sem]
  repeat first | (with_reducible refine side_d ?_ ?_; exact byD) | (with_reducible refine side_q ?_ ?_; exact byQ)
  refine cx_seq ?_
  refine cx_sr ?_
  simp only [go_sem]
  repeat first | (with_reducible refine side_d ?_ ?_; exact byD) | (with_reducible refine side_q ?_ ?_; exact byQ)
  intro t7 e7
  repeat first | (with_reducible refine side_d ?_ ?_; exact byD) | (with_reducible refine side_q ?_ ?_; exact byQ)
  intro t11 e11
  repeat first | (with_reducible refine side_d ?_ ?_; exact byD) | (with_reducible refine side_q ?_ ?_; exact byQ)
  intro t12 e12
  rw [bsel_or] at e12
  repeat first | (with_reducible refine side_d ?_ ?_; exact byD) | (with_reducible refine side_q ?_ ?_; exact byQ)
  subst e7 e11 e12
  refine cx_if _ rfl (fun h12 => ?_) (fun h12 => ?_)
  ·
    (try simp only [go_sem] at h12)
    refine cx_sr ?_
    simp only [go_sem]
    repeat first | (with_reducible refine side_d ?_ ?_; exact byD) | (with_reducible refine side_q ?_ ?_; exact byQ)
    refine cx_ret ?_
    simp only [go_sem]
    refine finw_int ?_
    unfold formP
    grind
  ·
    (try simp only [go_sem] at h12)
    refine cx_skip ?_
    (try simp only [go_sem])
    refine cx_seq ?_
    refine cx_sr ?_
    simp only [go_sem]
    repeat first | (with_reducible refine side_d ?_ ?_; exact byD) | (with_reducible refine side_q ?_ ?_; exact byQ)
    refine cw_m (Check_c c.path (by omega)) byW byT ?_
    simp only [go_sem]
    repeat first | (with_reducible refine side_d ?_ ?_; exact byD) | (with_reducible refine side_q ?_ ?_; exact byQ)
    refine cx_sr ?_
    simp only [go_sem]
    repeat first | (with_reducible refine side_d ?_ ?_; exact byD) | (with_reducible refine side_q ?_ ?_; exact byQ)
    intro t17 e17
    repeat first | (with_reducible refine side_d ?_ ?_; exact byD) | (with_reducible refine side_q ?_ ?_; exact byQ)
    subst e17
    refine cx_if _ rfl (fun h17 => ?_) (fun h17 => ?_)
    ·
      (try simp only [go_sem] at h17)
      refine cx_sr ?_
      simp only [go_sem]
      repeat first | (with_reducible refine side_d ?_ ?_; exact byD) | (with_reducible refine side_q ?_ ?_; exact byQ)
      refine cx_ret ?_
      simp only [go_sem]
      refine finw_int ?_
      unfold formP
      grind
    ·
      (try simp only [go_sem] at h17)
      refine cx_skip ?_
      (try simp only [go_sem])
      refine cx_seq ?_
      refine cx_sr ?_
      simp only [go_sem]
      repeat first | (with_reducible refine side_d ?_ ?_; exact byD) | (with_reducible refine side_q ?_ ?_; exact byQ)
      intro t21 e21
      repeat first | (with_reducible refine side_d ?_ ?_; exact byD) | (with_reducible refine side_q ?_ ?_; exact byQ)
      subst e21
      refine cx_if _ rfl (fun h21 => ?_) (fun h21 => ?_)
      ·
        (try simp only [go_sem] at h21)
        refine cx_sr ?_
        simp only [go_sem]
        repeat first | (with_reducible refine side_d ?_ ?_; exact byD) | (with_reducible refine side_q ?_ ?_; exact byQ)
        refine cw_m (Check_c c.to (by omega)) byW byT ?_
        simp only [go_sem]
        repeat first | (with_reducible refine side_d ?_ ?_; exact byD) | (with_reducible refine side_q ?_ ?_; exact byQ)
        refine cx_sr ?_
        simp only [go_sem]
        repeat first | (with_reducible refine side_d ?_ ?_; exact byD) | (with_reducible refine side_q ?_ ?_; exact byQ)
        intro t26 e26
        repeat first | (with_reducible refine side_d ?_ ?_; exact byD) | (with_reducible refine side_q ?_ ?_; exact byQ)
        subst e26
        refine cx_if _ rfl (fun h26 => ?_) (fun h26 => ?_)
        ·
          (try simp only [go_sem] at h26)
          refine cx_sr ?_
          simp only [go_sem]
          repeat first | (with_reducible refine side_d ?_ ?_; exact byD) | (with_reducible refine side_q ?_ ?_; exact byQ)
          refine cx_ret ?_
          simp only [go_sem]
          refine finw_int ?_
          unfold formP
          grind
        ·
          (try simp only [go_sem] at h26)
          refine cx_skip ?_
          (try simp only [go_sem])
          refine cx_seq (cx_block ?_)
          refine cx_sr ?_
          simp only [go_sem]
          repeat first | (with_reducible refine side_d ?_ ?_; exact byD) | (with_reducible refine side_q ?_ ?_; exact byQ)
          intro t31 e31
          repeat first | (with_reducible refine side_d ?_ ?_; exact byD) | (with_reducible refine side_q ?_ ?_; exact byQ)
          intro t35 e35
          repeat first | (with_reducible refine side_d ?_ ?_; exact byD) | (with_reducible refine side_q ?_ ?_; exact byQ)
          intro t36 e36
          rw [bsel_and] at e36
          repeat first | (with_reducible refine side_d ?_ ?_; exact byD) | (with_reducible refine side_q ?_ ?_; exact byQ)
          intro t40 e40
          repeat first | (with_reducible refine side_d ?_ ?_; exact byD) | (with_reducible refine side_q ?_ ?_; exact byQ)
          intro t44 e44
          repeat first | (with_reducible refine side_d ?_ ?_; exact byD) | (with_reducible refine side_q ?_ ?_; exact byQ)
          intro t45 e45
          rw [bsel_and] at e45
          repeat first | (with_reducible refine side_d ?_ ?_; exact byD) | (with_reducible refine side_q ?_ ?_; exact byQ)
          intro t46 e46
          rw [bsel_or] at e46
          repeat first | (with_reducible refine side_d ?_ ?_; exact byD) | (with_reducible refine side_q ?_ ?_; exact byQ)
          subst e31 e35 e36 e40 e44 e45 e46
          refine cx_if _ rfl (fun h28 => ?_) (fun h28 => ?_)
          ·
            (try simp only [go_sem] at h28)
            refine cx_sr ?_
            simp only [go_sem]
            repeat first | (with_reducible refine side_d ?_ ?_; exact byD) | (with_reducible refine side_q ?_ ?_; exact byQ)
            refine cx_ret ?_
            simp only [go_sem]
            refine finw_int ?_
            unfold formP
            grind
          ·
            (try simp only [go_sem] at h28)
            refine cx_sr ?_
            simp only [go_sem]
            repeat first | (with_reducible refine side_d ?_ ?_; exact byD) | (with_reducible refine side_q ?_ ?_; exact byQ)
            intro t51 e51
            repeat first | (with_reducible refine side_d ?_ ?_; exact byD) | (with_reducible refine side_q ?_ ?_; exact byQ)
            subst e51
            refine cx_if _ rfl (fun h47 => ?_) (fun h47 => ?_)
            ·
              (try simp only [go_sem] at h47)
              refine cx_sr ?_
              simp only [go_sem]
              repeat first | (with_reducible refine side_d ?_ ?_; exact byD) | (with_reducible refine side_q ?_ ?_; exact byQ)
              refine cx_ret ?_
              simp only [go_sem]
              refine finw_int ?_
              unfold formP
              grind
            ·
              (try simp only [go_sem] at h47)
              refine cx_sr ?_
              simp only [go_sem]
              repeat first | (with_reducible refine side_d ?_ ?_; exact byD) | (with_reducible refine side_q ?_ ?_; exact byQ)
              intro t55 e55
              repeat first | (with_reducible refine side_d ?_ ?_; exact byD) | (with_reducible refine side_q ?_ ?_; exact byQ)
              intro t59 e59
              repeat first | (with_reducible refine side_d ?_ ?_; exact byD) | (with_reducible refine side_q ?_ ?_; exact byQ)
              intro t60 e60
              rw [bsel_or] at e60
              repeat first | (with_reducible refine side_d ?_ ?_; exact byD) | (with_reducible refine side_q ?_ ?_; exact byQ)
              subst e55 e59 e60
              refine cx_if _ rfl (fun h52 => ?_) (fun h52 => ?_)
              ·
                (try simp only [go_sem] at h52)
                refine cx_sr ?_
                simp only [go_sem]
                repeat first | (with_reducible refine side_d ?_ ?_; exact byD) | (with_reducible refine side_q ?_ ?_; exact byQ)
                refine cx_ret ?_
                simp only [go_sem]
                refine finw_int ?_
                unfold formP
                grind
              ·
                (try simp only [go_sem] at h52)
                refine cx_skip ?_
                (try simp only [go_sem])
                refine cx_sr ?_
                simp only [go_sem]
                repeat first | (with_reducible refine side_d ?_ ?_; exact byD) | (with_reducible refine side_q ?_ ?_; exact byQ)
                refine cx_ret ?_
                simp only [go_sem]
                refine finw_int ?_
                unfold formP
                grind
      ·
        (try simp only [go_sem] at h21)
        refine cx_skip ?_
        (try simp only [go_sem])
        refine cx_seq (cx_block ?_)
        refine cx_sr ?_
        simp only [go_sem]
        repeat first | (with_reducible refine side_d ?_ ?_; exact byD) | (with_reducible refine side_q ?_ ?_; exact byQ)
        intro t31 e31
        repeat first | (with_reducible refine side_d ?_ ?_; exact byD) | (with_reducible refine side_q ?_ ?_; exact byQ)
        intro t35 e35
        repeat first | (with_reducible refine side_d ?_ ?_; exact byD) | (with_reducible refine side_q ?_ ?_; exact byQ)
        intro t36 e36
        rw [bsel_and] at e36
        repeat first | (with_reducible refine side_d ?_ ?_; exact byD) | (with_reducible refine side_q ?_ ?_; exact byQ)
        intro t40 e40
        repeat first | (with_reducible refine side_d ?_ ?_; exact byD) | (with_reducible refine side_q ?_ ?_; exact byQ)
        intro t44 e44
        repeat first | (with_reducible refine side_d ?_ ?_; exact byD) | (with_reducible refine side_q ?_ ?_; exact byQ)
        intro t45 e45
        rw [bsel_and] at e45
        repeat first | (with_reducible refine side_d ?_ ?_; exact byD) | (with_reducible refine side_q ?_ ?_; exact byQ)
        intro t46 e46
        rw [bsel_or] at e46
        repeat first | (with_reducible refine side_d ?_ ?_; exact byD) | (with_reducible refine side_q ?_ ?_; exact byQ)
        subst e31 e35 e36 e40 e44 e45 e46
        refine cx_if _ rfl (fun h28 => ?_) (fun h28 => ?_)
        ·
          (try simp only [go_sem] at h28)
          refine cx_sr ?_
          simp only [go_sem]
          repeat first | (with_reducible refine side_d ?_ ?_; exact byD) | (with_reducible refine side_q ?_ ?_; exact byQ)
          refine cx_ret ?_
          simp only [go_sem]
          refine finw_int ?_
          unfold formP
          grind
        ·
          (try simp only [go_sem] at h28)
          refine cx_sr ?_
          simp only [go_sem]
          repeat first | (with_reducible refine side_d ?_ ?_; exact byD) | (with_reducible refine side_q ?_ ?_; exact byQ)
          intro t51 e51
          repeat first | (with_reducible refine side_d ?_ ?_; exact byD) | (with_reducible refine side_q ?_ ?_; exact byQ)
          subst e51
          refine cx_if _ rfl (fun h47 => ?_) (fun h47 => ?_)
          ·
            (try simp only [go_sem] at h47)
            refine cx_sr ?_
            simp only [go_sem]
            repeat first | (with_reducible refine side_d ?_ ?_; exact byD) | (with_reducible refine side_q ?_ ?_; exact byQ)
            refine cx_ret ?_
            simp only [go_sem]
            refine finw_int ?_
            unfold formP
            grind
          ·
            (try simp only [go_sem] at h47)
            refine cx_sr ?_
            simp only [go_sem]
            repeat first | (with_reducible refine side_d ?_ ?_; exact byD) | (with_reducible refine side_q ?_ ?_; exact byQ)
            intro t55 e55
            repeat first | (with_reducible refine side_d ?_ ?_; exact byD) | (with_reducible refine side_q ?_ ?_; exact byQ)
            intro t59 e59
            repeat first | (with_reducible refine side_d ?_ ?_; exact byD) | (with_reducible refine side_q ?_ ?_; exact byQ)
            intro t60 e60
            rw [bsel_or] at e60
            repeat first | (with_reducible refine side_d ?_ ?_; exact byD) | (with_reducible refine side_q ?_ ?_; exact byQ)
            subst e55 e59 e60
            refine cx_if _ rfl (fun h52 => ?_) (fun h52 => ?_)
            ·
              (try simp only [go_sem] at h52)
              refine cx_sr ?_
              simp only [go_sem]
              repeat first | (with_reducible refine side_d ?_ ?_; exact byD) | (with_reducible refine side_q ?_ ?_; exact byQ)
              refine cx_ret ?_
              simp only [go_sem]
              refine finw_int ?_
              unfold formP
              grind
            ·
              (try simp only [go_sem] at h52)
              refine cx_skip ?_
              (try simp only [go_sem])
              refine cx_sr ?_
              simp only [go_sem]
              repeat first | (with_reducible refine side_d ?_ ?_; exact byD) | (with_reducible refine side_q ?_ ?_; exact byQ)
              refine cx_ret ?_
              simp only [go_sem]
              refine finw_int ?_
              unfold formP
              grind
def staleB (c : Change) (x : Entry) : Bool := decide (c.base < x.version) && isIn x.path c.path
theorem stale_c (c : Change) (x : Entry) (ok : okC c) (hx : x.path.length ≤ 1048576) : Meets Tryd.prog 83 [.agg x.enc, .iptr c.enc 0] (.bool (staleB c x)) [] := by
  refine meets_x (fn := Tryd.f83) Tryd.func83 rfl fb83 (by kernel_rfl) (Nat.le_of_ble_eq_true rfl) ?_
  refine cx_sr ?_
  simp only [go_sem]
  repeat first | (with_reducible refine side_d ?_ ?_; exact byD) | (with_reducible refine side_q ?_ ?_; exact byQ)
  refine cx_sr ?_
  simp only [go_sem]
  repeat first | (with_reducible refine side_d ?_ ?_; exact byD) | (with_reducible refine side_q ?_ ?_; exact byQ)
  intro t8 e8
  repeat first | (with_reducible refine side_d ?_ ?_; exact byD) | (with_reducible refine side_q ?_ ?_; exact byQ)
  refine ⟨_, fun hp => cw_m (In_c x.path c.path (by omega) (by have := ok.1; omega)) byW byT ⟨rfl, rfl⟩, ?_⟩
  simp only [go_sem]
  repeat first | (with_reducible refine side_d ?_ ?_; exact byD) | (with_reducible refine side_q ?_ ?_; exact byQ)
  intro t15 e15
  rw [bsel_and] at e15
  repeat first | (with_reducible refine side_d ?_ ?_; exact byD) | (with_reducible refine side_q ?_ ?_; exact byQ)
  subst e8 e15
  refine cx_ret ?_
  simp only [go_sem]
  exact finw_bool (by simp [staleB])
def goalP (c : Change) : Str := if c.kind = 3 then c.to else c.path
def mayP (l : List Entry) (c : Change) : Int :=
  if (parE l (goalP c)).2 = false then 5
  else if (parE l (goalP c)).1.folder = false then 4
  else if c.kind = 1 ∧ hasE l c.path = true then 6
  else if c.kind = 2 ∧ hasE l c.path = true ∧ (l.getD (eIx l c.path) default).folder = true then 4
  else if c.kind ≠ 1 ∧ c.kind ≠ 2 ∧ hasE l c.path = false then 5
  else if c.kind = 3 ∧ isIn c.to c.path = true then 3
  else if c.kind = 3 ∧ hasE l c.to = true then 6
  else if c.base ≠ -1 ∧ l.any (staleB c) = true then 8 else 0
theorem may_c (l : List Entry) (c : Change) (hs : SortedE l) (okl : okE l) (ok : okC c) : Meets Tryd.prog 69 [esV l, .agg c.enc] (.int .i64 (mayP l c)) [] := by
  refine meets_x (fn := Tryd.f69) Tryd.func69 rfl fb69 (by kernel_rfl) (Nat.le_of_ble_eq_true rfl) ?_
  have hl := okl.1
  obtain ⟨ok1, ok2, ok3⟩ := id ok
  have hgl : (goalP c).length ≤ 1048576 := by unfold goalP; split <;> omega
  have hix : ∀ p, hasE l p = true → eIx l p < l.length := fun p h => by simp [hasE] at h; exact h.1
  refine cx_sr ?_
  simp only [go_sem]
  repeat first | (with_reducible refine side_d ?_ ?_; exact byD) | (with_reducible refine side_q ?_ ?_; exact byQ)
  refine cx_sr ?_
  simp only [go_sem]
  repeat first | (with_reducible refine side_d ?_ ?_; exact byD) | (with_reducible refine side_q ?_ ?_; exact byQ)
  refine cx_seq ?_
  refine cx_sr ?_
  simp only [go_sem]
  repeat first | (with_reducible refine side_d ?_ ?_; exact byD) | (with_reducible refine side_q ?_ ?_; exact byQ)
  intro t17 e17
  repeat first | (with_reducible refine side_d ?_ ?_; exact byD) | (with_reducible refine side_q ?_ ?_; exact byQ)
  subst e17
  refine cx_meet0 (σ := Unit) (fun u => True) (fun u => [⟨5, 0, [], .str (goalP c)⟩]) [0, 3, 4] (Nat.zero_le _) ?_ (fun u hIM1 => ?_)
  ·
    refine cx_if _ rfl (fun h17 => ?_) (fun h17 => ?_)
    ·
      (try simp only [go_sem] at h17)
      refine cx_region ?_
      simp only [go_sem]
      repeat first | (with_reducible refine side_d ?_ ?_; exact byD) | (with_reducible refine side_q ?_ ?_; exact byQ)
      have hk : c.kind = 3 := by simpa using h17
      refine mt_next () trivial ?_
      rw [goalP, if_pos hk]
      exact byC
    ·
      (try simp only [go_sem] at h17)
      refine cx_skip ?_
      (try simp only [go_sem])
      have hk : ¬ c.kind = 3 := by simpa using h17
      refine mt_next () trivial ?_
      rw [goalP, if_neg hk]
      exact byC
  simp only [go_sem]
  refine cx_seq ?_
  refine cx_sr ?_
  simp only [go_sem]
  repeat first | (with_reducible refine side_d ?_ ?_; exact byD) | (with_reducible refine side_q ?_ ?_; exact byQ)
  refine cw_m (parent_c l (goalP c) hs (by omega) (by omega)) byW byT ?_
  simp only [go_sem]
  repeat first | (with_reducible refine side_d ?_ ?_; exact byD) | (with_reducible refine side_q ?_ ?_; exact byQ)
  refine cx_block ?_
  refine cx_sr ?_
  simp only [go_sem]
  repeat first | (with_reducible refine side_d ?_ ?_; exact byD) | (with_reducible refine side_q ?_ ?_; exact byQ)
  intro t28 e28
  repeat first | (with_reducible refine side_d ?_ ?_; exact byD) | (with_reducible refine side_q ?_ ?_; exact byQ)
  subst e28
  refine cx_if _ rfl (fun h26 => ?_) (fun h26 => ?_)
  ·
    (try simp only [go_sem] at h26)
    refine cx_sr ?_
    simp only [go_sem]
    repeat first | (with_reducible refine side_d ?_ ?_; exact byD) | (with_reducible refine side_q ?_ ?_; exact byQ)
    refine cx_ret ?_
    simp only [go_sem]
    refine finw_int ?_
    unfold mayP
    grind
  ·
    (try simp only [go_sem] at h26)
    refine cx_sr ?_
    simp only [go_sem]
    repeat first | (with_reducible refine side_d ?_ ?_; exact byD) | (with_reducible refine side_q ?_ ?_; exact byQ)
    intro t32 e32
    repeat first | (with_reducible refine side_d ?_ ?_; exact byD) | (with_reducible refine side_q ?_ ?_; exact byQ)
    subst e32
    refine cx_if _ rfl (fun h29 => ?_) (fun h29 => ?_)
    ·
      (try simp only [go_sem] at h29)
      refine cx_sr ?_
      simp only [go_sem]
      repeat first | (with_reducible refine side_d ?_ ?_; exact byD) | (with_reducible refine side_q ?_ ?_; exact byQ)
      refine cx_ret ?_
      simp only [go_sem]
      refine finw_int ?_
      unfold mayP
      grind
    ·
      (try simp only [go_sem] at h29)
      refine cx_skip ?_
      (try simp only [go_sem])
      refine cx_sr ?_
      simp only [go_sem]
      repeat first | (with_reducible refine side_d ?_ ?_; exact byD) | (with_reducible refine side_q ?_ ?_; exact byQ)
      refine cw_m (At_c l c.path hs (by omega)) byW byT ?_
      simp only [go_sem]
      repeat first | (with_reducible refine side_d ?_ ?_; exact byD) | (with_reducible refine side_q ?_ ?_; exact byQ)
      refine cx_seq ?_
      refine cx_sr ?_
      simp only [go_sem]
      repeat first | (with_reducible refine side_d ?_ ?_; exact byD) | (with_reducible refine side_q ?_ ?_; exact byQ)
      refine cx_meet0 (σ := Unit) (fun u => (c.kind = 1 → hasE l c.path = false) ∧ (c.kind = 2 → hasE l c.path = true → (l.getD (eIx l c.path) default).folder = false) ∧ (c.kind ≠ 1 → c.kind ≠ 2 → hasE l c.path = true)) (fun u => []) [0, 3] (Nat.zero_le _) ?_ (fun u hIM2 => ?_)
      ·
        refine cx_block ?_
        refine cx_sr ?_
        simp only [go_sem]
        repeat first | (with_reducible refine side_d ?_ ?_; exact byD) | (with_reducible refine side_q ?_ ?_; exact byQ)
        intro t45 e45
        repeat first | (with_reducible refine side_d ?_ ?_; exact byD) | (with_reducible refine side_q ?_ ?_; exact byQ)
        subst e45
        refine cx_if _ rfl (fun h44 => ?_) (fun h44 => ?_)
        ·
          (try simp only [go_sem] at h44)
          refine cx_sr ?_
          simp only [go_sem]
          repeat first | (with_reducible refine side_d ?_ ?_; exact byD) | (with_reducible refine side_q ?_ ?_; exact byQ)
          refine cx_if _ rfl (fun h46 => ?_) (fun h46 => ?_)
          ·
            (try simp only [go_sem] at h46)
            refine cx_sr ?_
            simp only [go_sem]
            repeat first | (with_reducible refine side_d ?_ ?_; exact byD) | (with_reducible refine side_q ?_ ?_; exact byQ)
            refine cx_ret ?_
            simp only [go_sem]
            refine finw_int ?_
            unfold mayP
            grind
          ·
            (try simp only [go_sem] at h46)
            refine cx_skip ?_
            (try simp only [go_sem])
            refine mt_next () (by grind) byC
        ·
          (try simp only [go_sem] at h44)
          refine cx_sr ?_
          simp only [go_sem]
          repeat first | (with_reducible refine side_d ?_ ?_; exact byD) | (with_reducible refine side_q ?_ ?_; exact byQ)
          intro t48 e48
          repeat first | (with_reducible refine side_d ?_ ?_; exact byD) | (with_reducible refine side_q ?_ ?_; exact byQ)
          subst e48
          refine cx_if _ rfl (fun h47 => ?_) (fun h47 => ?_)
          ·
            (try simp only [go_sem] at h47)
            refine cx_sr ?_
            simp only [go_sem]
            repeat ((with_reducible first | refine side_d ?_ ?_ | refine side_q ?_ ?_); focus (first | exact byD | exact byQ | ((refine Sd.of fun hp => ?_; simp only [pc, and_true] at hp; (have hq := hix c.path hp); omega))))
            repeat first | (with_reducible refine side_d ?_ ?_; exact byD) | (with_reducible refine side_q ?_ ?_; exact byQ)
            intro t56 e56
            rw [bsel_and] at e56
            repeat first | (with_reducible refine side_d ?_ ?_; exact byD) | (with_reducible refine side_q ?_ ?_; exact byQ)
            subst e56
            refine cx_if _ rfl (fun h56 => ?_) (fun h56 => ?_)
            ·
              (try simp only [go_sem] at h56)
              refine cx_sr ?_
              simp only [go_sem]
              repeat first | (with_reducible refine side_d ?_ ?_; exact byD) | (with_reducible refine side_q ?_ ?_; exact byQ)
              refine cx_ret ?_
              simp only [go_sem]
              refine finw_int ?_
              unfold mayP
              grind
            ·
              (try simp only [go_sem] at h56)
              refine cx_skip ?_
              (try simp only [go_sem])
              refine mt_next () (by grind) byC
          ·
            (try simp only [go_sem] at h47)
            refine cx_sr ?_
            simp only [go_sem]
            repeat first | (with_reducible refine side_d ?_ ?_; exact byD) | (with_reducible refine side_q ?_ ?_; exact byQ)
            intro t43 e43
            repeat first | (with_reducible refine side_d ?_ ?_; exact byD) | (with_reducible refine side_q ?_ ?_; exact byQ)
            subst e43
            refine cx_if _ rfl (fun h43 => ?_) (fun h43 => ?_)
            ·
              (try simp only [go_sem] at h43)
              refine cx_sr ?_
              simp only [go_sem]
              repeat first | (with_reducible refine side_d ?_ ?_; exact byD) | (with_reducible refine side_q ?_ ?_; exact byQ)
              refine cx_ret ?_
              simp only [go_sem]
              refine finw_int ?_
              unfold mayP
              grind
            ·
              (try simp only [go_sem] at h43)
              refine cx_skip ?_
              (try simp only [go_sem])
              refine mt_next () (by grind) byC
      simp only [go_sem]
      refine cx_seq ?_
      refine cx_sr ?_
      simp only [go_sem]
      repeat first | (with_reducible refine side_d ?_ ?_; exact byD) | (with_reducible refine side_q ?_ ?_; exact byQ)
      intro t59 e59
      repeat first | (with_reducible refine side_d ?_ ?_; exact byD) | (with_reducible refine side_q ?_ ?_; exact byQ)
      subst e59
      refine cx_if _ rfl (fun h59 => ?_) (fun h59 => ?_)
      ·
        (try simp only [go_sem] at h59)
        refine cx_seq ?_
        refine cx_sr ?_
        simp only [go_sem]
        repeat first | (with_reducible refine side_d ?_ ?_; exact byD) | (with_reducible refine side_q ?_ ?_; exact byQ)
        refine cw_m (In_c c.to c.path (by omega) (by omega)) byW byT ?_
        simp only [go_sem]
        repeat first | (with_reducible refine side_d ?_ ?_; exact byD) | (with_reducible refine side_q ?_ ?_; exact byQ)
        refine cx_if _ rfl (fun h64 => ?_) (fun h64 => ?_)
        ·
          (try simp only [go_sem] at h64)
          refine cx_sr ?_
          simp only [go_sem]
          repeat first | (with_reducible refine side_d ?_ ?_; exact byD) | (with_reducible refine side_q ?_ ?_; exact byQ)
          refine cx_ret ?_
          simp only [go_sem]
          refine finw_int ?_
          unfold mayP
          grind
        ·
          (try simp only [go_sem] at h64)
          refine cx_skip ?_
          (try simp only [go_sem])
          refine cx_sr ?_
          simp only [go_sem]
          repeat first | (with_reducible refine side_d ?_ ?_; exact byD) | (with_reducible refine side_q ?_ ?_; exact byQ)
          refine cw_m (At_c l c.to hs (by omega)) byW byT ?_
          simp only [go_sem]
          repeat first | (with_reducible refine side_d ?_ ?_; exact byD) | (with_reducible refine side_q ?_ ?_; exact byQ)
          refine cx_sr ?_
          simp only [go_sem]
          repeat first | (with_reducible refine side_d ?_ ?_; exact byD) | (with_reducible refine side_q ?_ ?_; exact byQ)
          refine cx_if _ rfl (fun h72 => ?_) (fun h72 => ?_)
          ·
            (try simp only [go_sem] at h72)
            refine cx_sr ?_
            simp only [go_sem]
            repeat first | (with_reducible refine side_d ?_ ?_; exact byD) | (with_reducible refine side_q ?_ ?_; exact byQ)
            refine cx_ret ?_
            simp only [go_sem]
            refine finw_int ?_
            unfold mayP
            grind
          ·
            (try simp only [go_sem] at h72)
            refine cx_skip ?_
            (try simp only [go_sem])
            refine cx_sr ?_
            simp only [go_sem]
            repeat first | (with_reducible refine side_d ?_ ?_; exact byD) | (with_reducible refine side_q ?_ ?_; exact byQ)
            refine cx_seq ?_
            refine cx_sr ?_
            simp only [go_sem]
            repeat first | (with_reducible refine side_d ?_ ?_; exact byD) | (with_reducible refine side_q ?_ ?_; exact byQ)
            intro t76 e76
            repeat first | (with_reducible refine side_d ?_ ?_; exact byD) | (with_reducible refine side_q ?_ ?_; exact byQ)
            refine ⟨_, fun hp => cw_v 2 (ContainsFunc_Entry 83 [.iptr c.enc 0] rfl (staleB c) l (fun x hx => stale_c c x ok (okl.2 x hx).1) (by omega)) byV byC rfl ⟨rfl, rfl⟩, ?_⟩
            simp only [go_sem]
            repeat first | (with_reducible refine side_d ?_ ?_; exact byD) | (with_reducible refine side_q ?_ ?_; exact byQ)
            intro t81 e81
            rw [bsel_and] at e81
            repeat first | (with_reducible refine side_d ?_ ?_; exact byD) | (with_reducible refine side_q ?_ ?_; exact byQ)
            subst e76 e81
            refine cx_if _ rfl (fun h81 => ?_) (fun h81 => ?_)
            ·
              (try simp only [go_sem] at h81)
              refine cx_sr ?_
              simp only [go_sem]
              repeat first | (with_reducible refine side_d ?_ ?_; exact byD) | (with_reducible refine side_q ?_ ?_; exact byQ)
              refine cx_ret ?_
              simp only [go_sem]
              refine finw_int ?_
              unfold mayP
              grind
            ·
              (try simp only [go_sem] at h81)
              refine cx_skip ?_
              (try simp only [go_sem])
              refine cx_sr ?_
              simp only [go_sem]
              repeat first | (with_reducible refine side_d ?_ ?_; exact byD) | (with_reducible refine side_q ?_ ?_; exact byQ)
              refine cx_ret ?_
              simp only [go_sem]
              refine finw_int ?_
              unfold mayP
              grind
      ·
        (try simp only [go_sem] at h59)
        refine cx_skip ?_
        (try simp only [go_sem])
        refine cx_sr ?_
        simp only [go_sem]
        repeat first | (with_reducible refine side_d ?_ ?_; exact byD) | (with_reducible refine side_q ?_ ?_; exact byQ)
        refine cx_seq ?_
        refine cx_sr ?_
        simp only [go_sem]
        repeat first | (with_reducible refine side_d ?_ ?_; exact byD) | (with_reducible refine side_q ?_ ?_; exact byQ)
        intro t76 e76
        repeat first | (with_reducible refine side_d ?_ ?_; exact byD) | (with_reducible refine side_q ?_ ?_; exact byQ)
        refine ⟨_, fun hp => cw_v 2 (ContainsFunc_Entry 83 [.iptr c.enc 0] rfl (staleB c) l (fun x hx => stale_c c x ok (okl.2 x hx).1) (by omega)) byV byC rfl ⟨rfl, rfl⟩, ?_⟩
        simp only [go_sem]
        repeat first | (with_reducible refine side_d ?_ ?_; exact byD) | (with_reducible refine side_q ?_ ?_; exact byQ)
        intro t81 e81
        rw [bsel_and] at e81
        repeat first | (with_reducible refine side_d ?_ ?_; exact byD) | (with_reducible refine side_q ?_ ?_; exact byQ)
        subst e76 e81
        refine cx_if _ rfl (fun h81 => ?_) (fun h81 => ?_)
        ·
          (try simp only [go_sem] at h81)
          refine cx_sr ?_
          simp only [go_sem]
          repeat first | (with_reducible refine side_d ?_ ?_; exact byD) | (with_reducible refine side_q ?_ ?_; exact byQ)
          refine cx_ret ?_
          simp only [go_sem]
          refine finw_int ?_
          unfold mayP
          grind
        ·
          (try simp only [go_sem] at h81)
          refine cx_skip ?_
          (try simp only [go_sem])
          refine cx_sr ?_
          simp only [go_sem]
          repeat first | (with_reducible refine side_d ?_ ?_; exact byD) | (with_reducible refine side_q ?_ ?_; exact byQ)
          refine cx_ret ?_
          simp only [go_sem]
          refine finw_int ?_
          unfold mayP
          grind
end Go.VM.Tryd
end
section
set_option linter.unusedVariables false
set_option linter.unusedSimpArgs false
open Go Go.VM Go.Proofs Tether
namespace Go.VM.Tryd
set_option maxRecDepth 100000
theorem withoutIn_c (p : Str) (hp : p.length < 4611686018427387904) (x : Entry) (hx : x.path.length < 4611686018427387904) : Meets Tryd.prog 108 [.agg x.enc, .iptr [.str p] 0] (.bool (isIn x.path p)) [] := by
  refine meets_x (fn := Tryd.f108) Tryd.func108 rfl fb108 (by kernel_rfl) (Nat.le_of_ble_eq_true rfl) ?_
  refine cx_sr ?_
  simp only [go_sem]
  repeat first | (with_reducible refine side_d ?_ ?_; exact byD) | (with_reducible refine side_q ?_ ?_; exact byQ)
  refine cx_sr ?_
  simp only [go_sem]
  repeat first | (with_reducible refine side_d ?_ ?_; exact byD) | (with_reducible refine side_q ?_ ?_; exact byQ)
  refine cw_m (In_c x.path p hx hp) byW byT ?_
  simp only [go_sem]
  repeat first | (with_reducible refine side_d ?_ ?_; exact byD) | (with_reducible refine side_q ?_ ?_; exact byQ)
  refine cx_ret ?_
  simp only [go_sem]
  exact finw_bool rfl
/-- entries that are not too great -/
def outB (p : Str) (x : Entry) : Bool := !isIn x.path p
theorem stF_En {x : Entry} {l : List Entry} {k i : Nat} {vs : List V} (hk : k < l.length) (hx : spl (Entry.enc (l.getD k default)) 0 vs = Entry.enc x) : stF (En Entry.enc default l) k 0 vs i = En Entry.enc default (l.set k x) i := by
  unfold stF
  cases hb : Nat.beq i k with
  | true =>
    have e : i = k := Nat.eq_of_beq_eq_true hb
    subst e
    simp only [cond, En]
    rw [hx]
    simp [List.getD, hk]
  | false =>
    have hne : i ≠ k := Nat.ne_of_beq_eq_false hb
    simp only [cond, En]
    simp [List.getD, List.getElem?_set, Ne.symm hne]
theorem put_c (l : List Entry) (x : Entry) (hs : SortedE l) (hl : (l.length + 1) * 48 ≤ 140737488355328) :
    Does Tryd.prog 85 [.own none 0 4 0 l.length .loose, .agg x.enc] [.arr 4 l.length (En Entry.enc default l)]
      (.own none 1 4 0 (putE l x).length .loose) [.dead, .arr 4 (putE l x).length (En Entry.enc default (putE l x))] := by
  refine does_cx (fn := Tryd.f85) Tryd.func85 rfl fb85 (by kernel_rfl) (Nat.le_of_ble_eq_true rfl) ?_
  have hle := eIx_le l x.path
  refine cx_sr ?_
  simp only [go_sem]
  repeat first | (with_reducible refine side_d ?_ ?_; exact byD) | (with_reducible refine side_q ?_ ?_; exact byQ)
  refine cx_sr ?_
  simp only [go_sem]
  repeat first | (with_reducible refine side_d ?_ ?_; exact byD) | (with_reducible refine side_q ?_ ?_; exact byQ)
  refine cw_v 2 (At_c l x.path hs (by omega)) byV byC rfl ?_
  simp only [go_sem]
  repeat first | (with_reducible refine side_d ?_ ?_; exact byD) | (with_reducible refine side_q ?_ ?_; exact byQ)
  refine cx_seq ?_
  refine cx_sr ?_
  simp only [go_sem]
  repeat first | (with_reducible refine side_d ?_ ?_; exact byD) | (with_reducible refine side_q ?_ ?_; exact byQ)
  refine cx_if _ rfl (fun h14 => ?_) (fun h14 => ?_)
  ·
    (try simp only [go_sem] at h14)
    have hh : hasE l x.path = true := by simpa using h14
    have hix : eIx l x.path < l.length := by simp [hasE] at hh; exact hh.1
    have hpu : putE l x = l.set (eIx l x.path) x := by rw [putE, if_pos hh]
    refine cx_sr ?_
    simp only [go_sem]
    repeat first | (with_reducible refine side_d ?_ ?_; exact byD) | (with_reducible refine side_q ?_ ?_; exact byQ)
    refine cx_move 0 rfl ?_
    simp only [go_sem]
    refine cx_sr ?_
    simp only [go_sem]
    repeat first | (with_reducible refine side_d ?_ ?_; exact byD) | (with_reducible refine side_q ?_ ?_; exact byQ)
    refine cx_ret ?_
    simp only [go_sem]
    rw [hpu, List.length_set]
    refine ⟨[0, 2], rfl, rfl, ?_, ?_⟩
    · exact byC
    · simp only [go_sem, wk, wks, wkB, wkH]
      exact fun i hi => wks_mp_of (fun _ => rfl) (stF_En hix rfl)
  ·
    (try simp only [go_sem] at h14)
    have hh : ¬ hasE l x.path = true := by simpa using h14
    have hpu : putE l x = l.take (eIx l x.path) ++ x :: l.drop (eIx l x.path) := by rw [putE, if_neg hh]
    have hpl : (putE l x).length = l.length + 1 := by rw [putE_length, if_neg hh]
    refine cx_skip ?_
    (try simp only [go_sem])
    refine cx_sr ?_
    simp only [go_sem]
    repeat first | (with_reducible refine side_d ?_ ?_; exact byD) | (with_reducible refine side_q ?_ ?_; exact byQ)
    refine cw_does (Insert_Entry l (eIx l x.path) x hle hl) [0, 2] rfl byC byC ?_
    simp only [go_sem]
    repeat first | (with_reducible refine side_d ?_ ?_; exact byD) | (with_reducible refine side_q ?_ ?_; exact byQ)
    refine cx_ret ?_
    simp only [go_sem]
    rw [hpl, hpu]
    exact ⟨[0, 3], rfl, rfl, byC, byC⟩
theorem without_c (l : List Entry) (p : Str) (hp : p.length < 4611686018427387904) (hl : l.length < 4611686018427387904) (hx : ∀ x ∈ l, x.path.length < 4611686018427387904) :
    Does Tryd.prog 86 [.own none 0 4 0 l.length .loose, .str p] [.arr 4 l.length (En Entry.enc default l)]
      (.own none 0 4 0 (l.filter (outB p)).length .loose) [.arr 4 (l.filter (outB p)).length (En Entry.enc default (l.filter (outB p)))] := by
  refine does_cx (fn := Tryd.f86) Tryd.func86 rfl fb86 (by kernel_rfl) (Nat.le_of_ble_eq_true rfl) ?_
  refine cx_sr ?_
  simp only [go_sem]
  repeat first | (with_reducible refine side_d ?_ ?_; exact byD) | (with_reducible refine side_q ?_ ?_; exact byQ)
  refine cx_sr ?_
  simp only [go_sem]
  repeat first | (with_reducible refine side_d ?_ ?_; exact byD) | (with_reducible refine side_q ?_ ?_; exact byQ)
  refine cw_does (DeleteFunc_Entry 108 [.str p] rfl (fun x => isIn x.path p) l (fun x h => withoutIn_c p hp x (hx x h)) hl) [0, 1] rfl byC byC ?_
  simp only [go_sem]
  repeat first | (with_reducible refine side_d ?_ ?_; exact byD) | (with_reducible refine side_q ?_ ?_; exact byQ)
  refine cx_ret ?_
  simp only [go_sem]
  exact ⟨[0], rfl, rfl, byC, byC⟩
end Go.VM.Tryd
end
section
set_option linter.unusedVariables false
set_option linter.unusedSimpArgs false
open Go Go.VM Go.Proofs Tether
namespace Go.VM.Tryd
set_option maxRecDepth 100000
def inB (p : Str) (x : Entry) : Bool := isIn x.path p
def mvE (c : Change) (v : Int) (x : Entry) : Entry := ⟨c.to ++ x.path.drop c.path.length, x.folder, x.text, if x.path = c.path then v else x.version⟩
def goesP (l : List Entry) (c : Change) (v : Int) : List Entry := (l.filter (inB c.path)).map (mvE c v)
def movedL (l : List Entry) (c : Change) (v : Int) : List Entry := (goesP l c v).foldl putE (l.filter (outB c.path))
def greatG (l : List Entry) (c : Change) (v : Int) : Bool := (goesP l c v).any fun x => greatB x.path
/-- the tree that a change makes, whatever it is like -/
def madeP (l : List Entry) (c : Change) (v : Int) : List Entry :=
  if c.kind = 1 then putE l ⟨c.path, true, [], v⟩ else if c.kind = 2 then putE l ⟨c.path, false, c.text, v⟩ else if c.kind = 4 then l.filter (outB c.path) else if c.kind = 3 then movedL l c v else l
def doneErr (l : List Entry) (c : Change) (v : Int) : Int := if c.kind = 3 ∧ greatG l c v = true then 2 else if 60 < ((madeP l c v).length : Int) then 2 else 0
def doneP (l : List Entry) (c : Change) (v : Int) : List Entry := if doneErr l c v = 0 then madeP l c v else []
/-- paths that are right -/
def okP (l : List Entry) : Prop := l.length ≤ 120 ∧ ∀ x ∈ l, checkP [x.path] = 0
theorem checkP_len {p : Str} (h : checkP [p] = 0) : p.length ≤ 80 := by
  have := ((checkP_iff p).1 h).2
  rw [greatB_false] at this
  exact this.2
theorem goes_snoc {l : List Entry} {c : Change} {v : Int} {i : Nat} (h : i < l.length) : goesP (l.take (i + 1)) c v = if inB c.path (l.getD i default) = true then goesP (l.take i) c v ++ [mvE c v (l.getD i default)] else goesP (l.take i) c v := by
  have hd : l.getD i default = l[i] := by simp [List.getD, h]
  rw [hd, List.take_add_one, List.getElem?_eq_getElem h]
  unfold goesP
  rw [List.filter_append]
  by_cases hb : inB c.path l[i] = true
  · rw [if_pos hb]; simp [hb]
  · rw [if_neg hb]; simp [hb]
theorem goes_len (l : List Entry) (c : Change) (v : Int) : (goesP l c v).length ≤ l.length := by
  unfold goesP
  rw [List.length_map]
  exact List.length_filter_le _ _
theorem foldl_put_len : ∀ (g l : List Entry), (g.foldl putE l).length ≤ l.length + g.length
  | [], l => by simp
  | x :: g, l => by
    have := foldl_put_len g (putE l x)
    have h2 := putE_length l x
    simp only [List.foldl_cons, List.length_cons]
    split at h2 <;> omega
theorem foldl_put_sorted : ∀ (g : List Entry) {l : List Entry}, SortedE l → SortedE (g.foldl putE l)
  | [], _, h => h
  | x :: g, _, h => foldl_put_sorted g (putE_sorted h x)
theorem madeP_len (l : List Entry) (c : Change) (v : Int) : (madeP l c v).length ≤ 2 * l.length + 1 := by
  have h1 := putE_length l ⟨c.path, true, [], v⟩
  have h2 := putE_length l ⟨c.path, false, c.text, v⟩
  have h3 := List.length_filter_le (outB c.path) l
  have h4 := foldl_put_len (goesP l c v) (l.filter (outB c.path))
  have h5 := goes_len l c v
  unfold madeP movedL
  split
  · split at h1 <;> omega
  · split
    · split at h2 <;> omega
    · split
      · omega
      · split <;> omega
theorem moved_ok {p f t : Str} (hp : checkP [p] = 0) (hf : checkP [f] = 0) (ht : checkP [t] = 0) (h : isIn p f = true) : movedP p f t = if greatB (t ++ p.drop f.length) = true then ([], 2) else (t ++ p.drop f.length, 0) := by
  have hc : checkP [p, f, t] = 0 := (checkP3 p f t).2 ⟨hp, hf, ht⟩
  rw [movedP, if_neg (by simp [hc]), if_neg (by simp [h])]
theorem great_at {l : List Entry} {c : Change} {v : Int} {i : Nat} (hi : i < l.length) (h : inB c.path (l.getD i default) = true) (hg : greatB (c.to ++ (l.getD i default).path.drop c.path.length) = true) : greatG l c v = true := by
  rw [greatG, List.any_eq_true]
  exact ⟨mvE c v (l.getD i default), List.mem_map_of_mem (List.mem_filter.2 ⟨getD_mem hi, h⟩), hg⟩
theorem done_c (l : List Entry) (c : Change) (v : Int) (hs : SortedE l) (okl : okP l) (hp : checkP [c.path] = 0) (ht : c.kind = 3 → checkP [c.to] = 0) :
    Does Tryd.prog 70 [.own none 0 4 0 l.length .loose, .agg c.enc, .int .i64 v] [.arr 4 l.length (En Entry.enc default l)]
      (.tup [.own none 1 4 0 (doneP l c v).length .loose, .int .i64 (doneErr l c v)]) [.dead, .arr 4 (doneP l c v).length (En Entry.enc default (doneP l c v))] := by
  refine does_cx (fn := Tryd.f70) Tryd.func70 rfl fb70 (by kernel_rfl) (Nat.le_of_ble_eq_true rfl) ?_
  have hl := okl.1
  have hcp := checkP_len hp
  refine cx_sr ?_
  simp only [go_sem]
  repeat first | (with_reducible refine side_d ?_ ?_; exact byD) | (with_reducible refine side_q ?_ ?_; exact byQ)
  refine cx_seq ?_
  refine cx_sr ?_
  simp only [go_sem]
  repeat first | (with_reducible refine side_d ?_ ?_; exact byD) | (with_reducible refine side_q ?_ ?_; exact byQ)
  refine cx_meet (σ := Unit) (fun u => c.kind = 3 → greatG l c v = false) (fun u => [⟨0, 0, [], .own none 2 4 0 (madeP l c v).length .loose⟩]) [] (fun u => [.dead, .box c.enc, .arr 4 (madeP l c v).length (En Entry.enc default (madeP l c v))]) (fun _ => (Nat.le_of_ble_eq_true rfl)) ?_ (fun u hIM1 => ?_)
  ·
    refine cx_block ?_
    refine cx_sr ?_
    simp only [go_sem]
    repeat first | (with_reducible refine side_d ?_ ?_; exact byD) | (with_reducible refine side_q ?_ ?_; exact byQ)
    intro t18 e18
    repeat first | (with_reducible refine side_d ?_ ?_; exact byD) | (with_reducible refine side_q ?_ ?_; exact byQ)
    subst e18
    refine cx_if _ rfl (fun h17 => ?_) (fun h17 => ?_)
    ·
      (try simp only [go_sem] at h17)
      refine cx_region ?_
      simp only [go_sem]
      repeat first | (with_reducible refine side_d ?_ ?_; exact byD) | (with_reducible refine side_q ?_ ?_; exact byQ)
      refine cw_does (put_c l ⟨c.path, true, [], v⟩ hs (by omega)) [0] rfl byC byC ?_
      simp only [go_sem]
      repeat first | (with_reducible refine side_d ?_ ?_; exact byD) | (with_reducible refine side_q ?_ ?_; exact byQ)
      have hk : c.kind = 1 := by simpa using h17
      have hm : madeP l c v = putE l ⟨c.path, true, [], v⟩ := by rw [madeP, if_pos hk]
      refine mt_next () (by omega) ?_
      rw [hm]
      exact byC
    ·
      (try simp only [go_sem] at h17)
      refine cx_sr ?_
      simp only [go_sem]
      repeat first | (with_reducible refine side_d ?_ ?_; exact byD) | (with_reducible refine side_q ?_ ?_; exact byQ)
      intro t26 e26
      repeat first | (with_reducible refine side_d ?_ ?_; exact byD) | (with_reducible refine side_q ?_ ?_; exact byQ)
      subst e26
      refine cx_if _ rfl (fun h25 => ?_) (fun h25 => ?_)
      ·
        (try simp only [go_sem] at h25)
        refine cx_region ?_
        simp only [go_sem]
        repeat first | (with_reducible refine side_d ?_ ?_; exact byD) | (with_reducible refine side_q ?_ ?_; exact byQ)
        refine cw_does (put_c l ⟨c.path, false, c.text, v⟩ hs (by omega)) [0] rfl byC byC ?_
        simp only [go_sem]
        repeat first | (with_reducible refine side_d ?_ ?_; exact byD) | (with_reducible refine side_q ?_ ?_; exact byQ)
        have hk : c.kind = 2 := by simpa using h25
        have hm : madeP l c v = putE l ⟨c.path, false, c.text, v⟩ := by rw [madeP, if_neg (by omega), if_pos hk]
        refine mt_next () (by omega) ?_
        rw [hm]
        exact byC
      ·
        (try simp only [go_sem] at h25)
        refine cx_sr ?_
        simp only [go_sem]
        repeat first | (with_reducible refine side_d ?_ ?_; exact byD) | (with_reducible refine side_q ?_ ?_; exact byQ)
        intro t36 e36
        repeat first | (with_reducible refine side_d ?_ ?_; exact byD) | (with_reducible refine side_q ?_ ?_; exact byQ)
        subst e36
        refine cx_if _ rfl (fun h35 => ?_) (fun h35 => ?_)
        ·
          (try simp only [go_sem] at h35)
          refine cx_move 0 rfl ?_
          simp only [go_sem]
          refine cx_region ?_
          simp only [go_sem]
          repeat first | (with_reducible refine side_d ?_ ?_; exact byD) | (with_reducible refine side_q ?_ ?_; exact byQ)
          refine cw_does (without_c l c.path (by omega) (by omega) (fun x hx => by have := checkP_len (okl.2 x hx); omega)) [2] rfl byC byC ?_
          simp only [go_sem]
          repeat first | (with_reducible refine side_d ?_ ?_; exact byD) | (with_reducible refine side_q ?_ ?_; exact byQ)
          have hk : c.kind = 4 := by simpa using h35
          have hm : madeP l c v = l.filter (outB c.path) := by rw [madeP, if_neg (by omega), if_neg (by omega), if_pos hk]
          refine mt_next () (by omega) ?_
          rw [hm]
          exact byC
        ·
          (try simp only [go_sem] at h35)
          refine cx_sr ?_
          simp only [go_sem]
          repeat first | (with_reducible refine side_d ?_ ?_; exact byD) | (with_reducible refine side_q ?_ ?_; exact byQ)
          intro t42 e42
          repeat first | (with_reducible refine side_d ?_ ?_; exact byD) | (with_reducible refine side_q ?_ ?_; exact byQ)
          subst e42
          refine cx_if _ rfl (fun h41 => ?_) (fun h41 => ?_)
          ·
            (try simp only [go_sem] at h41)
            refine cx_sr ?_
            simp only [go_sem]
            repeat first | (with_reducible refine side_d ?_ ?_; exact byD) | (with_reducible refine side_q ?_ ?_; exact byQ)
            refine cx_virt 8 4 (En Entry.enc default []) rfl ?_
            refine cx_seq ?_
            refine cx_sr ?_
            simp only [go_sem]
            repeat first | (with_reducible refine side_d ?_ ?_; exact byD) | (with_reducible refine side_q ?_ ?_; exact byQ)
            refine cx_block ?_
            refine cx_loopk (σ := Nat) (fun i => i ≤ l.length ∧ greatG (l.take i) c v = false) (fun i => [⟨45, 0, [], .int .i64 (i : Nat)⟩, ⟨8, 0, [], .own none 2 4 0 (goesP (l.take i) c v).length .loose⟩]) [0, 2, 4, 43, 44] (fun i => [.arr 4 l.length (En Entry.enc default l), .box c.enc, .arr 4 (goesP (l.take i) c v).length (En Entry.enc default (goesP (l.take i) c v))]) (fun i => l.length - i) 0 ⟨Nat.zero_le _, by simp [greatG, goesP]⟩ (fun _ => (Nat.le_of_ble_eq_true rfl)) byC (fun i hI1 => ?_)
            simp only [go_sem]
            have hgl := goes_len (l.take i) c v
            have hgl2 : (l.take i).length = i := by simp; omega
            refine cx_sr ?_
            simp only [go_sem]
            repeat first | (with_reducible refine side_d ?_ ?_; exact byD) | (with_reducible refine side_q ?_ ?_; exact byQ)
            intro t46 e46
            repeat first | (with_reducible refine side_d ?_ ?_; exact byD) | (with_reducible refine side_q ?_ ?_; exact byQ)
            subst e46
            refine cx_seq ?_
            refine cx_if _ rfl (fun h46 => ?_) (fun h46 => ?_)
            ·
              (try simp only [go_sem] at h46)
              have hxp := okl.2 (l.getD i default) (getD_mem (by omega))
              have hxl := checkP_len hxp
              have htl := checkP_len (ht h41)
              refine cx_skip ?_
              (try simp only [go_sem])
              refine cx_seq (cx_block ?_)
              refine cx_sr ?_
              simp only [go_sem]
              repeat first | (with_reducible refine side_d ?_ ?_; exact byD) | (with_reducible refine side_q ?_ ?_; exact byQ)
              refine cx_seq ?_
              refine cx_sr ?_
              simp only [go_sem]
              repeat first | (with_reducible refine side_d ?_ ?_; exact byD) | (with_reducible refine side_q ?_ ?_; exact byQ)
              refine cw_m (In_c (l.getD i default).path c.path (by omega) (by omega)) byW byT ?_
              simp only [go_sem]
              repeat first | (with_reducible refine side_d ?_ ?_; exact byD) | (with_reducible refine side_q ?_ ?_; exact byQ)
              intro t54 e54
              repeat first | (with_reducible refine side_d ?_ ?_; exact byD) | (with_reducible refine side_q ?_ ?_; exact byQ)
              subst e54
              refine cx_if _ rfl (fun h54 => ?_) (fun h54 => ?_)
              ·
                (try simp only [go_sem] at h54)
                refine cx_exit ?_
                simp only [go_sem]
                refine cx_region ?_
                simp only [go_sem]
                repeat first | (with_reducible refine side_d ?_ ?_; exact byD) | (with_reducible refine side_q ?_ ?_; exact byQ)
                intro t81 e81
                (try replace e81 := w64 e81 (by omega) (by omega))
                repeat first | (with_reducible refine side_d ?_ ?_; exact byD) | (with_reducible refine side_q ?_ ?_; exact byQ)
                have hn : ¬ inB c.path (l.getD i default) = true := by simpa [inB] using h54
                have hg : goesP (l.take (i + 1)) c v = goesP (l.take i) c v := by rw [goes_snoc (by omega), if_neg hn]
                refine rnd_next (i + 1) ⟨by omega, by rw [greatG, hg]; exact hI1.2⟩ (by first | omega | (dsimp only; omega)) ?_
                rw [hg]
                exact byC
              ·
                (try simp only [go_sem] at h54)
                have hin : isIn (l.getD i default).path c.path = true := by simpa using h54
                have hb : inB c.path (l.getD i default) = true := hin
                have hmv := moved_ok hxp hp (ht h41) hin
                refine cx_skip ?_
                (try simp only [go_sem])
                refine cx_seq ?_
                refine cx_sr ?_
                simp only [go_sem]
                repeat first | (with_reducible refine side_d ?_ ?_; exact byD) | (with_reducible refine side_q ?_ ?_; exact byQ)
                intro t59 e59
                repeat first | (with_reducible refine side_d ?_ ?_; exact byD) | (with_reducible refine side_q ?_ ?_; exact byQ)
                subst e59
                refine cx_meet (σ := Unit) (fun u2 => True) (fun u2 => []) [0, 2, 4, 8, 10, 43, 44, 45] (fun u2 => [.arr 4 l.length (En Entry.enc default l), .box c.enc, .arr 4 (goesP (l.take i) c v).length (En Entry.enc default (goesP (l.take i) c v)), .box [.str (l.getD i default).path, .bool (l.getD i default).folder, .str (l.getD i default).text, .int .i64 (if (l.getD i default).path = c.path then v else (l.getD i default).version)]]) (fun _ => (Nat.le_of_ble_eq_true rfl)) ?_ (fun u2 hIM2 => ?_)
                ·
                  refine cx_if _ rfl (fun h59 => ?_) (fun h59 => ?_)
                  ·
                    (try simp only [go_sem] at h59)
                    refine cx_region ?_
                    simp only [go_sem]
                    repeat first | (with_reducible refine side_d ?_ ?_; exact byD) | (with_reducible refine side_q ?_ ?_; exact byQ)
                    have hk : (l.getD i default).path = c.path := by simpa using h59
                    refine mt_next () trivial ?_
                    rw [if_pos hk]
                    exact byC
                  ·
                    (try simp only [go_sem] at h59)
                    refine cx_skip ?_
                    (try simp only [go_sem])
                    have hk : ¬ (l.getD i default).path = c.path := by simpa using h59
                    refine mt_next () trivial ?_
                    rw [if_neg hk]
                    exact byC
                simp only [go_sem]
                refine cx_sr ?_
                simp only [go_sem]
                repeat first | (with_reducible refine side_d ?_ ?_; exact byD) | (with_reducible refine side_q ?_ ?_; exact byQ)
                refine cw_m (Moved_c (l.getD i default).path c.path c.to (by omega) (by omega)) byW byT ?_
                simp only [go_sem]
                repeat first | (with_reducible refine side_d ?_ ?_; exact byD) | (with_reducible refine side_q ?_ ?_; exact byQ)
                refine cx_seq ?_
                refine cx_sr ?_
                simp only [go_sem]
                repeat first | (with_reducible refine side_d ?_ ?_; exact byD) | (with_reducible refine side_q ?_ ?_; exact byQ)
                intro t73 e73
                repeat first | (with_reducible refine side_d ?_ ?_; exact byD) | (with_reducible refine side_q ?_ ?_; exact byQ)
                subst e73
                refine cx_if _ rfl (fun h73 => ?_) (fun h73 => ?_)
                ·
                  (try simp only [go_sem] at h73)
                  have hgr : greatB (c.to ++ (l.getD i default).path.drop c.path.length) = true := by
                    rw [hmv] at h73
                    by_cases hq : greatB (c.to ++ (l.getD i default).path.drop c.path.length) = true
                    · exact hq
                    · rw [if_neg hq] at h73
                      simp at h73
                  have he : (movedP (l.getD i default).path c.path c.to).2 = 2 := by rw [hmv, if_pos hgr]
                  have hd : doneErr l c v = 2 := by rw [doneErr, if_pos ⟨h41, great_at (by omega) hb hgr⟩]
                  have hd0 : doneP l c v = [] := by rw [doneP, hd]; rfl
                  refine cx_sr ?_
                  simp only [go_sem]
                  repeat first | (with_reducible refine side_d ?_ ?_; exact byD) | (with_reducible refine side_q ?_ ?_; exact byQ)
                  refine cx_virt 6 4 (En Entry.enc default []) rfl ?_
                  simp only [go_sem]
                  refine cx_ret ?_
                  simp only [go_sem]
                  rw [hd, hd0, he]
                  exact ⟨[0, 4], rfl, rfl, byC, byC⟩
                ·
                  (try simp only [go_sem] at h73)
                  have hgr : ¬ greatB (c.to ++ (l.getD i default).path.drop c.path.length) = true := by
                    intro hq
                    rw [hmv, if_pos hq] at h73
                    simp at h73
                  have hq1 : (movedP (l.getD i default).path c.path c.to).1 = c.to ++ (l.getD i default).path.drop c.path.length := by rw [hmv, if_neg hgr]
                  have hg : goesP (l.take (i + 1)) c v = goesP (l.take i) c v ++ [mvE c v (l.getD i default)] := by rw [goes_snoc (by omega), if_pos hb]
                  have hgg : greatG (l.take (i + 1)) c v = false := by
                    rw [greatG, hg, List.any_append]
                    have := hI1.2
                    rw [greatG] at this
                    rw [this]
                    simpa [mvE] using hgr
                  rw [hq1]
                  refine cx_skip ?_
                  (try simp only [go_sem])
                  refine cx_sr ?_
                  simp only [go_sem]
                  repeat first | (with_reducible refine side_d ?_ ?_; exact byD) | (with_reducible refine side_q ?_ ?_; exact byQ)
                  refine cx_region ?_
                  simp only [go_sem]
                  repeat first | (with_reducible refine side_d ?_ ?_; exact byD) | (with_reducible refine side_q ?_ ?_; exact byQ)
                  refine cx_region ?_
                  simp only [go_sem]
                  repeat first | (with_reducible refine side_d ?_ ?_; exact byD) | (with_reducible refine side_q ?_ ?_; exact byQ)
                  intro t81 e81
                  (try replace e81 := w64 e81 (by omega) (by omega))
                  repeat first | (with_reducible refine side_d ?_ ?_; exact byD) | (with_reducible refine side_q ?_ ?_; exact byQ)
                  refine rnd_nextr (i + 1) [0, 1, 5] ⟨by omega, hgg⟩ (by first | omega | (dsimp only; omega)) ⟨rfl, rfl, ?_, ?_⟩
                  · rw [hg]; exact byC
                  · rw [hg]; skip
                    simp only [go_sem, wk, wks, wkB, wkH, List.length_append, List.length_cons, List.length_nil]
                    first | exact fun q hq => wks_mp_snoc (fun x => rnVs_no _ rfl) (by rfl) hq | (and_intros <;> first | trivial | rfl | (exact fun q hq => wks_mp_snoc (fun x => rnVs_no _ rfl) (by rfl) hq) | exact wks_refl _ | exact byC)
            ·
              (try simp only [go_sem] at h46)
              have hi : l.take i = l := by rw [List.take_of_length_le (by omega)]
              rw [hi]
              refine cx_exit ?_
              simp only [go_sem]
              refine cx_sr ?_
              simp only [go_sem]
              repeat first | (with_reducible refine side_d ?_ ?_; exact byD) | (with_reducible refine side_q ?_ ?_; exact byQ)
              refine cw_does (without_c l c.path (by omega) (by omega) (fun x hx => by have := checkP_len (okl.2 x hx); omega)) [0] rfl byC byC ?_
              simp only [go_sem]
              repeat first | (with_reducible refine side_d ?_ ?_; exact byD) | (with_reducible refine side_q ?_ ?_; exact byQ)
              refine cx_move 0 rfl ?_
              refine cx_sr ?_
              simp only [go_sem]
              repeat first | (with_reducible refine side_d ?_ ?_; exact byD) | (with_reducible refine side_q ?_ ?_; exact byQ)
              refine cx_block ?_
              refine cx_loopk (σ := Nat) (fun j => j ≤ (goesP l c v).length) (fun j => [⟨88, 0, [], .int .i64 (j : Nat)⟩, ⟨0, 0, [], .own none 3 4 0 (((goesP l c v).take j).foldl putE (l.filter (outB c.path))).length .loose⟩]) [86, 87] (fun j => [.dead, .box c.enc, .arr 4 (goesP l c v).length (En Entry.enc default (goesP l c v)), .arr 4 (((goesP l c v).take j).foldl putE (l.filter (outB c.path))).length (En Entry.enc default (((goesP l c v).take j).foldl putE (l.filter (outB c.path))))]) (fun j => (goesP l c v).length - j) 0 (Nat.zero_le _) (fun _ => (Nat.le_of_ble_eq_true rfl)) byC (fun j hI2 => ?_)
              simp only [go_sem]
              have hfs := foldl_put_sorted ((goesP l c v).take j) (filter_sorted hs (outB c.path))
              have hfl := foldl_put_len ((goesP l c v).take j) (l.filter (outB c.path))
              have hfl2 := List.length_filter_le (outB c.path) l
              have hgl3 := goes_len l c v
              have hgl4 : ((goesP l c v).take j).length ≤ j := by simp; omega
              refine cx_sr ?_
              simp only [go_sem]
              repeat first | (with_reducible refine side_d ?_ ?_; exact byD) | (with_reducible refine side_q ?_ ?_; exact byQ)
              intro t89 e89
              repeat first | (with_reducible refine side_d ?_ ?_; exact byD) | (with_reducible refine side_q ?_ ?_; exact byQ)
              subst e89
              refine cx_seq ?_
              refine cx_if _ rfl (fun h89 => ?_) (fun h89 => ?_)
              ·
                (try simp only [go_sem] at h89)
                refine cx_skip ?_
                (try simp only [go_sem])
                refine cx_seq (cx_block ?_)
                refine cx_sr ?_
                simp only [go_sem]
                repeat first | (with_reducible refine side_d ?_ ?_; exact byD) | (with_reducible refine side_q ?_ ?_; exact byQ)
                refine cx_region ?_
                simp only [go_sem]
                repeat first | (with_reducible refine side_d ?_ ?_; exact byD) | (with_reducible refine side_q ?_ ?_; exact byQ)
                refine cw_does (put_c (((goesP l c v).take j).foldl putE (l.filter (outB c.path))) ((goesP l c v).getD j default) hfs (by omega)) [3] rfl byC byC ?_
                simp only [go_sem]
                repeat first | (with_reducible refine side_d ?_ ?_; exact byD) | (with_reducible refine side_q ?_ ?_; exact byQ)
                refine cx_region ?_
                simp only [go_sem]
                repeat first | (with_reducible refine side_d ?_ ?_; exact byD) | (with_reducible refine side_q ?_ ?_; exact byQ)
                intro t95 e95
                (try replace e95 := w64 e95 (by omega) (by omega))
                repeat first | (with_reducible refine side_d ?_ ?_; exact byD) | (with_reducible refine side_q ?_ ?_; exact byQ)
                have hsn : ((goesP l c v).take (j + 1)).foldl putE (l.filter (outB c.path)) = putE (((goesP l c v).take j).foldl putE (l.filter (outB c.path))) ((goesP l c v).getD j default) := foldl_take putE _ _ _ (by omega)
                refine rnd_nextr (j + 1) [0, 1, 2, 5] (by omega) (by first | omega | (dsimp only; omega)) ⟨rfl, rfl, ?_, ?_⟩
                · rw [hsn]; exact byC
                · rw [hsn]; exact byC
              ·
                (try simp only [go_sem] at h89)
                refine cx_exit ?_
                simp only [go_sem]
                have hm : madeP l c v = ((goesP l c v).take j).foldl putE (l.filter (outB c.path)) := by
                  rw [madeP, if_neg (by omega), if_neg (by omega), if_neg (by omega), if_pos h41, movedL, List.take_of_length_le (by omega)]
                refine mt_nextr () [0, 1, 3] (fun _ => by have := hI1.2; rwa [hi] at this) ⟨rfl, rfl, ?_, ?_⟩
                · rw [hm]; exact byC
                · rw [hm]; exact byC
          ·
            (try simp only [go_sem] at h41)
            refine cx_move 0 rfl ?_
            simp only [go_sem]
            refine cx_skip ?_
            (try simp only [go_sem])
            have hm : madeP l c v = l := by rw [madeP, if_neg (by omega), if_neg (by omega), if_neg (by omega), if_neg (by omega)]
            refine mt_next () (by omega) ?_
            rw [hm]
            exact byC
  simp only [go_sem]
  refine cx_seq ?_
  refine cx_sr ?_
  simp only [go_sem]
  repeat first | (with_reducible refine side_d ?_ ?_; exact byD) | (with_reducible refine side_q ?_ ?_; exact byQ)
  intro t98 e98
  repeat first | (with_reducible refine side_d ?_ ?_; exact byD) | (with_reducible refine side_q ?_ ?_; exact byQ)
  subst e98
  refine cx_if _ rfl (fun h98 => ?_) (fun h98 => ?_)
  ·
    (try simp only [go_sem] at h98)
    refine cx_sr ?_
    simp only [go_sem]
    repeat first | (with_reducible refine side_d ?_ ?_; exact byD) | (with_reducible refine side_q ?_ ?_; exact byQ)
    refine cx_virt 6 4 (En Entry.enc default []) rfl ?_
    simp only [go_sem]
    refine cx_ret ?_
    simp only [go_sem]
    have hd : doneErr l c v = 2 := by rw [doneErr]; split <;> first | rfl | (rw [if_pos (by omega)])
    have hd0 : doneP l c v = [] := by rw [doneP, hd]; rfl
    rw [hd, hd0]
    exact ⟨[0, 3], rfl, rfl, byC, byC⟩
  ·
    (try simp only [go_sem] at h98)
    refine cx_skip ?_
    (try simp only [go_sem])
    refine cx_sr ?_
    simp only [go_sem]
    repeat first | (with_reducible refine side_d ?_ ?_; exact byD) | (with_reducible refine side_q ?_ ?_; exact byQ)
    refine cx_ret ?_
    simp only [go_sem]
    have hd : doneErr l c v = 0 := by rw [doneErr, if_neg (by rintro ⟨h1, h2⟩; rw [hIM1 h1] at h2; cases h2), if_neg (by omega)]
    have hd0 : doneP l c v = madeP l c v := by rw [doneP, if_pos hd]
    rw [hd, hd0]
    exact ⟨[0, 2], rfl, rfl, byC, byC⟩
end Go.VM.Tryd
end
