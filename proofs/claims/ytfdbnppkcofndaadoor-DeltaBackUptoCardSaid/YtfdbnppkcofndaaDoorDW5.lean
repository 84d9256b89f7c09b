import Derived.Test.YtfdbnppkcofndaaDoorDW4
section
set_option linter.unusedVariables false
set_option linter.unusedSimpArgs false
open Go Go.VM Go.Proofs Tether
namespace Go.VM.Tryd
set_option maxRecDepth 100000
theorem IndexFunc_string (f : Nat) (caps : List V) (hc : ltrs 0 caps = true) (p : Str → Bool) (l : List Str) (hp : ∀ x ∈ l, Meets Tryd.prog f (.str x :: caps) (.bool (p x)) []) (hl : l.length < 4611686018427387904) :
    Meets Tryd.prog 79 [lstV 1 strE' [] l, .fn f [] caps] (.int .i64 (idxF p l)) [] := by
  refine meets_x (fn := Tryd.f79) Tryd.func79 rfl fb79 (by kernel_rfl) (Nat.le_of_ble_eq_true rfl) ?_
  refine cx_sr ?_
  simp only [go_sem]
  repeat first | (with_reducible refine side_d ?_ ?_; exact byD) | (with_reducible refine side_q ?_ ?_; exact byQ)
  refine cx_seq ?_
  refine cx_sr ?_
  simp only [go_sem]
  repeat first | (with_reducible refine side_d ?_ ?_; exact byD) | (with_reducible refine side_q ?_ ?_; exact byQ)
  refine cx_block ?_
  refine cx_loop0 (σ := Nat) (fun i => i ≤ l.length ∧ ∀ j, j < i → p (l.getD j []) = false) (fun i => [⟨8, 0, [], .int .i64 (i : Nat)⟩]) [0, 1, 7] (fun i => l.length - i) 0 ⟨Nat.zero_le _, fun j hj => absurd hj (Nat.not_lt_zero j)⟩ (Nat.zero_le _) byC (fun i hI1 => ?_)
  simp only [go_sem]
  refine cx_sr ?_
  simp only [go_sem]
  repeat first | (with_reducible refine side_d ?_ ?_; exact byD) | (with_reducible refine side_q ?_ ?_; exact byQ)
  intro t9 e9
  repeat first | (with_reducible refine side_d ?_ ?_; exact byD) | (with_reducible refine side_q ?_ ?_; exact byQ)
  subst e9
  refine cx_seq ?_
  refine cx_if _ rfl (fun h9 => ?_) (fun h9 => ?_)
  ·
    (try simp only [go_sem] at h9)
    refine cx_skip ?_
    (try simp only [go_sem])
    refine cx_seq (cx_block ?_)
    refine cx_sr ?_
    simp only [go_sem]
    repeat first | (with_reducible refine side_d ?_ ?_; exact byD) | (with_reducible refine side_q ?_ ?_; exact byQ)
    refine cx_sr ?_
    simp only [go_sem]
    repeat first | (with_reducible refine side_d ?_ ?_; exact byD) | (with_reducible refine side_q ?_ ?_; exact byQ)
    refine cw_m (hp (l.getD i []) (getD_mem (by omega))) byW byT ?_
    simp only [go_sem]
    repeat first | (with_reducible refine side_d ?_ ?_; exact byD) | (with_reducible refine side_q ?_ ?_; exact byQ)
    refine cx_if _ rfl (fun h16 => ?_) (fun h16 => ?_)
    ·
      (try simp only [go_sem] at h16)
      refine cx_sr ?_
      simp only [go_sem]
      repeat first | (with_reducible refine side_d ?_ ?_; exact byD) | (with_reducible refine side_q ?_ ?_; exact byQ)
      refine cx_ret ?_
      simp only [go_sem]
      refine finw_int ?_
      rw [idxF_at (by omega) hI1.2 h16]
    ·
      (try simp only [go_sem] at h16)
      refine cx_skip ?_
      (try simp only [go_sem])
      refine cx_region ?_
      simp only [go_sem]
      repeat first | (with_reducible refine side_d ?_ ?_; exact byD) | (with_reducible refine side_q ?_ ?_; exact byQ)
      intro t18 e18
      (try replace e18 := w64 e18 (by omega) (by omega))
      repeat first | (with_reducible refine side_d ?_ ?_; exact byD) | (with_reducible refine side_q ?_ ?_; exact byQ)
      refine rnd_next (i + 1) ⟨by omega, all_next hI1.2 h16⟩ (by first | omega | (dsimp only; omega)) byC
  ·
    (try simp only [go_sem] at h9)
    refine cx_exit ?_
    simp only [go_sem]
    refine cx_sr ?_
    simp only [go_sem]
    repeat first | (with_reducible refine side_d ?_ ?_; exact byD) | (with_reducible refine side_q ?_ ?_; exact byQ)
    refine cx_ret ?_
    simp only [go_sem]
    refine finw_int ?_
    rw [idxF_none fun j hj => hI1.2 j (by omega)]
theorem ContainsFunc_string (f : Nat) (caps : List V) (hc : ltrs 0 caps = true) (p : Str → Bool) (l : List Str) (hp : ∀ x ∈ l, Meets Tryd.prog f (.str x :: caps) (.bool (p x)) []) (hl : l.length < 4611686018427387904) :
    Meets Tryd.prog 64 [lstV 1 strE' [] l, .fn f [] caps] (.bool (l.any p)) [] := by
  refine meets_x (fn := Tryd.f64) Tryd.func64 rfl fb64 (by kernel_rfl) (Nat.le_of_ble_eq_true rfl) ?_
  refine cx_sr ?_
  simp only [go_sem]
  repeat first | (with_reducible refine side_d ?_ ?_; exact byD) | (with_reducible refine side_q ?_ ?_; exact byQ)
  refine cx_sr ?_
  simp only [go_sem]
  repeat first | (with_reducible refine side_d ?_ ?_; exact byD) | (with_reducible refine side_q ?_ ?_; exact byQ)
  refine cw_m (IndexFunc_string f caps hc p l hp hl) byW byT ?_
  simp only [go_sem]
  repeat first | (with_reducible refine side_d ?_ ?_; exact byD) | (with_reducible refine side_q ?_ ?_; exact byQ)
  intro t8 e8
  repeat first | (with_reducible refine side_d ?_ ?_; exact byD) | (with_reducible refine side_q ?_ ?_; exact byQ)
  subst e8
  refine cx_ret ?_
  simp only [go_sem]
  refine finw_bool ?_
  rw [← idxF_any]
def likeB (a b : Entry) : Bool := decide (shapeE a = shapeE b)
theorem like_c (a b : Entry) : Meets Tryd.prog 46 [.agg a.enc, .agg b.enc] (.bool (likeB a b)) [] := by
  refine meets_x (fn := Tryd.f46) Tryd.func46 rfl fb46 (by kernel_rfl) (Nat.le_of_ble_eq_true rfl) ?_
  refine cx_sr ?_
  simp only [go_sem]
  repeat first | (with_reducible refine side_d ?_ ?_; exact byD) | (with_reducible refine side_q ?_ ?_; exact byQ)
  refine cx_sr ?_
  simp only [go_sem]
  repeat first | (with_reducible refine side_d ?_ ?_; exact byD) | (with_reducible refine side_q ?_ ?_; exact byQ)
  intro t9 e9
  repeat first | (with_reducible refine side_d ?_ ?_; exact byD) | (with_reducible refine side_q ?_ ?_; exact byQ)
  intro t15 e15
  repeat first | (with_reducible refine side_d ?_ ?_; exact byD) | (with_reducible refine side_q ?_ ?_; exact byQ)
  intro t16 e16
  rw [bsel_and] at e16
  repeat first | (with_reducible refine side_d ?_ ?_; exact byD) | (with_reducible refine side_q ?_ ?_; exact byQ)
  intro t22 e22
  repeat first | (with_reducible refine side_d ?_ ?_; exact byD) | (with_reducible refine side_q ?_ ?_; exact byQ)
  intro t23 e23
  rw [bsel_and] at e23
  repeat first | (with_reducible refine side_d ?_ ?_; exact byD) | (with_reducible refine side_q ?_ ?_; exact byQ)
  subst e9 e15 e16 e22 e23
  refine cx_ret ?_
  simp only [go_sem]
  refine finw_bool ?_
  unfold likeB shapeE
  grind
def check2 (a b : List Entry) : Int := if checkT a ≠ 0 then checkT a else checkT b
theorem dcheck_c (a b : List Entry) (oka : okE a) (okb : okE b) : Meets Tryd.prog 43 [esV a, esV b] (.int .i64 (check2 a b)) [] := by
  refine meets_x (fn := Tryd.f43) Tryd.func43 rfl fb43 (by kernel_rfl) (Nat.le_of_ble_eq_true rfl) ?_
  refine cx_sr ?_
  simp only [go_sem]
  repeat first | (with_reducible refine side_d ?_ ?_; exact byD) | (with_reducible refine side_q ?_ ?_; exact byQ)
  refine cx_seq ?_
  refine cx_sr ?_
  simp only [go_sem]
  repeat first | (with_reducible refine side_d ?_ ?_; exact byD) | (with_reducible refine side_q ?_ ?_; exact byQ)
  refine cw_m (TCheck_c a oka) byW byT ?_
  simp only [go_sem]
  repeat first | (with_reducible refine side_d ?_ ?_; exact byD) | (with_reducible refine side_q ?_ ?_; exact byQ)
  refine cx_sr ?_
  simp only [go_sem]
  repeat first | (with_reducible refine side_d ?_ ?_; exact byD) | (with_reducible refine side_q ?_ ?_; exact byQ)
  intro t9 e9
  repeat first | (with_reducible refine side_d ?_ ?_; exact byD) | (with_reducible refine side_q ?_ ?_; exact byQ)
  subst e9
  refine cx_if _ rfl (fun h9 => ?_) (fun h9 => ?_)
  ·
    (try simp only [go_sem] at h9)
    refine cx_sr ?_
    simp only [go_sem]
    repeat first | (with_reducible refine side_d ?_ ?_; exact byD) | (with_reducible refine side_q ?_ ?_; exact byQ)
    refine cx_ret ?_
    simp only [go_sem]
    exact finw_int (by rw [check2, if_pos h9])
  ·
    (try simp only [go_sem] at h9)
    refine cx_skip ?_
    (try simp only [go_sem])
    refine cx_sr ?_
    simp only [go_sem]
    repeat first | (with_reducible refine side_d ?_ ?_; exact byD) | (with_reducible refine side_q ?_ ?_; exact byQ)
    refine cw_m (TCheck_c b okb) byW byT ?_
    simp only [go_sem]
    repeat first | (with_reducible refine side_d ?_ ?_; exact byD) | (with_reducible refine side_q ?_ ?_; exact byQ)
    refine cx_ret ?_
    simp only [go_sem]
    exact finw_int (by rw [check2, if_neg (by simpa using h9)])
theorem twoTrees_c (a b : List Entry) (oka : okE a) (okb : okE b) : Meets Tryd.prog 16 [esV a, esV b] (.int .i64 (check2 a b)) [] := by
  refine meets_x (fn := Tryd.f16) Tryd.func16 rfl fb16 (by kernel_rfl) (Nat.le_of_ble_eq_true rfl) ?_
  refine cx_sr ?_
  simp only [go_sem]
  repeat first | (with_reducible refine side_d ?_ ?_; exact byD) | (with_reducible refine side_q ?_ ?_; exact byQ)
  refine cx_sr ?_
  simp only [go_sem]
  repeat first | (with_reducible refine side_d ?_ ?_; exact byD) | (with_reducible refine side_q ?_ ?_; exact byQ)
  refine cw_m (RCheckTree_c a oka) byW byT ?_
  simp only [go_sem]
  repeat first | (with_reducible refine side_d ?_ ?_; exact byD) | (with_reducible refine side_q ?_ ?_; exact byQ)
  refine cx_seq ?_
  refine cx_sr ?_
  simp only [go_sem]
  repeat first | (with_reducible refine side_d ?_ ?_; exact byD) | (with_reducible refine side_q ?_ ?_; exact byQ)
  intro t9 e9
  repeat first | (with_reducible refine side_d ?_ ?_; exact byD) | (with_reducible refine side_q ?_ ?_; exact byQ)
  subst e9
  refine cx_if _ rfl (fun h9 => ?_) (fun h9 => ?_)
  ·
    (try simp only [go_sem] at h9)
    refine cx_region ?_
    simp only [go_sem]
    repeat first | (with_reducible refine side_d ?_ ?_; exact byD) | (with_reducible refine side_q ?_ ?_; exact byQ)
    refine cw_m (RCheckTree_c b okb) byW byT ?_
    simp only [go_sem]
    repeat first | (with_reducible refine side_d ?_ ?_; exact byD) | (with_reducible refine side_q ?_ ?_; exact byQ)
    refine cx_sr ?_
    simp only [go_sem]
    repeat first | (with_reducible refine side_d ?_ ?_; exact byD) | (with_reducible refine side_q ?_ ?_; exact byQ)
    refine cx_ret ?_
    simp only [go_sem]
    exact finw_int (by rw [check2, if_neg (by simpa using h9)])
  ·
    (try simp only [go_sem] at h9)
    refine cx_skip ?_
    (try simp only [go_sem])
    refine cx_sr ?_
    simp only [go_sem]
    repeat first | (with_reducible refine side_d ?_ ?_; exact byD) | (with_reducible refine side_q ?_ ?_; exact byQ)
    refine cx_ret ?_
    simp only [go_sem]
    exact finw_int (by rw [check2, if_pos (by simpa using h9)])
theorem EqualFunc_c (a b : List Entry) (ha : a.length < 4611686018427387904) (hb : b.length < 4611686018427387904) : Meets Tryd.prog 45 [esV a, esV b, .fn 46 [] []] (.bool (likeL a b)) [] := by
  refine meets_x (fn := Tryd.f45) Tryd.func45 rfl fb45 (by kernel_rfl) (Nat.le_of_ble_eq_true rfl) ?_
  refine cx_sr ?_
  simp only [go_sem]
  repeat first | (with_reducible refine side_d ?_ ?_; exact byD) | (with_reducible refine side_q ?_ ?_; exact byQ)
  refine cx_seq ?_
  refine cx_sr ?_
  simp only [go_sem]
  repeat first | (with_reducible refine side_d ?_ ?_; exact byD) | (with_reducible refine side_q ?_ ?_; exact byQ)
  intro t14 e14
  repeat first | (with_reducible refine side_d ?_ ?_; exact byD) | (with_reducible refine side_q ?_ ?_; exact byQ)
  subst e14
  refine cx_if _ rfl (fun h14 => ?_) (fun h14 => ?_)
  ·
    (try simp only [go_sem] at h14)
    refine cx_sr ?_
    simp only [go_sem]
    repeat first | (with_reducible refine side_d ?_ ?_; exact byD) | (with_reducible refine side_q ?_ ?_; exact byQ)
    refine cx_ret ?_
    simp only [go_sem]
    refine finw_bool ?_
    have : ¬ a.map shapeE = b.map shapeE := fun e => by
      have := congrArg List.length e
      simp only [List.length_map] at this
      grind
    simp [likeL, this]
  ·
    (try simp only [go_sem] at h14)
    refine cx_skip ?_
    (try simp only [go_sem])
    refine cx_seq ?_
    refine cx_sr ?_
    simp only [go_sem]
    repeat first | (with_reducible refine side_d ?_ ?_; exact byD) | (with_reducible refine side_q ?_ ?_; exact byQ)
    refine cx_block ?_
    refine cx_loop0 (σ := Nat) (fun i => i ≤ a.length ∧ ∀ j, j < i → shapeE (a.getD j default) = shapeE (b.getD j default)) (fun i => [⟨17, 0, [], .int .i64 (i : Nat)⟩]) [1, 2, 15, 16] (fun i => a.length - i) 0 ⟨Nat.zero_le _, fun j hj => absurd hj (Nat.not_lt_zero j)⟩ (Nat.zero_le _) byC (fun i hI1 => ?_)
    simp only [go_sem]
    refine cx_sr ?_
    simp only [go_sem]
    repeat first | (with_reducible refine side_d ?_ ?_; exact byD) | (with_reducible refine side_q ?_ ?_; exact byQ)
    intro t18 e18
    repeat first | (with_reducible refine side_d ?_ ?_; exact byD) | (with_reducible refine side_q ?_ ?_; exact byQ)
    subst e18
    refine cx_seq ?_
    refine cx_if _ rfl (fun h18 => ?_) (fun h18 => ?_)
    ·
      (try simp only [go_sem] at h18)
      refine cx_skip ?_
      (try simp only [go_sem])
      refine cx_seq (cx_block ?_)
      refine cx_sr ?_
      simp only [go_sem]
      repeat first | (with_reducible refine side_d ?_ ?_; exact byD) | (with_reducible refine side_q ?_ ?_; exact byQ)
      refine cx_sr ?_
      simp only [go_sem]
      repeat first | (with_reducible refine side_d ?_ ?_; exact byD) | (with_reducible refine side_q ?_ ?_; exact byQ)
      refine cx_sr ?_
      simp only [go_sem]
      repeat first | (with_reducible refine side_d ?_ ?_; exact byD) | (with_reducible refine side_q ?_ ?_; exact byQ)
      refine cw_m (like_c (a.getD i default) (b.getD i default)) byW byT ?_
      simp only [go_sem]
      repeat first | (with_reducible refine side_d ?_ ?_; exact byD) | (with_reducible refine side_q ?_ ?_; exact byQ)
      intro t30 e30
      repeat first | (with_reducible refine side_d ?_ ?_; exact byD) | (with_reducible refine side_q ?_ ?_; exact byQ)
      subst e30
      refine cx_if _ rfl (fun h30 => ?_) (fun h30 => ?_)
      ·
        (try simp only [go_sem] at h30)
        refine cx_sr ?_
        simp only [go_sem]
        repeat first | (with_reducible refine side_d ?_ ?_; exact byD) | (with_reducible refine side_q ?_ ?_; exact byQ)
        refine cx_ret ?_
        simp only [go_sem]
        refine finw_bool ?_
        have : ¬ a.map shapeE = b.map shapeE := fun e => by
          have h1 := congrArg (fun z => z[i]?) e
          simp only [List.getElem?_map, List.getElem?_eq_getElem (show i < a.length by omega), List.getElem?_eq_getElem (show i < b.length by omega), Option.map_some, Option.some.injEq] at h1
          have e1 : a.getD i default = a[i] := by simp [List.getD, show i < a.length by omega]
          have e2 : b.getD i default = b[i] := by simp [List.getD, show i < b.length by omega]
          rw [e1, e2] at h30
          rw [likeB, h1] at h30
          simp at h30
        simp [likeL, this]
      ·
        (try simp only [go_sem] at h30)
        refine cx_skip ?_
        (try simp only [go_sem])
        refine cx_region ?_
        simp only [go_sem]
        repeat first | (with_reducible refine side_d ?_ ?_; exact byD) | (with_reducible refine side_q ?_ ?_; exact byQ)
        intro t31 e31
        (try replace e31 := w64 e31 (by omega) (by omega))
        repeat first | (with_reducible refine side_d ?_ ?_; exact byD) | (with_reducible refine side_q ?_ ?_; exact byQ)
        have hk : shapeE (a.getD i default) = shapeE (b.getD i default) := by simpa [likeB] using h30
        refine rnd_next (i + 1) ⟨by omega, all_next hI1.2 hk⟩ (by first | omega | (dsimp only; omega)) byC
    ·
      (try simp only [go_sem] at h18)
      refine cx_exit ?_
      simp only [go_sem]
      refine cx_sr ?_
      simp only [go_sem]
      repeat first | (with_reducible refine side_d ?_ ?_; exact byD) | (with_reducible refine side_q ?_ ?_; exact byQ)
      refine cx_ret ?_
      simp only [go_sem]
      refine finw_bool ?_
      have : a.map shapeE = b.map shapeE := by
        apply List.ext_getElem (by simp; omega)
        intro i h1 h2
        simp only [List.length_map] at h1 h2
        have := hI1.2 i (by omega)
        simpa [List.getD, h1, h2] using this
      simp [likeL, this]
theorem Same_c (a b : List Entry) (oka : okE a) (okb : okE b) : Meets Tryd.prog 20 [esV a, esV b] (.tup [.bool (decide (check2 a b = 0) && likeL a b), .int .i64 (check2 a b)]) [] := by
  refine meets_x (fn := Tryd.f20) Tryd.func20 rfl fb20 (by kernel_rfl) (Nat.le_of_ble_eq_true rfl) ?_
  refine cx_sr ?_
  simp only [go_sem]
  repeat first | (with_reducible refine side_d ?_ ?_; exact byD) | (with_reducible refine side_q ?_ ?_; exact byQ)
  refine cx_seq ?_
  refine cx_sr ?_
  simp only [go_sem]
  repeat first | (with_reducible refine side_d ?_ ?_; exact byD) | (with_reducible refine side_q ?_ ?_; exact byQ)
  refine cw_m (dcheck_c a b oka okb) byW byT ?_
  simp only [go_sem]
  repeat first | (with_reducible refine side_d ?_ ?_; exact byD) | (with_reducible refine side_q ?_ ?_; exact byQ)
  refine cx_sr ?_
  simp only [go_sem]
  repeat first | (with_reducible refine side_d ?_ ?_; exact byD) | (with_reducible refine side_q ?_ ?_; exact byQ)
  intro t11 e11
  repeat first | (with_reducible refine side_d ?_ ?_; exact byD) | (with_reducible refine side_q ?_ ?_; exact byQ)
  subst e11
  refine cx_if _ rfl (fun h11 => ?_) (fun h11 => ?_)
  ·
    (try simp only [go_sem] at h11)
    refine cx_sr ?_
    simp only [go_sem]
    repeat first | (with_reducible refine side_d ?_ ?_; exact byD) | (with_reducible refine side_q ?_ ?_; exact byQ)
    refine cx_ret ?_
    simp only [go_sem]
    refine finw_flat rfl ?_
    have h : ¬ check2 a b = 0 := by simpa using h11
    rw [decide_eq_false h, Bool.false_and]
    exact wk_refl _
  ·
    (try simp only [go_sem] at h11)
    refine cx_skip ?_
    (try simp only [go_sem])
    refine cx_sr ?_
    simp only [go_sem]
    repeat first | (with_reducible refine side_d ?_ ?_; exact byD) | (with_reducible refine side_q ?_ ?_; exact byQ)
    refine cw_m (EqualFunc_c a b (by have := oka.1; omega) (by have := okb.1; omega)) byW byT ?_
    simp only [go_sem]
    repeat first | (with_reducible refine side_d ?_ ?_; exact byD) | (with_reducible refine side_q ?_ ?_; exact byQ)
    refine cx_ret ?_
    simp only [go_sem]
    refine finw_flat rfl ?_
    have h : check2 a b = 0 := by simpa using h11
    rw [decide_eq_true h, Bool.true_and, h]
    exact wk_refl _
end Go.VM.Tryd
end
section
set_option linter.unusedVariables false
set_option linter.unusedSimpArgs false
open Go Go.VM Go.Proofs Tether
namespace Go.VM.Tryd
set_option maxRecDepth 100000
def badE (b : List Entry) (x : Entry) : Bool := match findE b x.path with | some y => y.folder != x.folder | none => true
def delC (x : Entry) : Change := ⟨4, x.path, [], [], -1⟩
def addC (x : Entry) : Change := ⟨if x.folder = true then 1 else 2, x.path, [], x.text, -1⟩
def stepD (b : List Entry) (s : List Change × List Str) (x : Entry) : List Change × List Str :=
  if (s.2.any fun p => isIn x.path p) = true then s else if badE b x = true then (s.1 ++ [delC x], s.2 ++ [x.path]) else s
def delsP (a b : List Entry) (i : Nat) : List Change × List Str := (a.take i).foldl (stepD b) ([], [])
def hasLike (a : List Entry) (x : Entry) : Bool := match findE a x.path with | some y => likeB y x | none => false
def addsP (a b : List Entry) (i : Nat) : List Change := ((b.take i).filter fun x => !hasLike a x).map addC
def diffP (a b : List Entry) : List Change := (delsP a b a.length).1 ++ addsP a b b.length
theorem dels_next {a b : List Entry} {i : Nat} (h : i < a.length) : delsP a b (i + 1) = stepD b (delsP a b i) (a.getD i default) := foldl_take _ _ _ _ h
theorem dels_len (a b : List Entry) : ∀ i, i ≤ a.length → (delsP a b i).1.length ≤ i ∧ (delsP a b i).2.length ≤ i
  | 0, _ => by simp [delsP]
  | i + 1, h => by
    have ih := dels_len a b i (by omega)
    rw [dels_next (by omega)]
    unfold stepD
    split
    · omega
    · split
      · simp; omega
      · omega
theorem dels_path (a b : List Entry) : ∀ i, i ≤ a.length → ∀ p ∈ (delsP a b i).2, ∃ x ∈ a, x.path = p
  | 0, _, p, hp => by simp [delsP] at hp
  | i + 1, h, p, hp => by
    have ih := dels_path a b i (by omega)
    rw [dels_next (by omega)] at hp
    unfold stepD at hp
    split at hp
    · exact ih p hp
    · split at hp
      · rcases List.mem_append.1 hp with hp | hp
        · exact ih p hp
        · exact ⟨a.getD i default, getD_mem (by omega), (List.mem_singleton.1 hp).symm⟩
      · exact ih p hp
theorem adds_next {a b : List Entry} {i : Nat} (h : i < b.length) : addsP a b (i + 1) = if hasLike a (b.getD i default) = true then addsP a b i else addsP a b i ++ [addC (b.getD i default)] := by
  unfold addsP
  rw [filter_snoc h]
  by_cases hl : hasLike a (b.getD i default) = true
  · rw [if_neg (by rw [hl]; decide), if_pos hl]
  · rw [if_pos (by rw [Bool.not_eq_true] at hl; rw [hl]; rfl), if_neg hl]
    simp
theorem adds_len (a b : List Entry) (i : Nat) : (addsP a b i).length ≤ i := by
  unfold addsP
  rw [List.length_map]
  have := List.length_filter_le (fun x => !hasLike a x) (b.take i)
  simp at this
  omega
def outD (a b : List Entry) (i : Nat) : List Change := (delsP a b a.length).1 ++ addsP a b i
theorem outD_len (a b : List Entry) (i : Nat) : (outD a b i).length ≤ a.length + i := by
  have h1 := adds_len a b i
  have h2 := (dels_len a b a.length (Nat.le_refl _)).1
  rw [outD, List.length_append]
  omega
theorem rawIn_c (p : Str) (x : Entry) (hp : p.length < 4611686018427387904) (hx : x.path.length < 4611686018427387904) : Meets Tryd.prog 65 [.str p, .iptr x.enc 0] (.bool (isIn x.path p)) [] := by
  refine meets_x (fn := Tryd.f65) Tryd.func65 rfl fb65 (by kernel_rfl) (Nat.le_of_ble_eq_true rfl) ?_
  refine cx_sr ?_
  simp only [go_sem]
  repeat first | (with_reducible refine side_d ?_ ?_; exact byD) | (with_reducible refine side_q ?_ ?_; exact byQ)
  refine cx_sr ?_
  simp only [go_sem]
  repeat first | (with_reducible refine side_d ?_ ?_; exact byD) | (with_reducible refine side_q ?_ ?_; exact byQ)
  refine cw_m (In_c x.path p hx hp) byW byT ?_
  simp only [go_sem]
  repeat first | (with_reducible refine side_d ?_ ?_; exact byD) | (with_reducible refine side_q ?_ ?_; exact byQ)
  refine cx_ret ?_
  simp only [go_sem]
  exact finw_bool rfl
theorem DRaw_c (a b : List Entry) (ha : SortedE a) (hb : SortedE b) (oka : okE a) (okb : okE b) : Meets Tryd.prog 44 [esV a, esV b] (.own none 0 5 0 (diffP a b).length .loose) [.arr 5 (diffP a b).length (En Change.enc default (diffP a b))] := by
  refine meets_x (fn := Tryd.f44) Tryd.func44 rfl fb44 (by kernel_rfl) (Nat.le_of_ble_eq_true rfl) ?_
  have hal := oka.1
  have hbl := okb.1
  have hix : ∀ (l : List Entry) p, hasE l p = true → eIx l p < l.length := fun l p h => by simp [hasE] at h; exact h.1
  refine cx_sr ?_
  simp only [go_sem]
  repeat first | (with_reducible refine side_d ?_ ?_; exact byD) | (with_reducible refine side_q ?_ ?_; exact byQ)
  refine cx_sr ?_
  simp only [go_sem]
  repeat first | (with_reducible refine side_d ?_ ?_; exact byD) | (with_reducible refine side_q ?_ ?_; exact byQ)
  refine cx_sr ?_
  simp only [go_sem]
  repeat first | (with_reducible refine side_d ?_ ?_; exact byD) | (with_reducible refine side_q ?_ ?_; exact byQ)
  refine cx_virt 5 5 (En Change.enc default []) rfl ?_
  refine cx_virt 6 1 (En strE' [] []) rfl ?_
  refine cx_seq ?_
  refine cx_sr ?_
  simp only [go_sem]
  repeat first | (with_reducible refine side_d ?_ ?_; exact byD) | (with_reducible refine side_q ?_ ?_; exact byQ)
  refine cx_block ?_
  refine cx_loopk (σ := Nat) (fun i => i ≤ a.length) (fun i => [⟨18, 0, [], .int .i64 (i : Nat)⟩, ⟨5, 0, [], .own none 0 5 0 (delsP a b i).1.length .loose⟩, ⟨6, 0, [], .own none 1 1 0 (delsP a b i).2.length .loose⟩]) [0, 1, 4, 16, 17] (fun i => [.arr 5 (delsP a b i).1.length (En Change.enc default (delsP a b i).1), .arr 1 (delsP a b i).2.length (En strE' [] (delsP a b i).2)]) (fun i => a.length - i) 0 (by first | trivial | omega | simp) (fun _ => (Nat.zero_le _)) byC (fun i hI1 => ?_)
  simp only [go_sem]
  have hdl := dels_len a b i hI1
  refine cx_sr ?_
  simp only [go_sem]
  repeat first | (with_reducible refine side_d ?_ ?_; exact byD) | (with_reducible refine side_q ?_ ?_; exact byQ)
  intro t19 e19
  repeat first | (with_reducible refine side_d ?_ ?_; exact byD) | (with_reducible refine side_q ?_ ?_; exact byQ)
  subst e19
  refine cx_seq ?_
  refine cx_if _ rfl (fun h19 => ?_) (fun h19 => ?_)
  ·
    (try simp only [go_sem] at h19)
    have hxl := oka.at (i := i) (by omega)
    have hpl : ∀ p ∈ (delsP a b i).2, p.length < 4611686018427387904 := fun p hp => by
      obtain ⟨x, hx, e⟩ := dels_path a b i hI1 p hp
      have := (oka.2 x hx).1
      rw [e] at this
      omega
    have hdn := dels_next (a := a) (b := b) (i := i) (by omega)
    refine cx_skip ?_
    (try simp only [go_sem])
    refine cx_seq (cx_block ?_)
    refine cx_sr ?_
    simp only [go_sem]
    repeat first | (with_reducible refine side_d ?_ ?_; exact byD) | (with_reducible refine side_q ?_ ?_; exact byQ)
    refine cx_seq ?_
    refine cx_sr ?_
    simp only [go_sem]
    repeat first | (with_reducible refine side_d ?_ ?_; exact byD) | (with_reducible refine side_q ?_ ?_; exact byQ)
    refine cw_v 2 (ContainsFunc_string 65 [.iptr (a.getD i default).enc 0] rfl (fun p => isIn (a.getD i default).path p) (delsP a b i).2 (fun p hp => rawIn_c p _ (hpl p hp) (by omega)) (by omega)) byV byC rfl ?_
    simp only [go_sem]
    repeat first | (with_reducible refine side_d ?_ ?_; exact byD) | (with_reducible refine side_q ?_ ?_; exact byQ)
    refine cx_if _ rfl (fun h24 => ?_) (fun h24 => ?_)
    ·
      (try simp only [go_sem] at h24)
      refine cx_exit ?_
      simp only [go_sem]
      refine cx_region ?_
      simp only [go_sem]
      repeat first | (with_reducible refine side_d ?_ ?_; exact byD) | (with_reducible refine side_q ?_ ?_; exact byQ)
      intro t55 e55
      (try replace e55 := w64 e55 (by omega) (by omega))
      repeat first | (with_reducible refine side_d ?_ ?_; exact byD) | (with_reducible refine side_q ?_ ?_; exact byQ)
      have hd : delsP a b (i + 1) = delsP a b i := by rw [hdn, stepD, if_pos h24]
      refine rnd_next (i + 1) (by omega) (by first | omega | (dsimp only; omega)) ?_
      rw [hd]
      exact byC
    ·
      (try simp only [go_sem] at h24)
      refine cx_skip ?_
      (try simp only [go_sem])
      refine cx_sr ?_
      simp only [go_sem]
      repeat first | (with_reducible refine side_d ?_ ?_; exact byD) | (with_reducible refine side_q ?_ ?_; exact byQ)
      refine cw_m (At_c b (a.getD i default).path hb (by omega)) byW byT ?_
      simp only [go_sem]
      repeat first | (with_reducible refine side_d ?_ ?_; exact byD) | (with_reducible refine side_q ?_ ?_; exact byQ)
      refine cx_seq (cx_draw mixed [] (.first 0 (.first 1 (.first 2 (.first 3 (.first 4 (.first 5 (.first 6 (.first 7 (.first 8 (.first 9 (.first 10 (.first 11 (.done))))))))))))) (by kernel_rfl) ?_)
      simp only [go_sem]
      repeat first | (with_reducible refine side_d ?_ ?_; exact byD) | (with_reducible refine side_q ?_ ?_; exact byQ)
      intro t33 e33
      repeat ((with_reducible first | refine side_d ?_ ?_ | refine side_q ?_ ?_); focus (first | exact byD | exact byQ | ((refine Sd.of fun hp => ?_; simp only [pc, and_true] at hp; (have hq := hix b (a.getD i default).path (by rw [e33] at hp; simpa using hp)); omega))))
      repeat first | (with_reducible refine side_d ?_ ?_; exact byD) | (with_reducible refine side_q ?_ ?_; exact byQ)
      intro t42 e42
      repeat first | (with_reducible refine side_d ?_ ?_; exact byD) | (with_reducible refine side_q ?_ ?_; exact byQ)
      intro t43 e43
      rw [bsel_or] at e43
      repeat first | (with_reducible refine side_d ?_ ?_; exact byD) | (with_reducible refine side_q ?_ ?_; exact byQ)
      subst e33 e42 e43
      refine cx_if _ rfl (fun h43 => ?_) (fun h43 => ?_)
      ·
        (try simp only [go_sem] at h43)
        refine cx_sr ?_
        simp only [go_sem]
        repeat first | (with_reducible refine side_d ?_ ?_; exact byD) | (with_reducible refine side_q ?_ ?_; exact byQ)
        refine cx_region ?_
        simp only [go_sem]
        repeat first | (with_reducible refine side_d ?_ ?_; exact byD) | (with_reducible refine side_q ?_ ?_; exact byQ)
        refine cx_region ?_
        simp only [go_sem]
        repeat first | (with_reducible refine side_d ?_ ?_; exact byD) | (with_reducible refine side_q ?_ ?_; exact byQ)
        intro t55 e55
        (try replace e55 := w64 e55 (by omega) (by omega))
        repeat first | (with_reducible refine side_d ?_ ?_; exact byD) | (with_reducible refine side_q ?_ ?_; exact byQ)
        have hb1 : badE b (a.getD i default) = true := by unfold badE; rw [findE_eq hb]; grind
        have hd : delsP a b (i + 1) = ((delsP a b i).1 ++ [delC (a.getD i default)], (delsP a b i).2 ++ [(a.getD i default).path]) := by rw [hdn, stepD, if_neg (by rw [h24]; decide), if_pos hb1]
        refine rnd_nextr (i + 1) [4, 6] (by omega) (by first | omega | (dsimp only; omega)) ⟨rfl, rfl, ?_, ?_⟩
        · rw [hd]; exact byC
        · rw [hd]
          simp only [go_sem, wk, wks, wkB, wkH, List.length_append, List.length_cons, List.length_nil]
          exact ⟨fun q hq => wks_mp_snoc (x := delC (a.getD i default)) (fun x => rnVs_no _ rfl) rfl hq, fun q hq => wks_mp_snoc (x := (a.getD i default).path) (fun x => rnVs_no _ rfl) rfl hq⟩
      ·
        (try simp only [go_sem] at h43)
        refine cx_skip ?_
        (try simp only [go_sem])
        refine cx_region ?_
        simp only [go_sem]
        repeat first | (with_reducible refine side_d ?_ ?_; exact byD) | (with_reducible refine side_q ?_ ?_; exact byQ)
        intro t55 e55
        (try replace e55 := w64 e55 (by omega) (by omega))
        repeat first | (with_reducible refine side_d ?_ ?_; exact byD) | (with_reducible refine side_q ?_ ?_; exact byQ)
        have hb1 : ¬ badE b (a.getD i default) = true := by unfold badE; rw [findE_eq hb]; grind
        have hd : delsP a b (i + 1) = delsP a b i := by rw [hdn, stepD, if_neg (by rw [h24]; decide), if_neg hb1]
        refine rnd_next (i + 1) (by omega) (by first | omega | (dsimp only; omega)) ?_
        rw [hd]
        exact byC
  ·
    (try simp only [go_sem] at h19)
    obtain rfl : i = a.length := by omega
    have e0 : (delsP a b a.length).1 = outD a b 0 := by simp [outD, addsP]
    rw [e0]
    refine cx_exit ?_
    simp only [go_sem]
    refine cx_seq ?_
    refine cx_sr ?_
    simp only [go_sem]
    repeat first | (with_reducible refine side_d ?_ ?_; exact byD) | (with_reducible refine side_q ?_ ?_; exact byQ)
    refine cx_block ?_
    refine cx_loopk (σ := Nat) (fun i => i ≤ b.length) (fun i => [⟨58, 0, [], .int .i64 (i : Nat)⟩, ⟨5, 0, [], .own none 0 5 0 (outD a b i).length .loose⟩]) [0, 4, 56, 57] (fun i => [.arr 5 (outD a b i).length (En Change.enc default (outD a b i)), .dead]) (fun i => b.length - i) 0 (by first | trivial | omega | simp) (fun _ => (Nat.zero_le _)) byC (fun i hI2 => ?_)
    simp only [go_sem]
    have hll := outD_len a b i
    refine cx_sr ?_
    simp only [go_sem]
    repeat first | (with_reducible refine side_d ?_ ?_; exact byD) | (with_reducible refine side_q ?_ ?_; exact byQ)
    intro t59 e59
    repeat first | (with_reducible refine side_d ?_ ?_; exact byD) | (with_reducible refine side_q ?_ ?_; exact byQ)
    subst e59
    refine cx_seq ?_
    refine cx_if _ rfl (fun h59 => ?_) (fun h59 => ?_)
    ·
      (try simp only [go_sem] at h59)
      have hyl := okb.at (i := i) (by omega)
      have han := adds_next (a := a) (b := b) (i := i) (by omega)
      refine cx_skip ?_
      (try simp only [go_sem])
      refine cx_seq (cx_block ?_)
      refine cx_sr ?_
      simp only [go_sem]
      repeat first | (with_reducible refine side_d ?_ ?_; exact byD) | (with_reducible refine side_q ?_ ?_; exact byQ)
      refine cx_sr ?_
      simp only [go_sem]
      repeat first | (with_reducible refine side_d ?_ ?_; exact byD) | (with_reducible refine side_q ?_ ?_; exact byQ)
      refine cw_m (At_c a (b.getD i default).path ha (by omega)) byW byT ?_
      simp only [go_sem]
      repeat first | (with_reducible refine side_d ?_ ?_; exact byD) | (with_reducible refine side_q ?_ ?_; exact byQ)
      refine cx_seq ?_
      refine cx_seq (cx_draw mixed [] (.first 0 (.first 1 (.first 2 (.first 3 (.first 4 (.first 5 (.first 6 (.one 7 (.first 8 (.done)))))))))) (by kernel_rfl) ?_)
      simp only [go_sem]
      repeat ((with_reducible first | refine side_d ?_ ?_ | refine side_q ?_ ?_); focus (first | exact byD | exact byQ | ((refine Sd.of fun hp => ?_; simp only [pc, and_true] at hp; (have hq := hix a (b.getD i default).path (by simpa using hp)); omega))))
      repeat first | (with_reducible refine side_d ?_ ?_; exact byD) | (with_reducible refine side_q ?_ ?_; exact byQ)
      refine ⟨_, fun hp => cwE_m (like_c (a.getD (eIx a (b.getD i default).path) default) (b.getD i default)) byW byT ⟨rfl, rfl⟩, ?_⟩
      simp only [go_sem]
      repeat first | (with_reducible refine side_d ?_ ?_; exact byD) | (with_reducible refine side_q ?_ ?_; exact byQ)
      intro t77 e77
      rw [bsel_and] at e77
      repeat first | (with_reducible refine side_d ?_ ?_; exact byD) | (with_reducible refine side_q ?_ ?_; exact byQ)
      subst e77
      refine cx_if _ rfl (fun h77 => ?_) (fun h77 => ?_)
      ·
        (try simp only [go_sem] at h77)
        refine cx_exit ?_
        simp only [go_sem]
        refine cx_region ?_
        simp only [go_sem]
        repeat first | (with_reducible refine side_d ?_ ?_; exact byD) | (with_reducible refine side_q ?_ ?_; exact byQ)
        intro t90 e90
        (try replace e90 := w64 e90 (by omega) (by omega))
        repeat first | (with_reducible refine side_d ?_ ?_; exact byD) | (with_reducible refine side_q ?_ ?_; exact byQ)
        have hl1 : hasLike a (b.getD i default) = true := by unfold hasLike; rw [findE_eq ha]; grind
        have hd : outD a b (i + 1) = outD a b i := by rw [outD, han, if_pos hl1, outD]
        refine rnd_next (i + 1) (by omega) (by first | omega | (dsimp only; omega)) ?_
        rw [hd]
        exact byC
      ·
        (try simp only [go_sem] at h77)
        refine cx_skip ?_
        (try simp only [go_sem])
        refine cx_sr ?_
        simp only [go_sem]
        repeat first | (with_reducible refine side_d ?_ ?_; exact byD) | (with_reducible refine side_q ?_ ?_; exact byQ)
        refine cx_seq ?_
        refine cx_sr ?_
        simp only [go_sem]
        repeat first | (with_reducible refine side_d ?_ ?_; exact byD) | (with_reducible refine side_q ?_ ?_; exact byQ)
        refine cx_meet (σ := Unit) (fun u => True) (fun u => []) [0, 4, 5, 15, 56, 57, 58] (fun u => [.arr 5 (outD a b i).length (En Change.enc default (outD a b i)), .dead, .box (b.getD i default).enc, .box [.int .i64 (if (b.getD i default).folder = true then 1 else 2), .str (b.getD i default).path, .str [], .str (b.getD i default).text, .int .i64 (-1)]]) (fun _ => (Nat.zero_le _)) ?_ (fun u hIM1 => ?_)
        ·
          refine cx_if _ rfl (fun h84 => ?_) (fun h84 => ?_)
          ·
            (try simp only [go_sem] at h84)
            refine cx_region ?_
            simp only [go_sem]
            repeat first | (with_reducible refine side_d ?_ ?_; exact byD) | (with_reducible refine side_q ?_ ?_; exact byQ)
            refine mt_next () trivial ?_
            rw [if_pos h84]
            exact byC
          ·
            (try simp only [go_sem] at h84)
            refine cx_skip ?_
            (try simp only [go_sem])
            refine mt_next () trivial ?_
            rw [if_neg (by simpa using h84)]
            exact byC
        simp only [go_sem]
        refine cx_region ?_
        simp only [go_sem]
        repeat first | (with_reducible refine side_d ?_ ?_; exact byD) | (with_reducible refine side_q ?_ ?_; exact byQ)
        refine cx_region ?_
        simp only [go_sem]
        repeat first | (with_reducible refine side_d ?_ ?_; exact byD) | (with_reducible refine side_q ?_ ?_; exact byQ)
        intro t90 e90
        (try replace e90 := w64 e90 (by omega) (by omega))
        repeat first | (with_reducible refine side_d ?_ ?_; exact byD) | (with_reducible refine side_q ?_ ?_; exact byQ)
        have hl1 : ¬ hasLike a (b.getD i default) = true := by unfold hasLike; rw [findE_eq ha]; grind
        have hd : outD a b (i + 1) = outD a b i ++ [addC (b.getD i default)] := by rw [outD, han, if_neg hl1, ← List.append_assoc, outD]
        refine rnd_nextr (i + 1) [5, 1] (by omega) (by first | omega | (dsimp only; omega)) ⟨rfl, rfl, ?_, ?_⟩
        · rw [hd]; exact byC
        · rw [hd]; skip
          simp only [go_sem, wk, wks, wkB, wkH, List.length_append, List.length_cons, List.length_nil]
          first | exact fun q hq => wks_mp_snoc (fun x => rnVs_no _ rfl) (by rfl) hq | (and_intros <;> first | trivial | rfl | (exact fun q hq => wks_mp_snoc (fun x => rnVs_no _ rfl) (by rfl) hq) | exact wks_refl _ | exact byC)
    ·
      (try simp only [go_sem] at h59)
      refine cx_exit ?_
      simp only [go_sem]
      refine cx_sr ?_
      simp only [go_sem]
      repeat first | (with_reducible refine side_d ?_ ?_; exact byD) | (with_reducible refine side_q ?_ ?_; exact byQ)
      refine cx_ret ?_
      simp only [go_sem]
      obtain rfl : i = b.length := by omega
      have hd : diffP a b = outD a b b.length := rfl
      rw [hd]
      exact finx_of 1 [0] rfl byC byC byC byC
end Go.VM.Tryd
end
section
set_option linter.unusedVariables false
set_option linter.unusedSimpArgs false
open Go Go.VM Go.Proofs Tether
namespace Go.VM.Tryd
set_option maxRecDepth 100000
theorem filter_full {l : List Entry} (g : FullT l) {p : Entry → Bool} (h : ∀ x ∈ l, ∀ y ∈ l, headOf x.path ≠ [] → y.path = headOf x.path → p x = true → p y = true) : FullT (l.filter p) := by
  refine ⟨Nat.le_trans (List.length_filter_le p l) g.len, fun x hx => g.ents x (List.mem_filter.1 hx).1, filter_sorted g.sorted p, fun x hx => ?_⟩
  obtain ⟨h1, h2⟩ := List.mem_filter.1 hx
  by_cases h0 : headOf x.path = []
  · exact .inl h0
  · rcases g.par x h1 with h3 | ⟨y, hy, h3, h4⟩
    · exact .inl h3
    · exact .inr ⟨y, List.mem_filter.2 ⟨hy, h x h1 y hy h0 h3 h2⟩, h3, h4⟩
def goneB (a b : List Entry) (i : Nat) (x : Entry) : Bool := (delsP a b i).2.any fun p => isIn x.path p
def leftP (a b : List Entry) (i : Nat) : List Entry := a.filter fun x => !goneB a b i x
theorem left_full {a b : List Entry} (g : FullT a) (i : Nat) : FullT (leftP a b i) := by
  refine filter_full g fun x _ y _ h0 h1 h2 => ?_
  simp only [goneB, Bool.not_eq_true', List.any_eq_false] at h2 ⊢
  intro p hp
  have := h2 p hp
  rw [h1]
  have h3 : isIn x.path p = false := by simpa using this
  simp [out_front h3 h0]
theorem left_mem {a b : List Entry} {i : Nat} {x : Entry} : x ∈ leftP a b i ↔ x ∈ a ∧ goneB a b i x = false := by
  unfold leftP
  rw [List.mem_filter]
  simp
theorem dels_bad (a b : List Entry) : ∀ i, i ≤ a.length → ∀ p ∈ (delsP a b i).2, ∃ x ∈ a, x.path = p ∧ badE b x = true
  | 0, _, p, hp => by simp [delsP] at hp
  | i + 1, h, p, hp => by
    have ih := dels_bad a b i (by omega)
    rw [dels_next (by omega)] at hp
    unfold stepD at hp
    split at hp
    · exact ih p hp
    · split at hp
      · rename_i hb
        rcases List.mem_append.1 hp with hp | hp
        · exact ih p hp
        · exact ⟨a.getD i default, getD_mem (by omega), (List.mem_singleton.1 hp).symm, hb⟩
      · exact ih p hp
theorem gone_mono (a b : List Entry) {i : Nat} (h : i < a.length) {x : Entry} (hx : goneB a b i x = true) : goneB a b (i + 1) x = true := by
  unfold goneB at hx ⊢
  rw [dels_next h]
  unfold stepD
  split
  · exact hx
  · split
    · rw [List.any_append, hx]; rfl
    · exact hx
theorem bad_gone (a b : List Entry) : ∀ i, i ≤ a.length → ∀ j, j < i → badE b (a.getD j default) = true → goneB a b i (a.getD j default) = true
  | 0, _, j, hj, _ => by omega
  | i + 1, h, j, hj, hb => by
    rcases Nat.lt_or_ge j i with h1 | h1
    · exact gone_mono a b (by omega) (bad_gone a b i (by omega) j h1 hb)
    · obtain rfl : j = i := by omega
      unfold goneB
      rw [dels_next (by omega)]
      unfold stepD
      split
      · rename_i h2; exact h2
      · first
          | (rw [if_pos hb, List.any_append]; simp [isIn_refl])
          | (show ((delsP a b j).2 ++ [(a.getD j default).path]).any _ = true; rw [List.any_append]; simp [isIn_refl])
theorem left_next {a b : List Entry} {i : Nat} (h : i < a.length) (h1 : goneB a b i (a.getD i default) = false) (h2 : badE b (a.getD i default) = true) : leftP a b (i + 1) = (leftP a b i).filter (outB (a.getD i default).path) := by
  have hd : delsP a b (i + 1) = ((delsP a b i).1 ++ [delC (a.getD i default)], (delsP a b i).2 ++ [(a.getD i default).path]) := by
    unfold goneB at h1
    rw [dels_next h, stepD, if_neg (by rw [h1]; decide), if_pos h2]
  unfold leftP
  rw [List.filter_filter]
  refine List.filter_congr fun x _ => ?_
  unfold goneB outB
  rw [hd]
  simp only [List.any_append, List.any_cons, List.any_nil, Bool.or_false, Bool.not_or]
  rw [Bool.and_comm]
theorem left_same {a b : List Entry} {i : Nat} (h : i < a.length) (h1 : goneB a b i (a.getD i default) = true ∨ badE b (a.getD i default) = false) : leftP a b (i + 1) = leftP a b i ∧ delsP a b (i + 1) = delsP a b i := by
  have hd : delsP a b (i + 1) = delsP a b i := by
    rw [dels_next h, stepD]
    rcases h1 with h1 | h1
    · unfold goneB at h1
      rw [if_pos h1]
    · split
      · rfl
      · rw [if_neg (by rw [h1]; decide)]
  refine ⟨?_, hd⟩
  unfold leftP goneB
  rw [hd]
theorem left_find {a b : List Entry} (g : FullT a) {i : Nat} {x : Entry} (hx : x ∈ a) : (findE (leftP a b i) x.path = none ↔ goneB a b i x = true) := by
  rw [findE_none]
  constructor
  · intro h
    cases hg : goneB a b i x with
    | true => rfl
    | false => exact absurd rfl (h x (left_mem.2 ⟨hx, hg⟩))
  · intro h y hy e
    obtain ⟨h1, h2⟩ := left_mem.1 hy
    rw [sorted_mem_inj g.sorted h1 hx e, h] at h2
    cases h2
/-- a deletion that is due may be made -/
theorem del_may {t : List Entry} (g : FullT t) {x : Entry} (hx : x ∈ t) {v : Int} : rawErr t (delC x) v = 0 := by
  have hp := g.path hx
  have hf : formP (delC x) = 0 := by simp [formP, delC, hp]
  have m : MayT t (delC x) := by
    refine ⟨?_, (fun k => absurd k (by show ¬ (4 : Int) = 1; decide)), (fun k => absurd k (by show ¬ (4 : Int) = 2; decide)), fun _ _ => ⟨x, hx, rfl⟩, (fun k => absurd k (by show ¬ (4 : Int) = 3; decide)), (fun k => absurd k (by show ¬ (4 : Int) = 3; decide))⟩
    exact g.par x hx
  have hm : mayP t (delC x) = 0 := may_of g.sorted ⟨by show (1 : Int) ≤ 4; decide, by show (4 : Int) ≤ 4; decide⟩ m fun hb => absurd rfl hb
  have hd : doneErr t (delC x) v = 0 := by
    unfold doneErr
    rw [if_neg (by rintro ⟨h, _⟩; exact absurd h (by show ¬ (4 : Int) = 3; decide)), if_neg]
    have : (madeP t (delC x) v).length ≤ t.length := List.length_filter_le (outB x.path) t
    have := g.len
    omega
  rw [rawErr, if_neg (by simp [hf]), if_neg (by simp [hm]), hd]
theorem badE_iff {b : List Entry} (g : FullT b) {x : Entry} : badE b x = false ↔ ∃ y ∈ b, y.path = x.path ∧ y.folder = x.folder := by
  unfold badE
  cases hf : findE b x.path with
  | none =>
    constructor
    · intro h; cases h
    · rintro ⟨y, hy, h1, _⟩
      exact absurd h1 (findE_none.1 hf y hy)
  | some z =>
    obtain ⟨h1, h2⟩ := findE_some hf
    constructor
    · intro h
      exact ⟨z, h1, h2, by simpa using h⟩
    · rintro ⟨y, hy, h3, h4⟩
      have e := sorted_mem_inj g.sorted h1 hy (h2.trans h3.symm)
      subst e
      show (z.folder != x.folder) = false
      rw [h4]
      simp
theorem left_bad {a b : List Entry} {y : Entry} (h : y ∈ leftP a b a.length) : badE b y = false := by
  obtain ⟨h1, h2⟩ := left_mem.1 h
  obtain ⟨j, hj, rfl⟩ := List.getElem_of_mem h1
  cases hb : badE b a[j] with
  | false => rfl
  | true =>
    have e : a.getD j default = a[j] := by simp [List.getD, hj]
    have := bad_gone a b a.length (Nat.le_refl _) j hj (by rw [e]; exact hb)
    rw [e, h2] at this
    cases this
theorem folder_text {x : Entry} (h : entErr x = 0) (hf : x.folder = true) : x.text = [] := by
  have := (entErr_iff.1 h).2.1
  rw [hf] at this
  simpa using this
/-- whether something must be written, by what is left -/
theorem hasLike_left {a b : List Entry} (ga : FullT a) (gb : FullT b) {x : Entry} (hx : x ∈ b) :
    hasLike a x = match findE (leftP a b a.length) x.path with | some y => x.folder || decide (y.text = x.text) | none => false := by
  have gl := left_full (b := b) ga a.length
  cases hf : findE (leftP a b a.length) x.path with
  | some y =>
    obtain ⟨h1, h2⟩ := findE_some hf
    have hya := (left_mem.1 h1).1
    obtain ⟨z, hz, h3, h4⟩ := (badE_iff gb).1 (left_bad h1)
    have hzx := sorted_mem_inj gb.sorted hz hx (h3.trans h2)
    subst hzx
    have hfa : findE a z.path = some y := by rw [← h2]; exact findE_mem ga.sorted hya
    rw [hasLike, hfa]
    show likeB y z = (z.folder || decide (y.text = z.text))
    unfold likeB shapeE
    rw [h2, ← h4]
    by_cases hfo : z.folder = true
    · have t1 := folder_text (gb.ents z hz) hfo
      have t2 := folder_text (ga.ents y hya) (by rw [← h4]; exact hfo)
      rw [t1, t2, hfo]
      simp
    · have hfo : z.folder = false := by simpa using hfo
      rw [hfo]
      simp
  | none =>
    show hasLike a x = false
    rw [hasLike]
    cases hfa : findE a x.path with
    | none => rfl
    | some y =>
      obtain ⟨h1, h2⟩ := findE_some hfa
      have hg : goneB a b a.length y = true := by
        rw [← left_find ga h1, h2]
        exact hf
      show likeB y x = false
      unfold goneB at hg
      obtain ⟨p, hp, hin⟩ := List.any_eq_true.1 hg
      obtain ⟨z, hz, hzp, hzb⟩ := dels_bad a b a.length (Nat.le_refl _) p hp
      have hpne : p ≠ [] := by rw [← hzp]; exact pass_ne (ga.path hz)
      by_cases hyp : y.path = p
      · have hyz := sorted_mem_inj ga.sorted h1 hz (hyp.trans hzp.symm)
        rw [← hyz] at hzb
        unfold badE at hzb
        rw [h2, findE_mem gb.sorted hx] at hzb
        unfold likeB shapeE
        refine decide_eq_false fun e => ?_
        simp only [Prod.mk.injEq] at e
        have : x.folder ≠ y.folder := by simpa using hzb
        exact this e.2.1.symm
      · exfalso
        obtain ⟨z', hz', h3, h4⟩ := ga.above hpne h1 hin
        have hzz := sorted_mem_inj ga.sorted hz' hz (h3.trans hzp.symm)
        have hzf : z.folder = true := by rw [← hzz]; exact h4 hyp
        obtain ⟨w, hw, h5, h6⟩ := gb.above hpne hx (by rw [← h2]; exact hin)
        have hwf : w.folder = true := h6 (by rw [← h2]; exact hyp)
        have : badE b z = false := (badE_iff gb).2 ⟨w, hw, h5.trans hzp.symm, by rw [hwf, hzf]⟩
        rw [this] at hzb
        cases hzb
end Go.VM.Tryd
end
section
set_option linter.unusedVariables false
set_option linter.unusedSimpArgs false
open Go Go.VM Go.Proofs Tether
namespace Go.VM.Tryd
set_option maxRecDepth 100000
set_option maxHeartbeats 4000000
theorem left_0 (a b : List Entry) : leftP a b 0 = a := by
  unfold leftP goneB delsP
  simp
attribute [go_sem] left_0
theorem DiffOf_c (a b : List Entry) (ga : FullT a) (gb : FullT b) : Meets Tryd.prog 17 [esV a, esV b] (.own none 0 5 0 (diffP a b).length .loose) [.arr 5 (diffP a b).length (En Change.enc default (diffP a b))] := by
  refine meets_x (fn := Tryd.f17) Tryd.func17 rfl fb17 (by kernel_rfl) (Nat.le_of_ble_eq_true rfl) ?_
  have hal := ga.len
  have hbl := gb.len
  refine cx_sr ?_
  simp only [go_sem]
  repeat first | (with_reducible refine side_d ?_ ?_; exact byD) | (with_reducible refine side_q ?_ ?_; exact byQ)
  refine cx_sr ?_
  simp only [go_sem]
  repeat first | (with_reducible refine side_d ?_ ?_; exact byD) | (with_reducible refine side_q ?_ ?_; exact byQ)
  refine cx_virt 5 5 (En Change.enc default []) rfl ?_
  simp only [go_sem]
  refine cx_sr ?_
  simp only [go_sem]
  repeat first | (with_reducible refine side_d ?_ ?_; exact byD) | (with_reducible refine side_q ?_ ?_; exact byQ)
  refine cx_seq ?_
  refine cx_sr ?_
  simp only [go_sem]
  repeat first | (with_reducible refine side_d ?_ ?_; exact byD) | (with_reducible refine side_q ?_ ?_; exact byQ)
  refine cx_block ?_
  refine cx_loopk (σ := Nat) (fun i => i ≤ a.length) (fun i => [⟨7, 0, [], .int .i64 (i : Nat)⟩, ⟨5, 0, [], .own none 0 5 0 (delsP a b i).1.length .loose⟩, ⟨6, 0, [], esV (leftP a b i)⟩]) [0, 1, 4] (fun i => [.arr 5 (delsP a b i).1.length (En Change.enc default (delsP a b i).1)]) (fun i => a.length - i) 0 (by first | trivial | omega | simp) (fun _ => (Nat.zero_le _)) byC (fun i hI1 => ?_)
  simp only [go_sem]
  have hdl := dels_len a b i hI1
  have gl := left_full (b := b) ga i
  have gll := gl.len
  refine cx_seq ?_
  refine cx_sr ?_
  simp only [go_sem]
  repeat first | (with_reducible refine side_d ?_ ?_; exact byD) | (with_reducible refine side_q ?_ ?_; exact byQ)
  intro t17 e17
  repeat first | (with_reducible refine side_d ?_ ?_; exact byD) | (with_reducible refine side_q ?_ ?_; exact byQ)
  subst e17
  refine cx_if _ rfl (fun h17 => ?_) (fun h17 => ?_)
  ·
    (try simp only [go_sem] at h17)
    have hxm : a.getD i default ∈ a := getD_mem (by omega)
    have hlf := left_find (b := b) ga (i := i) hxm
    refine cx_skip ?_
    (try simp only [go_sem])
    refine cx_seq (cx_block ?_)
    refine cx_seq ?_
    refine cx_sr ?_
    simp only [go_sem]
    repeat first | (with_reducible refine side_d ?_ ?_; exact byD) | (with_reducible refine side_q ?_ ?_; exact byQ)
    refine cw_m (EntryAt_c (leftP a b i) (a.getD i default).path (by omega)) byW byT ?_
    simp only [go_sem]
    repeat first | (with_reducible refine side_d ?_ ?_; exact byD) | (with_reducible refine side_q ?_ ?_; exact byQ)
    intro t27 e27
    repeat first | (with_reducible refine side_d ?_ ?_; exact byD) | (with_reducible refine side_q ?_ ?_; exact byQ)
    subst e27
    refine cx_if _ rfl (fun h27 => ?_) (fun h27 => ?_)
    ·
      (try simp only [go_sem] at h27)
      refine cx_exit ?_
      simp only [go_sem]
      refine cx_region ?_
      simp only [go_sem]
      repeat first | (with_reducible refine side_d ?_ ?_; exact byD) | (with_reducible refine side_q ?_ ?_; exact byQ)
      intro t19 e19
      (try replace e19 := w64 e19 (by omega) (by omega))
      repeat first | (with_reducible refine side_d ?_ ?_; exact byD) | (with_reducible refine side_q ?_ ?_; exact byQ)
      have hg : goneB a b i (a.getD i default) = true := by
        rw [← hlf]
        rcases find_idx (leftP a b i) (a.getD i default).path with ⟨_, h2⟩ | ⟨k, h1, _⟩
        · exact h2
        · omega
      obtain ⟨e1, e2⟩ := left_same (a := a) (b := b) (by omega) (.inl hg)
      refine rnd_next (i + 1) (by omega) (by first | omega | (dsimp only; omega)) ?_
      rw [e1, e2]
      exact byC
    ·
      (try simp only [go_sem] at h27)
      have hng : goneB a b i (a.getD i default) = false := by
        cases hg : goneB a b i (a.getD i default) with
        | false => rfl
        | true =>
          rw [← hlf] at hg
          rcases find_idx (leftP a b i) (a.getD i default).path with ⟨h1, _⟩ | ⟨k, _, _, h3⟩
          · omega
          · rw [hg] at h3; cases h3
      have hxl : a.getD i default ∈ leftP a b i := left_mem.2 ⟨hxm, hng⟩
      refine cx_skip ?_
      (try simp only [go_sem])
      refine cx_sr ?_
      simp only [go_sem]
      repeat first | (with_reducible refine side_d ?_ ?_; exact byD) | (with_reducible refine side_q ?_ ?_; exact byQ)
      refine cw_m (EntryAt_c b (a.getD i default).path (by omega)) byW byT ?_
      simp only [go_sem]
      repeat first | (with_reducible refine side_d ?_ ?_; exact byD) | (with_reducible refine side_q ?_ ?_; exact byQ)
      refine cx_seq (cx_draw mixed [] (.first 0 (.first 1 (.first 2 (.first 3 (.first 4 (.first 5 (.first 6 (.first 7 (.first 8 (.first 9 (.first 10 (.first 11 (.first 12 (.first 13 (.first 14 (.done)))))))))))))))) (by kernel_rfl) ?_)
      simp only [go_sem]
      repeat first | (with_reducible refine side_d ?_ ?_; exact byD) | (with_reducible refine side_q ?_ ?_; exact byQ)
      intro t36 e36
      repeat ((with_reducible first | refine side_d ?_ ?_ | refine side_q ?_ ?_); focus (first | exact byD | exact byQ | ((refine Sd.of fun hp => ?_; simp only [pc, and_true] at hp; (have q := find_idx b (a.getD i default).path); grind))))
      repeat first | (with_reducible refine side_d ?_ ?_; exact byD) | (with_reducible refine side_q ?_ ?_; exact byQ)
      intro t48 e48
      repeat first | (with_reducible refine side_d ?_ ?_; exact byD) | (with_reducible refine side_q ?_ ?_; exact byQ)
      intro t49 e49
      rw [bsel_or] at e49
      repeat first | (with_reducible refine side_d ?_ ?_; exact byD) | (with_reducible refine side_q ?_ ?_; exact byQ)
      subst e36 e48 e49
      refine cx_if _ rfl (fun h49 => ?_) (fun h49 => ?_)
      ·
        (try simp only [go_sem] at h49)
        refine cx_sr ?_
        simp only [go_sem]
        repeat first | (with_reducible refine side_d ?_ ?_; exact byD) | (with_reducible refine side_q ?_ ?_; exact byQ)
        refine cx_sr ?_
        simp only [go_sem]
        repeat first | (with_reducible refine side_d ?_ ?_; exact byD) | (with_reducible refine side_q ?_ ?_; exact byQ)
        refine cx_region ?_
        simp only [go_sem]
        repeat first | (with_reducible refine side_d ?_ ?_; exact byD) | (with_reducible refine side_q ?_ ?_; exact byQ)
        refine cw_m (ChangeOfF_c (leftP a b i) (delC (a.getD i default)) 1 gl.good ⟨by show (a.getD i default).path.length ≤ 1048576; have := checkP_len (ga.path hxm); omega, by simp [delC], by simp [delC]⟩) byW byT ?_
        simp only [go_sem]
        repeat first | (with_reducible refine side_d ?_ ?_; exact byD) | (with_reducible refine side_q ?_ ?_; exact byQ)
        refine cx_region ?_
        simp only [go_sem]
        repeat first | (with_reducible refine side_d ?_ ?_; exact byD) | (with_reducible refine side_q ?_ ?_; exact byQ)
        intro t19 e19
        (try replace e19 := w64 e19 (by omega) (by omega))
        repeat first | (with_reducible refine side_d ?_ ?_; exact byD) | (with_reducible refine side_q ?_ ?_; exact byQ)
        have hb1 : badE b (a.getD i default) = true := by
          unfold badE
          rcases find_idx b (a.getD i default).path with ⟨h1, h2⟩ | ⟨k, h1, h2, h3⟩
          · rw [h2]
          · rw [h3]
            rw [h1] at h49
            rcases h49 with h | h
            · omega
            · simp only [Int.toNat_natCast] at h
              simpa using h
        have hn := left_next (by omega) hng hb1
        have hr : rawP (leftP a b i) (delC (a.getD i default)) 1 = leftP a b (i + 1) := by
          rw [rawP, if_pos (del_may gl hxl), hn]
          rfl
        have hd : (delsP a b (i + 1)).1 = (delsP a b i).1 ++ [delC (a.getD i default)] := by
          have hng' := hng
          unfold goneB at hng'
          rw [dels_next (by omega), stepD, if_neg (by rw [hng']; decide), if_pos hb1]
        refine rnd_nextr (i + 1) [3] (by omega) (by first | omega | (dsimp only; omega)) ⟨rfl, rfl, ?_, ?_⟩
        · rw [hd, ← hr]; exact byC
        · rw [hd]
          simp only [go_sem, wk, wks, wkB, wkH, List.length_append, List.length_cons, List.length_nil]
          exact fun q hq => wks_mp_snoc (x := delC (a.getD i default)) (fun x => rnVs_no _ rfl) rfl hq
      ·
        (try simp only [go_sem] at h49)
        refine cx_skip ?_
        (try simp only [go_sem])
        refine cx_region ?_
        simp only [go_sem]
        repeat first | (with_reducible refine side_d ?_ ?_; exact byD) | (with_reducible refine side_q ?_ ?_; exact byQ)
        intro t19 e19
        (try replace e19 := w64 e19 (by omega) (by omega))
        repeat first | (with_reducible refine side_d ?_ ?_; exact byD) | (with_reducible refine side_q ?_ ?_; exact byQ)
        have hb1 : badE b (a.getD i default) = false := by
          unfold badE
          rcases find_idx b (a.getD i default).path with ⟨h1, h2⟩ | ⟨k, h1, h2, h3⟩
          · exfalso
            rw [h1] at h49
            simp at h49
          · rw [h3]
            rw [h1] at h49
            simp only [Int.toNat_natCast] at h49
            simpa using h49.2
        obtain ⟨e1, e2⟩ := left_same (a := a) (b := b) (by omega) (.inr hb1)
        refine rnd_next (i + 1) (by omega) (by first | omega | (dsimp only; omega)) ?_
        rw [e1, e2]
        exact byC
  ·
    (try simp only [go_sem] at h17)
    obtain rfl : i = a.length := by omega
    have e0 : (delsP a b a.length).1 = outD a b 0 := by simp [outD, addsP]
    rw [e0]
    refine cx_exit ?_
    simp only [go_sem]
    refine cx_seq ?_
    refine cx_sr ?_
    simp only [go_sem]
    repeat first | (with_reducible refine side_d ?_ ?_; exact byD) | (with_reducible refine side_q ?_ ?_; exact byQ)
    refine cx_block ?_
    refine cx_loopk (σ := Nat) (fun i => i ≤ b.length) (fun i => [⟨10, 0, [], .int .i64 (i : Nat)⟩, ⟨5, 0, [], .own none 0 5 0 (outD a b i).length .loose⟩]) [1, 4, 6] (fun i => [.arr 5 (outD a b i).length (En Change.enc default (outD a b i))]) (fun i => b.length - i) 0 (by first | trivial | omega | simp) (fun _ => (Nat.zero_le _)) byC (fun i hI2 => ?_)
    simp only [go_sem]
    have hll := outD_len a b i
    refine cx_seq ?_
    refine cx_sr ?_
    simp only [go_sem]
    repeat first | (with_reducible refine side_d ?_ ?_; exact byD) | (with_reducible refine side_q ?_ ?_; exact byQ)
    intro t69 e69
    repeat first | (with_reducible refine side_d ?_ ?_; exact byD) | (with_reducible refine side_q ?_ ?_; exact byQ)
    subst e69
    refine cx_if _ rfl (fun h69 => ?_) (fun h69 => ?_)
    ·
      (try simp only [go_sem] at h69)
      have hym : b.getD i default ∈ b := getD_mem (by omega)
      have hlk := hasLike_left ga gb hym
      have han := adds_next (a := a) (b := b) (i := i) (by omega)
      refine cx_skip ?_
      (try simp only [go_sem])
      refine cx_seq (cx_block ?_)
      refine cx_sr ?_
      simp only [go_sem]
      repeat first | (with_reducible refine side_d ?_ ?_; exact byD) | (with_reducible refine side_q ?_ ?_; exact byQ)
      refine cw_m (EntryAt_c (leftP a b a.length) (b.getD i default).path (by have := (left_full (b := b) ga a.length).len; omega)) byW byT ?_
      simp only [go_sem]
      repeat first | (with_reducible refine side_d ?_ ?_; exact byD) | (with_reducible refine side_q ?_ ?_; exact byQ)
      refine cx_seq ?_
      refine cx_seq (cx_draw mixed [] (.first 0 (.first 1 (.first 2 (.first 3 (.first 4 (.first 5 (.first 6 (.first 7 (.first 8 (.first 9 (.first 10 (.first 11 (.first 12 (.first 13 (.first 14 (.first 15 (.first 16 (.first 17 (.first 18 (.first 19 (.first 20 (.first 21 (.done))))))))))))))))))))))) (by kernel_rfl) ?_)
      simp only [go_sem]
      repeat first | (with_reducible refine side_d ?_ ?_; exact byD) | (with_reducible refine side_q ?_ ?_; exact byQ)
      intro t80 e80
      repeat ((with_reducible first | refine side_d ?_ ?_ | refine side_q ?_ ?_); focus (first | exact byD | exact byQ | ((refine Sd.of fun hp => ?_; simp only [pc, and_true] at hp; (have q := find_idx (leftP a b a.length) (b.getD i default).path); grind))))
      repeat first | (with_reducible refine side_d ?_ ?_; exact byD) | (with_reducible refine side_q ?_ ?_; exact byQ)
      intro t98 e98
      repeat first | (with_reducible refine side_d ?_ ?_; exact byD) | (with_reducible refine side_q ?_ ?_; exact byQ)
      intro t99 e99
      rw [bsel_or] at e99
      repeat first | (with_reducible refine side_d ?_ ?_; exact byD) | (with_reducible refine side_q ?_ ?_; exact byQ)
      intro t100 e100
      rw [bsel_and] at e100
      repeat first | (with_reducible refine side_d ?_ ?_; exact byD) | (with_reducible refine side_q ?_ ?_; exact byQ)
      subst e80 e98 e99 e100
      refine cx_if _ rfl (fun h100 => ?_) (fun h100 => ?_)
      ·
        (try simp only [go_sem] at h100)
        refine cx_exit ?_
        simp only [go_sem]
        refine cx_region ?_
        simp only [go_sem]
        repeat first | (with_reducible refine side_d ?_ ?_; exact byD) | (with_reducible refine side_q ?_ ?_; exact byQ)
        intro t71 e71
        (try replace e71 := w64 e71 (by omega) (by omega))
        repeat first | (with_reducible refine side_d ?_ ?_; exact byD) | (with_reducible refine side_q ?_ ?_; exact byQ)
        have hl1 : hasLike a (b.getD i default) = true := by
          rw [hlk]
          rcases find_idx (leftP a b a.length) (b.getD i default).path with ⟨h1, h2⟩ | ⟨k, h1, h2, h3⟩
          · rw [h1] at h100
            exact absurd h100.1 (by decide)
          · rw [h3]
            rw [h1] at h100
            simp only [Int.toNat_natCast] at h100
            simpa using h100.2
        have hd : outD a b (i + 1) = outD a b i := by rw [outD, han, if_pos hl1, outD]
        refine rnd_next (i + 1) (by omega) (by first | omega | (dsimp only; omega)) ?_
        rw [hd]
        exact byC
      ·
        (try simp only [go_sem] at h100)
        refine cx_skip ?_
        (try simp only [go_sem])
        refine cx_seq (cx_draw mixed [12] (.first 0 (.first 1 (.first 2 (.first 3 (.first 4 (.first 5 (.first 6 (.first 7 (.first 8 (.first 9 (.first 10 (.one 11 (.one 12 (.done)))))))))))))) (by kernel_rfl) ?_)
        simp only [go_sem]
        repeat first | (with_reducible refine side_d ?_ ?_; exact byD) | (with_reducible refine side_q ?_ ?_; exact byQ)
        refine cx_seq ?_
        refine cx_sr ?_
        simp only [go_sem]
        repeat first | (with_reducible refine side_d ?_ ?_; exact byD) | (with_reducible refine side_q ?_ ?_; exact byQ)
        refine cx_meet (σ := Unit) (fun u => True) (fun u => []) [1, 4, 5, 6, 10, 12] (fun u => [.arr 5 (outD a b i).length (En Change.enc default (outD a b i)), .box [.int .i64 (if (b.getD i default).folder = true then 1 else 2), .str (b.getD i default).path, .str [], .str (b.getD i default).text, .int .i64 (-1)]]) (fun _ => (Nat.zero_le _)) ?_ (fun u hIM1 => ?_)
        ·
          refine cx_if _ rfl (fun h116 => ?_) (fun h116 => ?_)
          ·
            (try simp only [go_sem] at h116)
            refine cx_region ?_
            simp only [go_sem]
            repeat first | (with_reducible refine side_d ?_ ?_; exact byD) | (with_reducible refine side_q ?_ ?_; exact byQ)
            refine mt_next () trivial ?_
            rw [if_pos h116]
            exact byC
          ·
            (try simp only [go_sem] at h116)
            refine cx_skip ?_
            (try simp only [go_sem])
            refine mt_next () trivial ?_
            rw [if_neg (by simpa using h116)]
            exact byC
        simp only [go_sem]
        refine cx_region ?_
        simp only [go_sem]
        repeat first | (with_reducible refine side_d ?_ ?_; exact byD) | (with_reducible refine side_q ?_ ?_; exact byQ)
        refine cx_region ?_
        simp only [go_sem]
        repeat first | (with_reducible refine side_d ?_ ?_; exact byD) | (with_reducible refine side_q ?_ ?_; exact byQ)
        intro t71 e71
        (try replace e71 := w64 e71 (by omega) (by omega))
        repeat first | (with_reducible refine side_d ?_ ?_; exact byD) | (with_reducible refine side_q ?_ ?_; exact byQ)
        have hl1 : ¬ hasLike a (b.getD i default) = true := by
          rw [hlk]
          rcases find_idx (leftP a b a.length) (b.getD i default).path with ⟨h1, h2⟩ | ⟨k, h1, h2, h3⟩
          · rw [h2]; simp
          · rw [h3]
            rw [h1] at h100
            simp only [Int.toNat_natCast] at h100
            simp only [Bool.or_eq_true, decide_eq_true_eq]
            intro h
            grind
        have hd : outD a b (i + 1) = outD a b i ++ [addC (b.getD i default)] := by rw [outD, han, if_neg hl1, ← List.append_assoc, outD]
        refine rnd_nextr (i + 1) [3] (by omega) (by first | omega | (dsimp only; omega)) ⟨rfl, rfl, ?_, ?_⟩
        · rw [hd]; exact byC
        · rw [hd]; skip
          simp only [go_sem, wk, wks, wkB, wkH, List.length_append, List.length_cons, List.length_nil]
          first | exact fun q hq => wks_mp_snoc (fun x => rnVs_no _ rfl) (by rfl) hq | (and_intros <;> first | trivial | rfl | (exact fun q hq => wks_mp_snoc (fun x => rnVs_no _ rfl) (by rfl) hq) | exact wks_refl _ | exact byC)
    ·
      (try simp only [go_sem] at h69)
      refine cx_exit ?_
      simp only [go_sem]
      refine cx_sr ?_
      simp only [go_sem]
      repeat first | (with_reducible refine side_d ?_ ?_; exact byD) | (with_reducible refine side_q ?_ ?_; exact byQ)
      refine cx_ret ?_
      simp only [go_sem]
      obtain rfl : i = b.length := by omega
      have hd : diffP a b = outD a b b.length := rfl
      rw [hd]
      exact finx_of 1 [0] rfl byC byC byC byC
end Go.VM.Tryd
end
section
set_option linter.unusedVariables false
set_option linter.unusedSimpArgs false
open Go Go.VM Go.Proofs Tether
namespace Go.VM.Tryd
set_option maxRecDepth 100000
theorem check2_iff {a b : List Entry} : check2 a b = 0 ↔ FullT a ∧ FullT b := by
  unfold check2
  constructor
  · intro h
    have h1 : checkT a = 0 := by grind
    have h2 : checkT b = 0 := by grind
    exact ⟨checkT_iff.1 h1, checkT_iff.1 h2⟩
  · rintro ⟨h1, h2⟩
    rw [if_neg (by simp [checkT_iff.2 h1]), checkT_iff.2 h2]
def diffC (a b : List Entry) : List Change := if check2 a b = 0 then diffP a b else []
theorem diffP_len (a b : List Entry) : (diffP a b).length ≤ a.length + b.length := outD_len a b b.length
theorem diffC_len (a b : List Entry) : (diffC a b).length ≤ a.length + b.length := by
  have := diffP_len a b
  unfold diffC
  split
  · omega
  · simp
theorem Diff_c (a b : List Entry) (oka : okE a) (okb : okE b) : Meets Tryd.prog 15 [esV a, esV b] (.tup [.own none 0 5 0 (diffC a b).length .loose, .int .i64 (check2 a b)]) [.arr 5 (diffC a b).length (En Change.enc default (diffC a b))] := by
  refine meets_x (fn := Tryd.f15) Tryd.func15 rfl fb15 (by kernel_rfl) (Nat.le_of_ble_eq_true rfl) ?_
  refine cx_sr ?_
  simp only [go_sem]
  repeat first | (with_reducible refine side_d ?_ ?_; exact byD) | (with_reducible refine side_q ?_ ?_; exact byQ)
  refine cx_seq ?_
  refine cx_sr ?_
  simp only [go_sem]
  repeat first | (with_reducible refine side_d ?_ ?_; exact byD) | (with_reducible refine side_q ?_ ?_; exact byQ)
  refine cw_m (dcheck_c a b oka okb) byW byT ?_
  simp only [go_sem]
  repeat first | (with_reducible refine side_d ?_ ?_; exact byD) | (with_reducible refine side_q ?_ ?_; exact byQ)
  refine cx_sr ?_
  simp only [go_sem]
  repeat first | (with_reducible refine side_d ?_ ?_; exact byD) | (with_reducible refine side_q ?_ ?_; exact byQ)
  intro t11 e11
  repeat first | (with_reducible refine side_d ?_ ?_; exact byD) | (with_reducible refine side_q ?_ ?_; exact byQ)
  subst e11
  refine cx_if _ rfl (fun h11 => ?_) (fun h11 => ?_)
  ·
    (try simp only [go_sem] at h11)
    refine cx_sr ?_
    simp only [go_sem]
    repeat first | (with_reducible refine side_d ?_ ?_; exact byD) | (with_reducible refine side_q ?_ ?_; exact byQ)
    refine cx_virt 4 5 (En Change.enc default []) rfl ?_
    simp only [go_sem]
    refine cx_ret ?_
    simp only [go_sem]
    have h : ¬ check2 a b = 0 := by simpa using h11
    have hd : diffC a b = [] := by rw [diffC, if_neg h]
    rw [hd]
    exact finx_of 1 [0] rfl byC byC byC byC
  ·
    (try simp only [go_sem] at h11)
    have hc : check2 a b = 0 := by simpa using h11
    obtain ⟨ga, gb⟩ := check2_iff.1 hc
    refine cx_skip ?_
    (try simp only [go_sem])
    refine cx_sr ?_
    simp only [go_sem]
    repeat first | (with_reducible refine side_d ?_ ?_; exact byD) | (with_reducible refine side_q ?_ ?_; exact byQ)
    refine cw_m (DRaw_c a b ga.sorted gb.sorted oka okb) byW byT ?_
    simp only [go_sem]
    repeat first | (with_reducible refine side_d ?_ ?_; exact byD) | (with_reducible refine side_q ?_ ?_; exact byQ)
    refine cx_ret ?_
    simp only [go_sem]
    have hd : diffC a b = diffP a b := by rw [diffC, if_pos hc]
    rw [hd, hc]
    exact finx_of 1 [0] rfl byC byC byC byC
theorem deltaBegun_c : Meets Tryd.prog 18 [] (.bool true) [] := by
  refine meets_x (fn := Tryd.f18) Tryd.func18 rfl fb18 (by kernel_rfl) (Nat.le_of_ble_eq_true rfl) ?_
  have h1 : diffC [] [⟨[97], false, [120], 1⟩] = [⟨2, [97], [], [120], -1⟩] := by decide +kernel
  have h2 : check2 [] [⟨[97], false, [120], 1⟩] = 0 := by decide +kernel
  have hA := Diff_c [] [⟨[97], false, [120], 1⟩] (by simp [okE]) (by simp [okE])
  rw [h1, h2] at hA
  dsimp only [List.length] at hA
  refine cx_sr ?_
  simp only [go_sem]
  repeat first | (with_reducible refine side_d ?_ ?_; exact byD) | (with_reducible refine side_q ?_ ?_; exact byQ)
  refine cx_sr ?_
  simp only [go_sem]
  repeat first | (with_reducible refine side_d ?_ ?_; exact byD) | (with_reducible refine side_q ?_ ?_; exact byQ)
  refine cw_n 2 (hA) byV byC rfl byN ?_
  simp only [go_sem]
  repeat first | (with_reducible refine side_d ?_ ?_; exact byD) | (with_reducible refine side_q ?_ ?_; exact byQ)
  refine cx_sr ?_
  simp only [go_sem]
  repeat first | (with_reducible refine side_d ?_ ?_; exact byD) | (with_reducible refine side_q ?_ ?_; exact byQ)
  intro t10 e10
  repeat first | (with_reducible refine side_d ?_ ?_; exact byD) | (with_reducible refine side_q ?_ ?_; exact byQ)
  intro t14 e14
  repeat first | (with_reducible refine side_d ?_ ?_; exact byD) | (with_reducible refine side_q ?_ ?_; exact byQ)
  intro t15 e15
  rw [bsel_and] at e15
  repeat ((with_reducible first | refine side_d ?_ ?_ | refine side_q ?_ ?_); focus (first | exact byD | exact byQ | ((refine Sd.mk ?_; decide))))
  repeat first | (with_reducible refine side_d ?_ ?_; exact byD) | (with_reducible refine side_q ?_ ?_; exact byQ)
  intro t21 e21
  repeat first | (with_reducible refine side_d ?_ ?_; exact byD) | (with_reducible refine side_q ?_ ?_; exact byQ)
  intro t22 e22
  rw [bsel_and] at e22
  repeat first | (with_reducible refine side_d ?_ ?_; exact byD) | (with_reducible refine side_q ?_ ?_; exact byQ)
  subst e10 e14 e15 e21 e22
  refine cx_ret ?_
  simp only [go_sem]
  exact finw_bool (by simp)
theorem DeltaSame_c (a b : List Entry) (oka : okE a) (okb : okE b) : Meets Tryd.prog 4 [esV a, esV b] (.bool true) [] := by
  refine meets_x (fn := Tryd.f4) Tryd.func4 rfl fb4 (by kernel_rfl) (Nat.le_of_ble_eq_true rfl) ?_
  refine cx_sr ?_
  simp only [go_sem]
  repeat first | (with_reducible refine side_d ?_ ?_; exact byD) | (with_reducible refine side_q ?_ ?_; exact byQ)
  refine cx_sr ?_
  simp only [go_sem]
  repeat first | (with_reducible refine side_d ?_ ?_; exact byD) | (with_reducible refine side_q ?_ ?_; exact byQ)
  refine cw_m (Same_c a b oka okb) byW byT ?_
  simp only [go_sem]
  repeat first | (with_reducible refine side_d ?_ ?_; exact byD) | (with_reducible refine side_q ?_ ?_; exact byQ)
  refine cx_sr ?_
  simp only [go_sem]
  repeat first | (with_reducible refine side_d ?_ ?_; exact byD) | (with_reducible refine side_q ?_ ?_; exact byQ)
  refine cw_m (twoTrees_c a b oka okb) byW byT ?_
  simp only [go_sem]
  repeat first | (with_reducible refine side_d ?_ ?_; exact byD) | (with_reducible refine side_q ?_ ?_; exact byQ)
  refine cx_sr ?_
  simp only [go_sem]
  repeat first | (with_reducible refine side_d ?_ ?_; exact byD) | (with_reducible refine side_q ?_ ?_; exact byQ)
  refine cw_m (deltaBegun_c) byW byT ?_
  simp only [go_sem]
  repeat first | (with_reducible refine side_d ?_ ?_; exact byD) | (with_reducible refine side_q ?_ ?_; exact byQ)
  intro t21 e21
  repeat first | (with_reducible refine side_d ?_ ?_; exact byD) | (with_reducible refine side_q ?_ ?_; exact byQ)
  intro t22 e22
  rw [bsel_and] at e22
  repeat first | (with_reducible refine side_d ?_ ?_; exact byD) | (with_reducible refine side_q ?_ ?_; exact byQ)
  intro t26 e26
  repeat first | (with_reducible refine side_d ?_ ?_; exact byD) | (with_reducible refine side_q ?_ ?_; exact byQ)
  refine ⟨_, fun hp => cw_m (LikeTrees_c a b (by have := oka.1; omega) (by have := okb.1; omega)) byW byT ⟨rfl, rfl⟩, ?_⟩
  simp only [go_sem]
  repeat first | (with_reducible refine side_d ?_ ?_; exact byD) | (with_reducible refine side_q ?_ ?_; exact byQ)
  intro t31 e31
  rw [bsel_and] at e31
  repeat first | (with_reducible refine side_d ?_ ?_; exact byD) | (with_reducible refine side_q ?_ ?_; exact byQ)
  intro t32 e32
  repeat first | (with_reducible refine side_d ?_ ?_; exact byD) | (with_reducible refine side_q ?_ ?_; exact byQ)
  intro t33 e33
  rw [bsel_and] at e33
  repeat first | (with_reducible refine side_d ?_ ?_; exact byD) | (with_reducible refine side_q ?_ ?_; exact byQ)
  subst e21 e22 e26 e31 e32 e33
  refine cx_ret ?_
  simp only [go_sem]
  exact finw_bool (by simp)
theorem DeltaDiffs_c (a b : List Entry) (oka : okE a) (okb : okE b) : Meets Tryd.prog 3 [esV a, esV b] (.bool true) [] := by
  refine meets_x (fn := Tryd.f3) Tryd.func3 rfl fb3 (by kernel_rfl) (Nat.le_of_ble_eq_true rfl) ?_
  have hl1 := oka.1
  have hl2 := okb.1
  have hl3 := diffC_len a b
  have hl4 := diffP_len a b
  refine cx_sr ?_
  simp only [go_sem]
  repeat first | (with_reducible refine side_d ?_ ?_; exact byD) | (with_reducible refine side_q ?_ ?_; exact byQ)
  refine cx_sr ?_
  simp only [go_sem]
  repeat first | (with_reducible refine side_d ?_ ?_; exact byD) | (with_reducible refine side_q ?_ ?_; exact byQ)
  refine cw_m (Diff_c a b oka okb) byW byT ?_
  simp only [go_sem]
  repeat first | (with_reducible refine side_d ?_ ?_; exact byD) | (with_reducible refine side_q ?_ ?_; exact byQ)
  refine cx_sr ?_
  simp only [go_sem]
  repeat first | (with_reducible refine side_d ?_ ?_; exact byD) | (with_reducible refine side_q ?_ ?_; exact byQ)
  refine cw_m (twoTrees_c a b oka okb) byW byT ?_
  simp only [go_sem]
  repeat first | (with_reducible refine side_d ?_ ?_; exact byD) | (with_reducible refine side_q ?_ ?_; exact byQ)
  refine cx_sr ?_
  simp only [go_sem]
  repeat first | (with_reducible refine side_d ?_ ?_; exact byD) | (with_reducible refine side_q ?_ ?_; exact byQ)
  refine cx_virt 8 5 (En Change.enc default []) rfl ?_
  simp only [go_sem]
  refine cx_seq ?_
  refine cx_sr ?_
  simp only [go_sem]
  repeat first | (with_reducible refine side_d ?_ ?_; exact byD) | (with_reducible refine side_q ?_ ?_; exact byQ)
  intro t19 e19
  repeat first | (with_reducible refine side_d ?_ ?_; exact byD) | (with_reducible refine side_q ?_ ?_; exact byQ)
  subst e19
  refine cx_meet (σ := List Change) (fun m => m = diffC a b) (fun m => [⟨8, 0, [], .own none 1 5 0 m.length .loose⟩]) [4, 5, 6, 7] (fun m => [.arr 5 (diffC a b).length (En Change.enc default (diffC a b)), .arr 5 m.length (En Change.enc default m)]) (fun _ => (Nat.zero_le _)) ?_ (fun m hIM1 => ?_)
  ·
    refine cx_if _ rfl (fun h19 => ?_) (fun h19 => ?_)
    ·
      (try simp only [go_sem] at h19)
      have hc : check2 a b = 0 := by simpa using h19
      obtain ⟨ga, gb⟩ := check2_iff.1 hc
      refine cx_region ?_
      simp only [go_sem]
      repeat first | (with_reducible refine side_d ?_ ?_; exact byD) | (with_reducible refine side_q ?_ ?_; exact byQ)
      refine cw_m (DiffOf_c a b ga gb) byW byT ?_
      simp only [go_sem]
      repeat first | (with_reducible refine side_d ?_ ?_; exact byD) | (with_reducible refine side_q ?_ ?_; exact byQ)
      refine mt_nextr (diffP a b) [0, 2] (by rw [diffC, if_pos hc]) ⟨rfl, rfl, byC, byC⟩
    ·
      (try simp only [go_sem] at h19)
      refine cx_skip ?_
      (try simp only [go_sem])
      have hn : ¬ check2 a b = 0 := by simpa using h19
      refine mt_next [] (by rw [diffC, if_neg hn]) byC
  simp only [go_sem]
  refine cx_sr ?_
  simp only [go_sem]
  repeat first | (with_reducible refine side_d ?_ ?_; exact byD) | (with_reducible refine side_q ?_ ?_; exact byQ)
  refine cw_m (deltaBegun_c) byW byT ?_
  simp only [go_sem]
  repeat first | (with_reducible refine side_d ?_ ?_; exact byD) | (with_reducible refine side_q ?_ ?_; exact byQ)
  intro t27 e27
  repeat first | (with_reducible refine side_d ?_ ?_; exact byD) | (with_reducible refine side_q ?_ ?_; exact byQ)
  intro t28 e28
  rw [bsel_and] at e28
  repeat first | (with_reducible refine side_d ?_ ?_; exact byD) | (with_reducible refine side_q ?_ ?_; exact byQ)
  refine ⟨_, fun hp => cw_v 2 (SameChanges_c (diffC a b) m (by omega) (by rw [hIM1]; omega)) byV byC rfl ⟨rfl, rfl⟩, ?_⟩
  simp only [go_sem]
  repeat first | (with_reducible refine side_d ?_ ?_; exact byD) | (with_reducible refine side_q ?_ ?_; exact byQ)
  intro t33 e33
  rw [bsel_and] at e33
  repeat first | (with_reducible refine side_d ?_ ?_; exact byD) | (with_reducible refine side_q ?_ ?_; exact byQ)
  subst e27 e28 e33
  refine cx_ret ?_
  simp only [go_sem]
  refine finw_bool ?_
  rw [hIM1]
  simp [sameL]
end Go.VM.Tryd
end
section
set_option linter.unusedVariables false
set_option linter.unusedSimpArgs false
open Go Go.VM Go.Proofs Tether
namespace Go.VM.Tryd
set_option maxRecDepth 100000
def patchRun (v : Int) : List Entry → List Change → List Entry × Int
  | t, [] => (t, 0)
  | t, c :: cs => if applyErr t c v ≠ 0 then ([], applyErr t c v) else patchRun v (madeP t c v) cs
def patchP (a : List Entry) (l : List Change) (v : Int) : List Entry × Int := if checkT a ≠ 0 then ([], checkT a) else if 120 < (l.length : Int) then ([], 2) else patchRun v a l
theorem patchRun_err : ∀ (cs : List Change) (t : List Entry) (v : Int), (patchRun v t cs).2 ≠ 0 → (patchRun v t cs).1 = []
  | [], t, v, h => absurd rfl h
  | c :: cs, t, v, h => by
    unfold patchRun at h ⊢
    split
    · rfl
    · rename_i hc
      rw [if_neg hc] at h
      exact patchRun_err cs _ v h
theorem patchRun_full : ∀ (cs : List Change) (t : List Entry) (v : Int), FullT t → (patchRun v t cs).2 = 0 → FullT (patchRun v t cs).1
  | [], t, v, g, h => g
  | c :: cs, t, v, g, h => by
    unfold patchRun at h ⊢
    split
    · rename_i hc
      rw [if_pos hc] at h
      exact absurd h hc
    · rename_i hc
      rw [if_neg hc] at h
      obtain ⟨_, h2, h3, _⟩ := apply_0 (show applyErr t c v = 0 by simpa using hc)
      exact patchRun_full cs _ v (made_full g h2 h3) h
theorem patchP_len (a : List Entry) (l : List Change) (v : Int) : (patchP a l v).1.length ≤ 60 := by
  unfold patchP
  split
  · simp
  · split
    · simp
    · rename_i h1 _
      have g := checkT_iff.1 (show checkT a = 0 by simpa using h1)
      by_cases h : (patchRun v a l).2 = 0
      · exact (patchRun_full l a v g h).len
      · rw [patchRun_err l a v h]
        simp
theorem Patch_c (a : List Entry) (l : List Change) (v : Int) (oka : okE a) (okl : okCs l) : Meets Tryd.prog 37 [esV a, csV l, .int .i64 v]
    (.tup [.own none 0 4 0 (patchP a l v).1.length .loose, .int .i64 (patchP a l v).2]) [.arr 4 (patchP a l v).1.length (En Entry.enc default (patchP a l v).1)] := by
  refine meets_x (fn := Tryd.f37) Tryd.func37 rfl fb37 (by kernel_rfl) (Nat.le_of_ble_eq_true rfl) ?_
  have hal := oka.1
  have hll := okl.1
  refine cx_sr ?_
  simp only [go_sem]
  repeat first | (with_reducible refine side_d ?_ ?_; exact byD) | (with_reducible refine side_q ?_ ?_; exact byQ)
  refine cx_seq ?_
  refine cx_sr ?_
  simp only [go_sem]
  repeat first | (with_reducible refine side_d ?_ ?_; exact byD) | (with_reducible refine side_q ?_ ?_; exact byQ)
  refine cw_m (TCheck_c a oka) byW byT ?_
  simp only [go_sem]
  repeat first | (with_reducible refine side_d ?_ ?_; exact byD) | (with_reducible refine side_q ?_ ?_; exact byQ)
  refine cx_sr ?_
  simp only [go_sem]
  repeat first | (with_reducible refine side_d ?_ ?_; exact byD) | (with_reducible refine side_q ?_ ?_; exact byQ)
  intro t16 e16
  repeat first | (with_reducible refine side_d ?_ ?_; exact byD) | (with_reducible refine side_q ?_ ?_; exact byQ)
  subst e16
  refine cx_if _ rfl (fun h16 => ?_) (fun h16 => ?_)
  ·
    (try simp only [go_sem] at h16)
    refine cx_sr ?_
    simp only [go_sem]
    repeat first | (with_reducible refine side_d ?_ ?_; exact byD) | (with_reducible refine side_q ?_ ?_; exact byQ)
    refine cx_virt 6 4 (En Entry.enc default []) rfl ?_
    simp only [go_sem]
    refine cx_ret ?_
    simp only [go_sem]
    have he : patchP a l v = ([], checkT a) := by rw [patchP, if_pos (by simpa using h16)]
    rw [he]
    exact finx_of 1 [0] rfl byC byC byC byC
  ·
    (try simp only [go_sem] at h16)
    have hck : checkT a = 0 := by simpa using h16
    have g := checkT_iff.1 hck
    refine cx_skip ?_
    (try simp only [go_sem])
    refine cx_seq ?_
    refine cx_sr ?_
    simp only [go_sem]
    repeat first | (with_reducible refine side_d ?_ ?_; exact byD) | (with_reducible refine side_q ?_ ?_; exact byQ)
    intro t20 e20
    repeat first | (with_reducible refine side_d ?_ ?_; exact byD) | (with_reducible refine side_q ?_ ?_; exact byQ)
    subst e20
    refine cx_if _ rfl (fun h20 => ?_) (fun h20 => ?_)
    ·
      (try simp only [go_sem] at h20)
      refine cx_sr ?_
      simp only [go_sem]
      repeat first | (with_reducible refine side_d ?_ ?_; exact byD) | (with_reducible refine side_q ?_ ?_; exact byQ)
      refine cx_virt 6 4 (En Entry.enc default []) rfl ?_
      simp only [go_sem]
      refine cx_ret ?_
      simp only [go_sem]
      have he : patchP a l v = ([], 2) := by rw [patchP, if_neg (by simpa using hck), if_pos (by omega)]
      rw [he]
      exact finx_of 1 [0] rfl byC byC byC byC
    ·
      (try simp only [go_sem] at h20)
      have hpp : patchP a l v = patchRun v a l := by rw [patchP, if_neg (by simpa using hck), if_neg (by omega)]
      refine cx_skip ?_
      (try simp only [go_sem])
      refine cx_sr ?_
      simp only [go_sem]
      repeat first | (with_reducible refine side_d ?_ ?_; exact byD) | (with_reducible refine side_q ?_ ?_; exact byQ)
      refine cw_m (Clone_Entry a (by omega)) byW byT ?_
      simp only [go_sem]
      repeat first | (with_reducible refine side_d ?_ ?_; exact byD) | (with_reducible refine side_q ?_ ?_; exact byQ)
      refine cx_seq ?_
      refine cx_sr ?_
      simp only [go_sem]
      repeat first | (with_reducible refine side_d ?_ ?_; exact byD) | (with_reducible refine side_q ?_ ?_; exact byQ)
      refine cx_block ?_
      refine cx_loopk (σ := Nat × List Entry) (fun s => s.1 ≤ l.length ∧ FullT s.2 ∧ patchP a l v = patchRun v s.2 (l.drop s.1)) (fun s => [⟨25, 0, [], .int .i64 (s.1 : Nat)⟩, ⟨0, 0, [], .own none 0 4 0 s.2.length .loose⟩]) [2, 23, 24] (fun s => [.arr 4 s.2.length (En Entry.enc default s.2)]) (fun s => l.length - s.1) (0, a) ⟨Nat.zero_le _, g, hpp⟩ (fun _ => (Nat.zero_le _)) byC (fun s hI1 => ?_)
      simp only [go_sem]
      obtain ⟨i1, i2, i3⟩ := hI1
      refine cx_sr ?_
      simp only [go_sem]
      repeat first | (with_reducible refine side_d ?_ ?_; exact byD) | (with_reducible refine side_q ?_ ?_; exact byQ)
      intro t26 e26
      repeat first | (with_reducible refine side_d ?_ ?_; exact byD) | (with_reducible refine side_q ?_ ?_; exact byQ)
      subst e26
      refine cx_seq ?_
      refine cx_if _ rfl (fun h26 => ?_) (fun h26 => ?_)
      ·
        (try simp only [go_sem] at h26)
        have hcm : l.getD s.1 default ∈ l := getD_mem (by omega)
        have hdr : l.drop s.1 = l.getD s.1 default :: l.drop (s.1 + 1) := by
          rw [List.drop_eq_getElem_cons (by omega)]
          simp [List.getD, show s.1 < l.length by omega]
        refine cx_skip ?_
        (try simp only [go_sem])
        refine cx_seq (cx_block ?_)
        refine cx_sr ?_
        simp only [go_sem]
        repeat first | (with_reducible refine side_d ?_ ?_; exact byD) | (with_reducible refine side_q ?_ ?_; exact byQ)
        refine cx_sr ?_
        simp only [go_sem]
        repeat first | (with_reducible refine side_d ?_ ?_; exact byD) | (with_reducible refine side_q ?_ ?_; exact byQ)
        refine cw_n 2 (Apply_c s.2 (l.getD s.1 default) v i2.ok (okl.2 _ hcm)) byV byC rfl byN ?_
        simp only [go_sem]
        repeat first | (with_reducible refine side_d ?_ ?_; exact byD) | (with_reducible refine side_q ?_ ?_; exact byQ)
        refine cx_seq ?_
        refine cx_sr ?_
        simp only [go_sem]
        repeat first | (with_reducible refine side_d ?_ ?_; exact byD) | (with_reducible refine side_q ?_ ?_; exact byQ)
        intro t37 e37
        repeat first | (with_reducible refine side_d ?_ ?_; exact byD) | (with_reducible refine side_q ?_ ?_; exact byQ)
        subst e37
        refine cx_if _ rfl (fun h37 => ?_) (fun h37 => ?_)
        ·
          (try simp only [go_sem] at h37)
          refine cx_sr ?_
          simp only [go_sem]
          repeat first | (with_reducible refine side_d ?_ ?_; exact byD) | (with_reducible refine side_q ?_ ?_; exact byQ)
          refine cx_virt 6 4 (En Entry.enc default []) rfl ?_
          simp only [go_sem]
          refine cx_ret ?_
          simp only [go_sem]
          have he : patchP a l v = ([], applyErr s.2 (l.getD s.1 default) v) := by rw [i3, hdr, patchRun, if_pos (by simpa using h37)]
          rw [he]
          exact finx_of 1 [3] rfl byC byC byC byC
        ·
          (try simp only [go_sem] at h37)
          refine cx_skip ?_
          (try simp only [go_sem])
          refine cx_region ?_
          simp only [go_sem]
          repeat first | (with_reducible refine side_d ?_ ?_; exact byD) | (with_reducible refine side_q ?_ ?_; exact byQ)
          refine cx_region ?_
          simp only [go_sem]
          repeat first | (with_reducible refine side_d ?_ ?_; exact byD) | (with_reducible refine side_q ?_ ?_; exact byQ)
          intro t40 e40
          (try replace e40 := w64 e40 (by omega) (by omega))
          repeat first | (with_reducible refine side_d ?_ ?_; exact byD) | (with_reducible refine side_q ?_ ?_; exact byQ)
          have h0 : applyErr s.2 (l.getD s.1 default) v = 0 := by simpa using h37
          obtain ⟨_, q2, q3, q4⟩ := apply_0 h0
          refine rnd_nextr (s.1 + 1, madeP s.2 (l.getD s.1 default) v) [2] ⟨by dsimp only; omega, made_full i2 q2 q3, ?_⟩ (by first | omega | (dsimp only; omega)) ⟨rfl, rfl, ?_, ?_⟩
          · rw [i3, hdr, patchRun, if_neg (by simpa using h0)]
          · rw [q4]; exact byC
          · rw [q4]; exact byC
      ·
        (try simp only [go_sem] at h26)
        refine cx_exit ?_
        simp only [go_sem]
        refine cx_sr ?_
        simp only [go_sem]
        repeat first | (with_reducible refine side_d ?_ ?_; exact byD) | (with_reducible refine side_q ?_ ?_; exact byQ)
        refine cx_ret ?_
        simp only [go_sem]
        have hi : s.1 = l.length := by omega
        have he : patchP a l v = (s.2, 0) := by rw [i3, hi, List.drop_length, patchRun]
        rw [he]
        exact finx_of 1 [0] rfl byC byC byC byC
theorem apply_raw {t : List Entry} {c : Change} {v : Int} (g : FullT t) : applyErr t c v = if verB v = false then 3 else rawErr t c v := by
  rw [applyErr, if_neg (by simp [checkT_iff.2 g])]
theorem DeltaPatches_c (a : List Entry) (l : List Change) (v : Int) (oka : okE a) (okl : okCs l) : Meets Tryd.prog 12 [esV a, csV l, .int .i64 v] (.bool true) [] := by
  refine meets_x (fn := Tryd.f12) Tryd.func12 rfl fb12 (by kernel_rfl) (Nat.le_of_ble_eq_true rfl) ?_
  have hal := oka.1
  have hll := okl.1
  have hpl := patchP_len a l v
  refine cx_sr ?_
  simp only [go_sem]
  repeat first | (with_reducible refine side_d ?_ ?_; exact byD) | (with_reducible refine side_q ?_ ?_; exact byQ)
  refine cx_sr ?_
  simp only [go_sem]
  repeat first | (with_reducible refine side_d ?_ ?_; exact byD) | (with_reducible refine side_q ?_ ?_; exact byQ)
  refine cw_m (Patch_c a l v oka okl) byW byT ?_
  simp only [go_sem]
  repeat first | (with_reducible refine side_d ?_ ?_; exact byD) | (with_reducible refine side_q ?_ ?_; exact byQ)
  refine cx_sr ?_
  simp only [go_sem]
  repeat first | (with_reducible refine side_d ?_ ?_; exact byD) | (with_reducible refine side_q ?_ ?_; exact byQ)
  refine cw_m (RCheckTree_c a oka) byW byT ?_
  simp only [go_sem]
  repeat first | (with_reducible refine side_d ?_ ?_; exact byD) | (with_reducible refine side_q ?_ ?_; exact byQ)
  refine cx_seq ?_
  refine cx_sr ?_
  simp only [go_sem]
  repeat first | (with_reducible refine side_d ?_ ?_; exact byD) | (with_reducible refine side_q ?_ ?_; exact byQ)
  intro t22 e22
  repeat first | (with_reducible refine side_d ?_ ?_; exact byD) | (with_reducible refine side_q ?_ ?_; exact byQ)
  intro t26 e26
  repeat first | (with_reducible refine side_d ?_ ?_; exact byD) | (with_reducible refine side_q ?_ ?_; exact byQ)
  intro t27 e27
  rw [bsel_and] at e27
  repeat first | (with_reducible refine side_d ?_ ?_; exact byD) | (with_reducible refine side_q ?_ ?_; exact byQ)
  subst e22 e26 e27
  refine cx_meet0 (σ := Int) (fun w => (w = 0 → FullT a ∧ patchP a l v = patchRun v a l) ∧ (w ≠ 0 → patchP a l v = ([], w))) (fun w => [⟨9, 0, [], .int .i64 w⟩]) [0, 1, 2, 6, 7, 8] (Nat.zero_le _) ?_ (fun w hIM1 => ?_)
  ·
    refine cx_if _ rfl (fun h27 => ?_) (fun h27 => ?_)
    ·
      (try simp only [go_sem] at h27)
      refine cx_region ?_
      simp only [go_sem]
      repeat first | (with_reducible refine side_d ?_ ?_; exact byD) | (with_reducible refine side_q ?_ ?_; exact byQ)
      have he : patchP a l v = ([], 2) := by
        have h1 : checkT a = 0 := by grind
        rw [patchP, if_neg (by simpa using h1), if_pos (by grind)]
      refine mt_next 2 ⟨by omega, fun _ => he⟩ byC
    ·
      (try simp only [go_sem] at h27)
      refine cx_skip ?_
      (try simp only [go_sem])
      refine mt_next (checkT a) ⟨fun h => ⟨checkT_iff.1 h, by rw [patchP, if_neg (by simpa using h), if_neg (by grind)]⟩, fun h => by rw [patchP, if_pos h]⟩ byC
  simp only [go_sem]
  refine cx_sr ?_
  simp only [go_sem]
  repeat first | (with_reducible refine side_d ?_ ?_; exact byD) | (with_reducible refine side_q ?_ ?_; exact byQ)
  refine cx_seq ?_
  refine cx_sr ?_
  simp only [go_sem]
  repeat first | (with_reducible refine side_d ?_ ?_; exact byD) | (with_reducible refine side_q ?_ ?_; exact byQ)
  refine cx_block ?_
  refine cx_loop0 (σ := Nat × List Entry × Int) (fun s => s.1 ≤ l.length ∧ (s.2.2 = 0 → FullT s.2.1 ∧ patchP a l v = patchRun v s.2.1 (l.drop s.1)) ∧ (s.2.2 ≠ 0 → patchP a l v = ([], s.2.2)) ∧ s.2.1.length ≤ 1048576) (fun s => [⟨11, 0, [], .int .i64 (s.1 : Nat)⟩, ⟨10, 0, [], esV s.2.1⟩, ⟨9, 0, [], .int .i64 s.2.2⟩]) [1, 2, 6, 7, 8] (fun s => l.length - s.1) (0, a, w) ⟨Nat.zero_le _, hIM1.1, hIM1.2, hal⟩ (Nat.zero_le _) byC (fun s hI1 => ?_)
  simp only [go_sem]
  obtain ⟨i1, i2, i3, i4⟩ := hI1
  refine cx_seq ?_
  refine cx_sr ?_
  simp only [go_sem]
  repeat first | (with_reducible refine side_d ?_ ?_; exact byD) | (with_reducible refine side_q ?_ ?_; exact byQ)
  intro t32 e32
  repeat first | (with_reducible refine side_d ?_ ?_; exact byD) | (with_reducible refine side_q ?_ ?_; exact byQ)
  intro t35 e35
  repeat first | (with_reducible refine side_d ?_ ?_; exact byD) | (with_reducible refine side_q ?_ ?_; exact byQ)
  intro t36 e36
  rw [bsel_and] at e36
  repeat first | (with_reducible refine side_d ?_ ?_; exact byD) | (with_reducible refine side_q ?_ ?_; exact byQ)
  subst e32 e35 e36
  refine cx_if _ rfl (fun h36 => ?_) (fun h36 => ?_)
  ·
    (try simp only [go_sem] at h36)
    have hw : s.2.2 = 0 ∧ s.1 < l.length := by grind
    obtain ⟨g, hg⟩ := i2 hw.1
    have hcm : l.getD s.1 default ∈ l := getD_mem hw.2
    have hdr : l.drop s.1 = l.getD s.1 default :: l.drop (s.1 + 1) := by
      rw [List.drop_eq_getElem_cons hw.2]
      simp [List.getD, hw.2]
    have har := apply_raw (c := l.getD s.1 default) (v := v) g
    refine cx_skip ?_
    (try simp only [go_sem])
    refine cx_seq (cx_block ?_)
    refine cx_sr ?_
    simp only [go_sem]
    repeat first | (with_reducible refine side_d ?_ ?_; exact byD) | (with_reducible refine side_q ?_ ?_; exact byQ)
    refine cw_m (RIsVersion_c v) byW byT ?_
    simp only [go_sem]
    repeat first | (with_reducible refine side_d ?_ ?_; exact byD) | (with_reducible refine side_q ?_ ?_; exact byQ)
    intro t41 e41
    repeat first | (with_reducible refine side_d ?_ ?_; exact byD) | (with_reducible refine side_q ?_ ?_; exact byQ)
    subst e41
    refine cx_if _ rfl (fun h41 => ?_) (fun h41 => ?_)
    ·
      (try simp only [go_sem] at h41)
      refine cx_region ?_
      simp only [go_sem]
      repeat first | (with_reducible refine side_d ?_ ?_; exact byD) | (with_reducible refine side_q ?_ ?_; exact byQ)
      refine cx_region ?_
      simp only [go_sem]
      repeat first | (with_reducible refine side_d ?_ ?_; exact byD) | (with_reducible refine side_q ?_ ?_; exact byQ)
      intro t38 e38
      (try replace e38 := w64 e38 (by omega) (by omega))
      repeat first | (with_reducible refine side_d ?_ ?_; exact byD) | (with_reducible refine side_q ?_ ?_; exact byQ)
      have hv : verB v = false := by unfold verB; grind
      refine rnd_next (s.1 + 1, s.2.1, 3) ⟨by dsimp only; omega, fun h => absurd h (by show ¬ (3 : Int) = 0; decide), fun _ => ?_, i4⟩ (by first | omega | (dsimp only; omega)) byC
      rw [hg, hdr, patchRun, har, if_pos hv]
      rfl
    ·
      (try simp only [go_sem] at h41)
      refine cx_region ?_
      simp only [go_sem]
      repeat first | (with_reducible refine side_d ?_ ?_; exact byD) | (with_reducible refine side_q ?_ ?_; exact byQ)
      refine cw_m (ChangeOfF_c s.2.1 (l.getD s.1 default) v g.good (okl.2 _ hcm)) byW byT ?_
      simp only [go_sem]
      repeat first | (with_reducible refine side_d ?_ ?_; exact byD) | (with_reducible refine side_q ?_ ?_; exact byQ)
      refine cx_region ?_
      simp only [go_sem]
      repeat first | (with_reducible refine side_d ?_ ?_; exact byD) | (with_reducible refine side_q ?_ ?_; exact byQ)
      intro t38 e38
      (try replace e38 := w64 e38 (by omega) (by omega))
      repeat first | (with_reducible refine side_d ?_ ?_; exact byD) | (with_reducible refine side_q ?_ ?_; exact byQ)
      have hv : ¬ verB v = false := by unfold verB; grind
      have hlen := rawP_len s.2.1 (l.getD s.1 default) v
      have hgl := g.len
      rw [if_neg hv] at har
      refine rnd_next (s.1 + 1, rawP s.2.1 (l.getD s.1 default) v, rawErr s.2.1 (l.getD s.1 default) v) ⟨by dsimp only; omega, fun h => ?_, fun h => ?_, by dsimp only; omega⟩ (by first | omega | (dsimp only; omega)) byC
      · have h : rawErr s.2.1 (l.getD s.1 default) v = 0 := h
        have hr : rawP s.2.1 (l.getD s.1 default) v = madeP s.2.1 (l.getD s.1 default) v := by rw [rawP, if_pos h]
        refine ⟨?_, ?_⟩
        · show FullT (rawP s.2.1 (l.getD s.1 default) v)
          rw [hr]
          exact made_full g (by simpa using hv) h
        · rw [hg, hdr, patchRun, har, if_neg (fun hh => hh h)]
          show _ = patchRun v (rawP s.2.1 (l.getD s.1 default) v) _
          rw [hr]
      · have h : rawErr s.2.1 (l.getD s.1 default) v ≠ 0 := h
        rw [hg, hdr, patchRun, har, if_pos h]
  ·
    (try simp only [go_sem] at h36)
    refine cx_exit ?_
    simp only [go_sem]
    refine cx_sr ?_
    simp only [go_sem]
    repeat first | (with_reducible refine side_d ?_ ?_; exact byD) | (with_reducible refine side_q ?_ ?_; exact byQ)
    refine cw_m (deltaBegun_c) byW byT ?_
    simp only [go_sem]
    repeat first | (with_reducible refine side_d ?_ ?_; exact byD) | (with_reducible refine side_q ?_ ?_; exact byQ)
    refine ⟨_, fun hp => cw_v 2 (treeIs_c (patchP a l v).1 (patchP a l v).2 s.2.2 s.2.1 (by omega) (by omega)) byV byC rfl ⟨rfl, rfl⟩, ?_⟩
    simp only [go_sem]
    repeat first | (with_reducible refine side_d ?_ ?_; exact byD) | (with_reducible refine side_q ?_ ?_; exact byQ)
    intro t59 e59
    rw [bsel_and] at e59
    repeat first | (with_reducible refine side_d ?_ ?_; exact byD) | (with_reducible refine side_q ?_ ?_; exact byQ)
    subst e59
    refine cx_ret ?_
    simp only [go_sem]
    refine finw_bool ?_
    by_cases hw : s.2.2 = 0
    · obtain ⟨g, hg⟩ := i2 hw
      have hi : s.1 = l.length := by grind
      rw [hg, hi, List.drop_length, patchRun]
      simp [hw]
    · rw [i3 hw]
      simp [hw]
end Go.VM.Tryd
end
section
set_option linter.unusedVariables false
set_option linter.unusedSimpArgs false
open Go Go.VM Go.Proofs Tether
namespace Go.VM.Tryd
set_option maxRecDepth 100000
theorem patchRun_app : ∀ (cs ds : List Change) (t : List Entry) (v : Int), (patchRun v t cs).2 = 0 → patchRun v t (cs ++ ds) = patchRun v (patchRun v t cs).1 ds
  | [], ds, t, v, h => rfl
  | c :: cs, ds, t, v, h => by
    have hc : applyErr t c v = 0 := by
      by_cases hc : applyErr t c v = 0
      · exact hc
      · rw [patchRun, if_pos hc] at h
        exact absurd h hc
    have e : ∀ xs, patchRun v t (c :: xs) = patchRun v (madeP t c v) xs := fun xs => by rw [patchRun, if_neg (by simp [hc])]
    rw [e] at h
    rw [List.cons_append, e, e]
    exact patchRun_app cs ds _ v h
/-- the deletions leave what is left -/
theorem patch_dels {a b : List Entry} (ga : FullT a) {v : Int} (hv : verB v = true) : ∀ i, i ≤ a.length → patchRun v a (delsP a b i).1 = (leftP a b i, 0)
  | 0, _ => by rw [left_0]; rfl
  | i + 1, h => by
    have ih := patch_dels (b := b) ga hv i (by omega)
    have gl := left_full (b := b) ga i
    have hxm : a.getD i default ∈ a := getD_mem (by omega)
    cases hg : goneB a b i (a.getD i default) with
    | true =>
      obtain ⟨e1, e2⟩ := left_same (a := a) (b := b) (i := i) (by omega) (.inl hg)
      rw [e1, e2, ih]
    | false =>
      cases hb : badE b (a.getD i default) with
      | false =>
        obtain ⟨e1, e2⟩ := left_same (a := a) (b := b) (i := i) (by omega) (.inr hb)
        rw [e1, e2, ih]
      | true =>
        have hn := left_next (a := a) (b := b) (i := i) (by omega) hg hb
        have hd : (delsP a b (i + 1)).1 = (delsP a b i).1 ++ [delC (a.getD i default)] := by
          unfold goneB at hg
          rw [dels_next (by omega), stepD, if_neg (by rw [hg]; decide), if_pos hb]
        have hxl : a.getD i default ∈ leftP a b i := left_mem.2 ⟨hxm, hg⟩
        have h0 : applyErr (leftP a b i) (delC (a.getD i default)) v = 0 := apply_of gl hv (del_may gl hxl)
        rw [hd, patchRun_app _ _ _ _ (by rw [ih]), ih]
        unfold patchRun
        rw [if_neg (by simpa using h0), hn]
        rfl
/-- a tree on the way from what is left to the other one: the first so many are there -/
structure Way (a b t : List Entry) (i : Nat) : Prop where
  full : FullT t
  /-- of the first ones, each is there -/
  there : ∀ j, j < i → ∃ y ∈ t, shapeE y = shapeE (b.getD j default)
  /-- what is there is one of the first ones, or was left -/
  from_ : ∀ y ∈ t, (∃ j, j < i ∧ shapeE y = shapeE (b.getD j default)) ∨ y ∈ leftP a b a.length
  /-- what was left stays where nothing else comes -/
  keep : ∀ y ∈ leftP a b a.length, (∀ j, j < i → (b.getD j default).path ≠ y.path) → y ∈ t
theorem shape_path {x y : Entry} (h : shapeE x = shapeE y) : x.path = y.path := congrArg (·.1) h
theorem shape_folder {x y : Entry} (h : shapeE x = shapeE y) : x.folder = y.folder := congrArg (·.2.1) h
theorem left_in {a b : List Entry} (gb : FullT b) {y : Entry} (h : y ∈ leftP a b a.length) : ∃ x ∈ b, x.path = y.path ∧ x.folder = y.folder := (badE_iff gb).1 (left_bad h)
theorem way_paths {a b t : List Entry} (gb : FullT b) {i : Nat} (hi : i ≤ b.length) (w : Way a b t i) {y : Entry} (hy : y ∈ t) : ∃ x ∈ b, x.path = y.path ∧ x.folder = y.folder := by
  rcases w.from_ y hy with ⟨j, hj, h⟩ | h
  · exact ⟨b.getD j default, getD_mem (by omega), (shape_path h).symm, (shape_folder h).symm⟩
  · exact left_in gb h
theorem sub_len : ∀ {t b : List Entry}, SortedE t → (∀ y ∈ t, ∃ x ∈ b, x.path = y.path) → t.length ≤ b.length := by
  intro t b ht h
  have h1 : (t.map (·.path)).Nodup := by
    unfold List.Nodup
    rw [List.pairwise_map]
    refine ht.imp fun {x y} hlt e => ?_
    rw [e] at hlt
    exact lt_irrefl' _ hlt
  have := nodup_le (A := t.map (·.path)) (B := b.map (·.path)) h1 (by
    intro p hp
    obtain ⟨y, hy, rfl⟩ := List.mem_map.1 hp
    obtain ⟨x, hx, e⟩ := h y hy
    exact List.mem_map.2 ⟨x, hx, e⟩)
  simpa using this
theorem add_form {x : Entry} (h : entErr x = 0) : formP (addC x) = 0 := by
  obtain ⟨h1, h2, h3, _⟩ := entErr_iff.1 h
  unfold formP addC
  by_cases hf : x.folder = true
  · have ht : x.text = [] := folder_text h hf
    simp [hf, h1, ht]
  · have hf : x.folder = false := by simpa using hf
    simp [hf, h1]
    omega
theorem pre_lt : ∀ (a : Str) (c : UInt8) (x : Str), a < a ++ c :: x
  | [], c, x => List.nil_lt_cons c x
  | d :: a, c, x => by
    rw [List.cons_append, List.cons_lt_cons_iff]
    exact .inr ⟨rfl, pre_lt a c x⟩
theorem front_less {p : Str} (h : headOf p ≠ []) : headOf p < p := by
  have := pre_lt (headOf p) 47 (tailOf p)
  rwa [← front_eq h] at this
theorem made_add {t : List Entry} {x : Entry} {v : Int} (h : entErr x = 0) : madeP t (addC x) v = putE t ⟨x.path, x.folder, x.text, v⟩ := by
  by_cases hf : x.folder = true
  · have ht := folder_text h hf
    have hk : (addC x).kind = 1 := by simp [addC, hf]
    rw [madeP, if_pos hk, hf, ht]
    rfl
  · have hf : x.folder = false := by simpa using hf
    have hk : (addC x).kind = 2 := by simp [addC, hf]
    rw [madeP, if_neg (by omega), if_pos hk, hf]
    rfl
theorem at_inj {b : List Entry} (hs : SortedE b) {i j : Nat} (hi : i < b.length) (hj : j < b.length) (h : (b.getD i default).path = (b.getD j default).path) : i = j := by
  have e1 : b.getD i default = b[i] := by simp [List.getD, hi]
  have e2 : b.getD j default = b[j] := by simp [List.getD, hj]
  rw [e1, e2] at h
  exact sorted_inj hs hi hj h
theorem way_add {a b t : List Entry} (ga : FullT a) (gb : FullT b) {v : Int} (hv : verB v = true) {i : Nat} (hi : i < b.length) (w : Way a b t i) (hn : ¬ hasLike a (b.getD i default) = true) :
    applyErr t (addC (b.getD i default)) v = 0 ∧ Way a b (madeP t (addC (b.getD i default)) v) (i + 1) := by
  have hxm : b.getD i default ∈ b := getD_mem hi
  have hxe := gb.ents _ hxm
  have hinj : ∀ j, j < i → (b.getD j default).path ≠ (b.getD i default).path := fun j hj e => by
    have := at_inj gb.sorted (by omega) hi e
    omega
  have hf := add_form hxe
  have hk : (addC (b.getD i default)).kind = 1 ∨ (addC (b.getD i default)).kind = 2 := by unfold addC; dsimp only; split <;> simp
  have hma := made_add (t := t) (v := v) hxe
  have hsame : ∀ y ∈ t, y.path = (b.getD i default).path → y.folder = false ∧ (b.getD i default).folder = false := by
    intro y hy e
    obtain ⟨z, hz, h1, h2⟩ := way_paths gb (by omega) w hy
    have hzx := sorted_mem_inj gb.sorted hz hxm (h1.trans e)
    have hxf : (b.getD i default).folder = false := by
      rcases w.from_ y hy with ⟨j, hj, h3⟩ | h3
      · exact absurd ((shape_path h3).symm.trans e) (hinj j hj)
      · cases hzf : (b.getD i default).folder with
        | false => rfl
        | true =>
          exfalso
          apply hn
          have hfl := left_full (b := b) ga a.length
          rw [hasLike_left ga gb hxm, ← e, findE_mem hfl.sorted h3]
          simp only [hzf, Bool.true_or]
    rw [hzx] at h2
    exact ⟨by rw [← h2]; exact hxf, hxf⟩
  have hpar : headOf (b.getD i default).path = [] ∨ ∃ y ∈ t, y.path = headOf (b.getD i default).path ∧ y.folder = true := by
    by_cases h0 : headOf (b.getD i default).path = []
    · exact .inl h0
    · rcases gb.par _ hxm with h | ⟨z, hz, h1, h2⟩
      · exact .inl h
      · right
        obtain ⟨j, hj, rfl⟩ := List.getElem_of_mem hz
        have e1 : b.getD j default = b[j] := by simp [List.getD, hj]
        have e2 : b.getD i default = b[i]'hi := by simp [List.getD, hi]
        have hlt : j < i := by
          rcases Nat.lt_trichotomy j i with h | h | h
          · exact h
          · subst h
            rw [← e2] at h1
            exact absurd h1.symm (front_ne h0)
          · exfalso
            have h3 := List.pairwise_iff_getElem.1 gb.sorted i j hi hj h
            rw [h1, ← e2] at h3
            exact lt_asymm' h3 (front_less h0)
        obtain ⟨y, hy, h3⟩ := w.there j hlt
        rw [e1] at h3
        exact ⟨y, hy, (shape_path h3).trans h1, (shape_folder h3).trans h2⟩
  have hg : goalP (addC (b.getD i default)) = (b.getD i default).path := by rw [goalP, if_neg (by omega)]; rfl
  have m : MayT t (addC (b.getD i default)) := by
    refine ⟨by rw [hg]; exact hpar, fun k y hy e => ?_, fun k y hy e => (hsame y hy e).1, fun k1 k2 => by omega, fun k => by omega, fun k => by omega⟩
    have hxf := (hsame y hy e).2
    have : (addC (b.getD i default)).kind = 2 := by unfold addC; rw [hxf]; rfl
    omega
  have hm : mayP t (addC (b.getD i default)) = 0 := may_of w.full.sorted (by omega) m fun hb => absurd rfl hb
  have hmem : ∀ {y : Entry}, y ∈ madeP t (addC (b.getD i default)) v ↔ y = ⟨(b.getD i default).path, (b.getD i default).folder, (b.getD i default).text, v⟩ ∨ (y ∈ t ∧ y.path ≠ (b.getD i default).path) := fun {y} => by
    rw [hma, putE_mem w.full.sorted]
  have hlen : (madeP t (addC (b.getD i default)) v).length ≤ b.length := by
    refine sub_len (made_sorted w.full.sorted) fun y hy => ?_
    rcases hmem.1 hy with rfl | ⟨h1, _⟩
    · exact ⟨_, hxm, rfl⟩
    · obtain ⟨x, hx, h2, _⟩ := way_paths gb (by omega) w h1
      exact ⟨x, hx, h2⟩
  have hd : doneErr t (addC (b.getD i default)) v = 0 := by
    unfold doneErr
    have := gb.len
    rw [if_neg (by rintro ⟨h, _⟩; omega), if_neg (by omega)]
  have hr : rawErr t (addC (b.getD i default)) v = 0 := by rw [rawErr, if_neg (fun h => h hf), if_neg (fun h => h hm), hd]
  refine ⟨apply_of w.full hv hr, made_full w.full hv hr, fun j hj => ?_, fun y hy => ?_, fun y hy h => ?_⟩
  · rcases Nat.lt_or_ge j i with h1 | h1
    · obtain ⟨y, hy, h2⟩ := w.there j h1
      exact ⟨y, hmem.2 (.inr ⟨hy, by rw [shape_path h2]; exact hinj j h1⟩), h2⟩
    · obtain rfl : j = i := by omega
      exact ⟨_, hmem.2 (.inl rfl), rfl⟩
  · rcases hmem.1 hy with rfl | ⟨h1, _⟩
    · exact .inl ⟨i, by omega, rfl⟩
    · rcases w.from_ y h1 with ⟨j, hj, h2⟩ | h2
      · exact .inl ⟨j, by omega, h2⟩
      · exact .inr h2
  · exact hmem.2 (.inr ⟨w.keep y hy fun j hj => h j (by omega), fun e => h i (by omega) e.symm⟩)
theorem way_skip {a b t : List Entry} (ga : FullT a) (gb : FullT b) {i : Nat} (hi : i < b.length) (w : Way a b t i) (hn : hasLike a (b.getD i default) = true) : Way a b t (i + 1) := by
  have hxm : b.getD i default ∈ b := getD_mem hi
  refine ⟨w.full, fun j hj => ?_, fun y hy => ?_, fun y hy h => w.keep y hy fun j hj => h j (by omega)⟩
  · rcases Nat.lt_or_ge j i with h1 | h1
    · exact w.there j h1
    · obtain rfl : j = i := by omega
      have hfl := left_full (b := b) ga a.length
      have hL := hasLike_left ga gb hxm
      rw [hn] at hL
      cases hf : findE (leftP a b a.length) (b.getD j default).path with
      | none => rw [hf] at hL; cases hL
      | some y =>
        obtain ⟨h2, h3⟩ := findE_some hf
        have hya := (left_mem.1 h2).1
        have hlk : likeB y (b.getD j default) = true := by
          unfold hasLike at hn
          rw [← h3, findE_mem ga.sorted hya] at hn
          exact hn
        refine ⟨y, w.keep y h2 fun k hk e => ?_, of_decide_eq_true hlk⟩
        have := at_inj gb.sorted (by omega) hi (e.trans h3)
        omega
  · rcases w.from_ y hy with ⟨j, hj, h2⟩ | h2
    · exact .inl ⟨j, by omega, h2⟩
    · exact .inr h2
theorem patch_adds {a b : List Entry} (ga : FullT a) (gb : FullT b) {v : Int} (hv : verB v = true) : ∀ i, i ≤ b.length → ∃ t, patchRun v (leftP a b a.length) (addsP a b i) = (t, 0) ∧ Way a b t i
  | 0, _ => ⟨leftP a b a.length, rfl, left_full ga _, fun j hj => by omega, fun y hy => .inr hy, fun y hy _ => hy⟩
  | i + 1, h => by
    obtain ⟨t, h1, w⟩ := patch_adds ga gb hv i (by omega)
    rw [adds_next (by omega)]
    by_cases hl : hasLike a (b.getD i default) = true
    · rw [if_pos hl]
      exact ⟨t, h1, way_skip ga gb (by omega) w hl⟩
    · rw [if_neg hl]
      obtain ⟨h2, w2⟩ := way_add ga gb hv (by omega) w hl
      refine ⟨_, ?_, w2⟩
      rw [patchRun_app _ _ _ _ (by rw [h1]), h1]
      unfold patchRun
      rw [if_neg (by simpa using h2)]
      rfl
theorem like_of : ∀ {t b : List Entry}, SortedE t → SortedE b → (∀ x ∈ b, ∃ y ∈ t, shapeE y = shapeE x) → (∀ y ∈ t, ∃ x ∈ b, shapeE y = shapeE x) → t.map shapeE = b.map shapeE
  | [], [], _, _, _, _ => rfl
  | [], x :: b, _, _, h, _ => by obtain ⟨y, hy, _⟩ := h x (by simp); cases hy
  | y :: t, [], _, _, _, h => by obtain ⟨x, hx, _⟩ := h y (by simp); cases hx
  | y :: t, x :: b, ht, hb, h1, h2 => by
    obtain ⟨ht1, ht2⟩ := List.pairwise_cons.1 ht
    obtain ⟨hb1, hb2⟩ := List.pairwise_cons.1 hb
    have e : shapeE y = shapeE x := by
      obtain ⟨y', hy', e1⟩ := h1 x (by simp)
      obtain ⟨x', hx', e2⟩ := h2 y (by simp)
      rcases List.mem_cons.1 hy' with rfl | hy'
      · exact e1
      · rcases List.mem_cons.1 hx' with rfl | hx'
        · exact e2
        · exfalso
          have l1 := ht1 y' hy'
          have l2 := hb1 x' hx'
          rw [shape_path e1] at l1
          rw [← shape_path e2] at l2
          exact lt_asymm' l1 l2
    rw [List.map_cons, List.map_cons, e, like_of ht2 hb2 (fun z hz => ?_) (fun z hz => ?_)]
    · obtain ⟨y', hy', e1⟩ := h1 z (by simp [hz])
      rcases List.mem_cons.1 hy' with rfl | hy'
      · exfalso
        have := hb1 z hz
        rw [← shape_path e1, shape_path e] at this
        exact lt_irrefl' _ this
      · exact ⟨y', hy', e1⟩
    · obtain ⟨x', hx', e1⟩ := h2 z (by simp [hz])
      rcases List.mem_cons.1 hx' with rfl | hx'
      · exfalso
        have := ht1 z hz
        rw [shape_path e1, shape_path e] at this
        exact lt_irrefl' _ this
      · exact ⟨x', hx', e1⟩
theorem way_like {a b t : List Entry} (gb : FullT b) (w : Way a b t b.length) : likeL t b = true := by
  refine decide_eq_true (like_of w.full.sorted gb.sorted (fun x hx => ?_) (fun y hy => ?_))
  · obtain ⟨j, hj, rfl⟩ := List.getElem_of_mem hx
    have e1 : b.getD j default = b[j] := by simp [List.getD, hj]
    rw [← e1]
    exact w.there j hj
  · rcases w.from_ y hy with ⟨j, hj, h⟩ | h
    · exact ⟨_, getD_mem hj, h⟩
    · obtain ⟨x, hx, h1, _⟩ := left_in gb h
      obtain ⟨j, hj, rfl⟩ := List.getElem_of_mem hx
      have e1 : b.getD j default = b[j] := by simp [List.getD, hj]
      obtain ⟨y', hy', h2⟩ := w.there j hj
      rw [e1] at h2
      have := sorted_mem_inj w.full.sorted hy' hy ((shape_path h2).trans h1)
      subst this
      exact ⟨_, hx, h2⟩
/-- PATCHED BY WHAT PARTS THEM, ONE IS THE OTHER -/
theorem patch_diff {a b : List Entry} (ga : FullT a) (gb : FullT b) {v : Int} (hv : verB v = true) : ∃ t, patchRun v a (diffP a b) = (t, 0) ∧ FullT t ∧ likeL t b = true := by
  obtain ⟨t, h1, w⟩ := patch_adds ga gb hv b.length (Nat.le_refl _)
  have h2 := patch_dels (b := b) ga hv a.length (Nat.le_refl _)
  refine ⟨t, ?_, w.full, way_like gb w⟩
  unfold diffP
  rw [patchRun_app _ _ _ _ (by rw [h2]), h2, h1]
theorem diff_nil {a b : List Entry} (ga : FullT a) (gb : FullT b) : diffP a b = [] ↔ likeL a b = true := by
  constructor
  · intro h
    obtain ⟨t, h1, _, h3⟩ := patch_diff ga gb (v := 1) (by decide)
    rw [h] at h1
    have : a = t := congrArg Prod.fst h1
    rw [this]
    exact h3
  · intro h
    have he : a.map shapeE = b.map shapeE := of_decide_eq_true h
    have hab : ∀ x ∈ a, ∃ y ∈ b, shapeE y = shapeE x := fun x hx => by
      have : shapeE x ∈ b.map shapeE := by rw [← he]; exact List.mem_map_of_mem hx
      exact List.mem_map.1 this
    have hba : ∀ x ∈ b, ∃ y ∈ a, shapeE y = shapeE x := fun x hx => by
      have : shapeE x ∈ a.map shapeE := by rw [he]; exact List.mem_map_of_mem hx
      exact List.mem_map.1 this
    have hd : ∀ i, i ≤ a.length → delsP a b i = ([], []) := by
      intro i
      induction i with
      | zero => intro _; rfl
      | succ i ih =>
        intro hi
        have hb : badE b (a.getD i default) = false := by
          obtain ⟨y, hy, e⟩ := hab _ (getD_mem (show i < a.length by omega))
          exact (badE_iff gb).2 ⟨y, hy, shape_path e, shape_folder e⟩
        rw [(left_same (a := a) (b := b) (i := i) (by omega) (.inr hb)).2, ih (by omega)]
    have hA : ∀ i, i ≤ b.length → addsP a b i = [] := by
      intro i
      induction i with
      | zero => intro _; rfl
      | succ i ih =>
        intro hi
        have hl : hasLike a (b.getD i default) = true := by
          obtain ⟨y, hy, e⟩ := hba _ (getD_mem (show i < b.length by omega))
          unfold hasLike
          rw [← shape_path e, findE_mem ga.sorted hy]
          exact decide_eq_true e
        rw [adds_next (by omega), if_pos hl, ih (by omega)]
    unfold diffP
    rw [hd _ (Nat.le_refl _), hA _ (Nat.le_refl _)]
    rfl
end Go.VM.Tryd
end
section
set_option linter.unusedVariables false
set_option linter.unusedSimpArgs false
open Go Go.VM Go.Proofs Tether
namespace Go.VM.Tryd
set_option maxRecDepth 100000
theorem dels_ok {a b : List Entry} (ga : FullT a) : ∀ i, i ≤ a.length → ∀ c ∈ (delsP a b i).1, okC c
  | 0, _, c, hc => by simp [delsP] at hc
  | i + 1, h, c, hc => by
    have ih := dels_ok (b := b) ga i (by omega)
    rw [dels_next (by omega)] at hc
    unfold stepD at hc
    split at hc
    · exact ih c hc
    · split at hc
      · rcases List.mem_append.1 hc with hc | hc
        · exact ih c hc
        · obtain rfl := List.mem_singleton.1 hc
          have := (ga.ok.2 _ (getD_mem (d := default) (show i < a.length by omega))).1
          exact ⟨this, by simp [delC], by simp [delC]⟩
      · exact ih c hc
theorem diff_ok {a b : List Entry} (ga : FullT a) (gb : FullT b) : okCs (diffP a b) := by
  refine ⟨by have := diffP_len a b; have := ga.len; have := gb.len; omega, fun c hc => ?_⟩
  rcases List.mem_append.1 hc with hc | hc
  · exact dels_ok ga _ (Nat.le_refl _) c hc
  · obtain ⟨x, hx, rfl⟩ := List.mem_map.1 hc
    have hxb : x ∈ b := by have := (List.mem_filter.1 hx).1; rwa [List.take_length] at this
    have := gb.ok.2 x hxb
    exact ⟨this.1, by simp [addC], this.2⟩
theorem DeltaBack_c (a b : List Entry) (v : Int) (oka : okE a) (okb : okE b) (h0 : -9223372036854775808 ≤ v) (h1 : v ≤ 9223372036854775807) : Meets Tryd.prog 13 [esV a, esV b, .int .i64 v] (.bool true) [] := by
  refine meets_x (fn := Tryd.f13) Tryd.func13 rfl fb13 (by kernel_rfl) (Nat.le_of_ble_eq_true rfl) ?_
  have hal := oka.1
  have hbl := okb.1
  have hc0 : 0 ≤ chooseP v 1000000 := Int.emod_nonneg _ (by decide)
  have hc1 : chooseP v 1000000 < 1000000 := Int.emod_lt_of_pos _ (by decide)
  have hvv : verB (1 + chooseP v 1000000) = true := verB_iff.2 (by omega)
  refine cx_sr ?_
  simp only [go_sem]
  repeat first | (with_reducible refine side_d ?_ ?_; exact byD) | (with_reducible refine side_q ?_ ?_; exact byQ)
  refine cx_seq ?_
  refine cx_sr ?_
  simp only [go_sem]
  repeat first | (with_reducible refine side_d ?_ ?_; exact byD) | (with_reducible refine side_q ?_ ?_; exact byQ)
  refine cw_m (deltaBegun_c) byW byT ?_
  simp only [go_sem]
  repeat first | (with_reducible refine side_d ?_ ?_; exact byD) | (with_reducible refine side_q ?_ ?_; exact byQ)
  intro t12 e12
  repeat first | (with_reducible refine side_d ?_ ?_; exact byD) | (with_reducible refine side_q ?_ ?_; exact byQ)
  subst e12
  refine cx_if _ rfl (fun h12 => ?_) (fun h12 => ?_)
  ·
    (try simp only [go_sem] at h12)
    refine cx_sr ?_
    simp only [go_sem]
    repeat first | (with_reducible refine side_d ?_ ?_; exact byD) | (with_reducible refine side_q ?_ ?_; exact byQ)
    refine cx_ret ?_
    simp only [go_sem]
    exact absurd h12 (by simp)
  ·
    (try simp only [go_sem] at h12)
    refine cx_skip ?_
    (try simp only [go_sem])
    refine cx_sr ?_
    simp only [go_sem]
    repeat first | (with_reducible refine side_d ?_ ?_; exact byD) | (with_reducible refine side_q ?_ ?_; exact byQ)
    refine cw_m (Diff_c a b oka okb) byW byT ?_
    simp only [go_sem]
    repeat first | (with_reducible refine side_d ?_ ?_; exact byD) | (with_reducible refine side_q ?_ ?_; exact byQ)
    refine cx_seq ?_
    refine cx_sr ?_
    simp only [go_sem]
    repeat first | (with_reducible refine side_d ?_ ?_; exact byD) | (with_reducible refine side_q ?_ ?_; exact byQ)
    intro t20 e20
    repeat first | (with_reducible refine side_d ?_ ?_; exact byD) | (with_reducible refine side_q ?_ ?_; exact byQ)
    subst e20
    refine cx_if _ rfl (fun h20 => ?_) (fun h20 => ?_)
    ·
      (try simp only [go_sem] at h20)
      refine cx_sr ?_
      simp only [go_sem]
      repeat first | (with_reducible refine side_d ?_ ?_; exact byD) | (with_reducible refine side_q ?_ ?_; exact byQ)
      intro t23 e23
      repeat first | (with_reducible refine side_d ?_ ?_; exact byD) | (with_reducible refine side_q ?_ ?_; exact byQ)
      subst e23
      refine cx_ret ?_
      simp only [go_sem]
      have hn : ¬ check2 a b = 0 := by simpa using h20
      have hd : diffC a b = [] := by rw [diffC, if_neg hn]
      exact finw_bool (by simp [hd])
    ·
      (try simp only [go_sem] at h20)
      have hc : check2 a b = 0 := by simpa using h20
      obtain ⟨ga, gb⟩ := check2_iff.1 hc
      have hd : diffC a b = diffP a b := by rw [diffC, if_pos hc]
      have hdl := diffP_len a b
      have hgal := ga.len
      have hgbl := gb.len
      have hok := diff_ok ga gb
      have hnil := diff_nil ga gb
      obtain ⟨t, ht1, ht2, ht3⟩ := patch_diff ga gb hvv
      have hP : patchP a (diffC a b) (1 + chooseP v 1000000) = (t, 0) := by
        rw [hd, patchP, if_neg (by simp [checkT_iff.2 ga]), if_neg (by omega), ht1]
      have ht4 : check2 t b = 0 := check2_iff.2 ⟨ht2, gb⟩
      refine cx_skip ?_
      (try simp only [go_sem])
      refine cx_sr ?_
      simp only [go_sem]
      repeat first | (with_reducible refine side_d ?_ ?_; exact byD) | (with_reducible refine side_q ?_ ?_; exact byQ)
      refine cw_m (Same_c a b oka okb) byW byT ?_
      simp only [go_sem]
      repeat first | (with_reducible refine side_d ?_ ?_; exact byD) | (with_reducible refine side_q ?_ ?_; exact byQ)
      refine cx_seq ?_
      refine cx_sr ?_
      simp only [go_sem]
      repeat first | (with_reducible refine side_d ?_ ?_; exact byD) | (with_reducible refine side_q ?_ ?_; exact byQ)
      intro t31 e31
      repeat first | (with_reducible refine side_d ?_ ?_; exact byD) | (with_reducible refine side_q ?_ ?_; exact byQ)
      intro t36 e36
      repeat first | (with_reducible refine side_d ?_ ?_; exact byD) | (with_reducible refine side_q ?_ ?_; exact byQ)
      intro t37 e37
      repeat first | (with_reducible refine side_d ?_ ?_; exact byD) | (with_reducible refine side_q ?_ ?_; exact byQ)
      intro t38 e38
      rw [bsel_or] at e38
      repeat first | (with_reducible refine side_d ?_ ?_; exact byD) | (with_reducible refine side_q ?_ ?_; exact byQ)
      subst e31 e36 e37 e38
      refine cx_if _ rfl (fun h38 => ?_) (fun h38 => ?_)
      ·
        (try simp only [go_sem] at h38)
        refine cx_sr ?_
        simp only [go_sem]
        repeat first | (with_reducible refine side_d ?_ ?_; exact byD) | (with_reducible refine side_q ?_ ?_; exact byQ)
        refine cx_ret ?_
        simp only [go_sem]
        exfalso
        rw [hd, hc] at h38
        by_cases hl : likeL a b = true
        · rw [hnil.2 hl] at h38
          simp [hl] at h38
        · have hn : diffP a b ≠ [] := fun e => hl (hnil.1 e)
          simp [hl, hn] at h38
      ·
        (try simp only [go_sem] at h38)
        refine cx_skip ?_
        (try simp only [go_sem])
        refine cx_sr ?_
        simp only [go_sem]
        repeat first | (with_reducible refine side_d ?_ ?_; exact byD) | (with_reducible refine side_q ?_ ?_; exact byQ)
        refine cw_m (choose_c v h0 h1 1000000 (by decide) (by decide)) byW byT ?_
        simp only [go_sem]
        repeat first | (with_reducible refine side_d ?_ ?_; exact byD) | (with_reducible refine side_q ?_ ?_; exact byQ)
        intro t44 e44
        (try replace e44 := w64 e44 (by omega) (by omega))
        repeat first | (with_reducible refine side_d ?_ ?_; exact byD) | (with_reducible refine side_q ?_ ?_; exact byQ)
        refine cw_n 2 (Patch_c a (diffC a b) (1 + chooseP v 1000000) oka (by rw [hd]; exact hok)) byV byC rfl byN ?_
        simp only [go_sem]
        repeat first | (with_reducible refine side_d ?_ ?_; exact byD) | (with_reducible refine side_q ?_ ?_; exact byQ)
        rw [hP]
        refine cx_seq ?_
        refine cx_sr ?_
        simp only [go_sem]
        repeat first | (with_reducible refine side_d ?_ ?_; exact byD) | (with_reducible refine side_q ?_ ?_; exact byQ)
        intro t49 e49
        repeat first | (with_reducible refine side_d ?_ ?_; exact byD) | (with_reducible refine side_q ?_ ?_; exact byQ)
        subst e49
        refine cx_if _ rfl (fun h49 => ?_) (fun h49 => ?_)
        ·
          (try simp only [go_sem] at h49)
          refine cx_sr ?_
          simp only [go_sem]
          repeat first | (with_reducible refine side_d ?_ ?_; exact byD) | (with_reducible refine side_q ?_ ?_; exact byQ)
          refine cx_ret ?_
          simp only [go_sem]
          exact absurd h49 (by simp)
        ·
          (try simp only [go_sem] at h49)
          refine cx_skip ?_
          (try simp only [go_sem])
          refine cx_sr ?_
          simp only [go_sem]
          repeat first | (with_reducible refine side_d ?_ ?_; exact byD) | (with_reducible refine side_q ?_ ?_; exact byQ)
          refine cw_v 2 (Same_c t b ht2.ok okb) byV byC rfl ?_
          simp only [go_sem]
          repeat first | (with_reducible refine side_d ?_ ?_; exact byD) | (with_reducible refine side_q ?_ ?_; exact byQ)
          refine cx_sr ?_
          simp only [go_sem]
          repeat first | (with_reducible refine side_d ?_ ?_; exact byD) | (with_reducible refine side_q ?_ ?_; exact byQ)
          intro t57 e57
          repeat first | (with_reducible refine side_d ?_ ?_; exact byD) | (with_reducible refine side_q ?_ ?_; exact byQ)
          intro t60 e60
          rw [bsel_and] at e60
          repeat first | (with_reducible refine side_d ?_ ?_; exact byD) | (with_reducible refine side_q ?_ ?_; exact byQ)
          subst e57 e60
          refine cx_ret ?_
          simp only [go_sem]
          exact finw_bool (by simp [ht3, ht4])
end Go.VM.Tryd
end
