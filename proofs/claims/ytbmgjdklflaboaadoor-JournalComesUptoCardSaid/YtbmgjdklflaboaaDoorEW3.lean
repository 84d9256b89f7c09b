import Derived.Test.YtbmgjdklflaboaaDoorEW2
import Derived.Test.YtbmgjdklflaboaaDoorEW1
section
set_option maxHeartbeats 4000000
set_option linter.unusedVariables false
set_option linter.unusedSimpArgs false
open Go Go.VM Go.Proofs Tether
namespace Go.VM.Tryd
set_option maxRecDepth 100000
def sameL {α : Type} [DecidableEq α] (a b : List α) : Bool := decide (a = b)
theorem list_eq_of {α : Type} {a b : List α} {d : α} (hl : a.length = b.length) (h : ∀ i, i < a.length → a.getD i d = b.getD i d) : a = b := by
  apply List.ext_getElem hl
  intro i h1 h2
  have := h i h1
  simpa [List.getD, h1, h2] using this
theorem Entry.of_eq {a b : Entry} (h : a.path = b.path ∧ a.folder = b.folder ∧ a.text = b.text ∧ a.version = b.version) : a = b := by
  cases a; cases b; simp_all
theorem Change.of_eq {a b : Change} (h : a.kind = b.kind ∧ a.path = b.path ∧ a.to = b.to ∧ a.text = b.text ∧ a.base = b.base) : a = b := by
  cases a; cases b; simp_all
theorem SameEntries_c (a b : List Entry) (ha : a.length < 4611686018427387904) (hb : b.length < 4611686018427387904) : Meets Tryd.prog 28 [lstV 4 Entry.enc default a, lstV 4 Entry.enc default b] (.bool (sameL a b)) [] := by
  refine meets_x (fn := Tryd.f28) Tryd.func28 rfl fb28 (by kernel_rfl) (Nat.le_of_ble_eq_true rfl) ?_
  refine cx_sr ?_
  simp only [go_sem]
  repeat first | (with_reducible refine side_d ?_ ?_; exact byD) | (with_reducible refine side_q ?_ ?_; exact byQ)
  refine cx_seq ?_
  refine cx_sr ?_
  simp only [go_sem]
  intro t10 e10
  subst e10
  refine cx_if _ rfl (fun h10 => ?_) (fun h10 => ?_)
  ·
   (try simp only [go_sem] at h10)
   refine cx_sr ?_
   simp only [go_sem]
   refine cx_ret ?_
   simp only [go_sem]
   refine finw_bool ?_
   have : a ≠ b := fun e => by subst e; exact h10 rfl
   simp [sameL, this]
  ·
   (try simp only [go_sem] at h10)
   refine cx_skip ?_
   (try simp only [go_sem])
   refine cx_seq ?_
   refine cx_sr ?_
   simp only [go_sem]
   refine cx_block ?_
   refine cx_loop0 (σ := Nat) (fun i => i ≤ a.length ∧ ∀ j, j < i → a.getD j default = b.getD j default) (fun i => [⟨5, 0, [], .int .i64 (i : Nat)⟩]) [0, 1] (fun i => a.length - i) 0 ⟨Nat.zero_le _, fun j hj => absurd hj (Nat.not_lt_zero j)⟩ (Nat.zero_le _) byC (fun i hI1 => ?_)
   simp only [go_sem]
   refine cx_seq ?_
   refine cx_sr ?_
   simp only [go_sem]
   repeat first | (with_reducible refine side_d ?_ ?_; exact byD) | (with_reducible refine side_q ?_ ?_; exact byQ)
   intro t14 e14
   subst e14
   refine cx_if _ rfl (fun h14 => ?_) (fun h14 => ?_)
   ·
    (try simp only [go_sem] at h14)
    refine cx_skip ?_
    (try simp only [go_sem])
    refine cx_seq (cx_block ?_)
    refine cx_seq (cx_draw mixed [] (.first 0 (.first 1 (.first 2 (.first 3 (.first 4 (.first 5 (.first 6 (.first 7 (.first 8 (.done)))))))))) (by kernel_rfl) ?_)
    simp only [go_sem]
    repeat first | (with_reducible refine side_d ?_ ?_; exact byD) | (with_reducible refine side_q ?_ ?_; exact byQ)
    intro t25 e25
    subst e25
    refine cx_if _ rfl (fun h25 => ?_) (fun h25 => ?_)
    ·
     (try simp only [go_sem] at h25)
     refine cx_sr ?_
     simp only [go_sem]
     refine cx_ret ?_
     simp only [go_sem]
     refine finw_bool ?_
     have : a ≠ b := fun e => by
       subst e
       grind
     simp [sameL, this]
    ·
     (try simp only [go_sem] at h25)
     refine cx_skip ?_
     (try simp only [go_sem])
     refine cx_region ?_
     simp only [go_sem]
     intro t16 e16
     (try replace e16 := w64 e16 (by omega) (by omega))
     have hk : a.getD i default = b.getD i default := by
       exact Entry.of_eq h25
     refine rnd_next (i + 1) ⟨by omega, all_next hI1.2 hk⟩ (by first | omega | (dsimp only; omega)) byC
   ·
    (try simp only [go_sem] at h14)
    refine cx_exit ?_
    simp only [go_sem]
    refine cx_sr ?_
    simp only [go_sem]
    refine cx_ret ?_
    simp only [go_sem]
    refine finw_bool ?_
    have : a = b := list_eq_of (d := default) (by omega) (fun j hj => hI1.2 j (by omega))
    simp [sameL, this]
theorem SameChanges_c (a b : List Change) (ha : a.length < 4611686018427387904) (hb : b.length < 4611686018427387904) : Meets Tryd.prog 64 [lstV 5 Change.enc default a, lstV 5 Change.enc default b] (.bool (sameL a b)) [] := by
  refine meets_x (fn := Tryd.f64) Tryd.func64 rfl fb64 (by kernel_rfl) (Nat.le_of_ble_eq_true rfl) ?_
  refine cx_sr ?_
  simp only [go_sem]
  repeat first | (with_reducible refine side_d ?_ ?_; exact byD) | (with_reducible refine side_q ?_ ?_; exact byQ)
  refine cx_seq ?_
  refine cx_sr ?_
  simp only [go_sem]
  intro t10 e10
  subst e10
  refine cx_if _ rfl (fun h10 => ?_) (fun h10 => ?_)
  ·
   (try simp only [go_sem] at h10)
   refine cx_sr ?_
   simp only [go_sem]
   refine cx_ret ?_
   simp only [go_sem]
   refine finw_bool ?_
   have : a ≠ b := fun e => by subst e; exact h10 rfl
   simp [sameL, this]
  ·
   (try simp only [go_sem] at h10)
   refine cx_skip ?_
   (try simp only [go_sem])
   refine cx_seq ?_
   refine cx_sr ?_
   simp only [go_sem]
   refine cx_block ?_
   refine cx_loop0 (σ := Nat) (fun i => i ≤ a.length ∧ ∀ j, j < i → a.getD j default = b.getD j default) (fun i => [⟨5, 0, [], .int .i64 (i : Nat)⟩]) [0, 1] (fun i => a.length - i) 0 ⟨Nat.zero_le _, fun j hj => absurd hj (Nat.not_lt_zero j)⟩ (Nat.zero_le _) byC (fun i hI1 => ?_)
   simp only [go_sem]
   refine cx_seq ?_
   refine cx_sr ?_
   simp only [go_sem]
   repeat first | (with_reducible refine side_d ?_ ?_; exact byD) | (with_reducible refine side_q ?_ ?_; exact byQ)
   intro t14 e14
   subst e14
   refine cx_if _ rfl (fun h14 => ?_) (fun h14 => ?_)
   ·
    (try simp only [go_sem] at h14)
    refine cx_skip ?_
    (try simp only [go_sem])
    refine cx_seq (cx_block ?_)
    refine cx_seq (cx_draw mixed [] (.first 0 (.first 1 (.first 2 (.first 3 (.first 4 (.first 5 (.first 6 (.first 7 (.first 8 (.done)))))))))) (by kernel_rfl) ?_)
    simp only [go_sem]
    repeat first | (with_reducible refine side_d ?_ ?_; exact byD) | (with_reducible refine side_q ?_ ?_; exact byQ)
    intro t25 e25
    subst e25
    refine cx_if _ rfl (fun h25 => ?_) (fun h25 => ?_)
    ·
     (try simp only [go_sem] at h25)
     refine cx_sr ?_
     simp only [go_sem]
     refine cx_ret ?_
     simp only [go_sem]
     refine finw_bool ?_
     have : a ≠ b := fun e => by
       subst e
       grind
     simp [sameL, this]
    ·
     (try simp only [go_sem] at h25)
     refine cx_skip ?_
     (try simp only [go_sem])
     refine cx_region ?_
     simp only [go_sem]
     intro t16 e16
     (try replace e16 := w64 e16 (by omega) (by omega))
     have hk : a.getD i default = b.getD i default := by
       exact Change.of_eq h25
     refine rnd_next (i + 1) ⟨by omega, all_next hI1.2 hk⟩ (by first | omega | (dsimp only; omega)) byC
   ·
    (try simp only [go_sem] at h14)
    refine cx_exit ?_
    simp only [go_sem]
    refine cx_sr ?_
    simp only [go_sem]
    refine cx_ret ?_
    simp only [go_sem]
    refine finw_bool ?_
    have : a = b := list_eq_of (d := default) (by omega) (fun j hj => hI1.2 j (by omega))
    simp [sameL, this]
theorem treeIs_c (t : List Entry) (e w : Int) (u : List Entry) (ht : t.length < 4611686018427387904) (hu : u.length < 4611686018427387904) : Meets Tryd.prog 23 [esV t, .int .i64 e, .int .i64 w, esV u] (.bool (decide (e = w) && decide (t = if w = 0 then u else []))) [] := by
  refine meets_x (fn := Tryd.f23) Tryd.func23 rfl fb23 (by kernel_rfl) (Nat.le_of_ble_eq_true rfl) ?_
  refine cx_sr ?_
  simp only [go_sem]
  repeat first | (with_reducible refine side_d ?_ ?_; exact byD) | (with_reducible refine side_q ?_ ?_; exact byQ)
  refine cx_seq ?_
  refine cx_sr ?_
  simp only [go_sem]
  intro t10 e10
  subst e10
  refine cx_meet0 (σ := List Entry) (fun x => x = (if w = 0 then u else [])) (fun x => [⟨3, 0, [], esV x⟩]) [0, 1, 2, 8] (Nat.zero_le _) ?_ (fun x hIM1 => ?_)
  ·
   refine cx_if _ rfl (fun h10 => ?_) (fun h10 => ?_)
   ·
    (try simp only [go_sem] at h10)
    refine cx_region ?_
    simp only [go_sem]
    have hw : ¬ w = 0 := by simpa using h10
    refine mt_next [] (by rw [if_neg hw]) byC
   ·
    (try simp only [go_sem] at h10)
    refine cx_skip ?_
    (try simp only [go_sem])
    have hw : w = 0 := by simpa using h10
    refine mt_next u (by rw [if_pos hw]) byC
  simp only [go_sem]
  have hx : x.length ≤ u.length := by rw [hIM1]; split <;> simp
  refine cx_sr ?_
  simp only [go_sem]
  repeat first | (with_reducible refine side_d ?_ ?_; exact byD) | (with_reducible refine side_q ?_ ?_; exact byQ)
  intro t13 e13
  refine ⟨_, fun hp => cw_m (SameEntries_c t x ht (by omega)) byW byT ⟨rfl, rfl⟩, ?_⟩
  simp only [go_sem]
  intro t18 e18
  rw [bsel_and] at e18
  subst e13 e18
  refine cx_ret ?_
  simp only [go_sem]
  refine finw_bool ?_
  rw [← hIM1]
  rfl
end Go.VM.Tryd
end
section
set_option maxHeartbeats 4000000
set_option linter.unusedVariables false
set_option linter.unusedSimpArgs false
open Go Go.VM
namespace Tether
def step1E (x : Entry) (s : List Entry × Bool) (e : Entry) : List Entry × Bool := if s.2 = false ∧ ¬ e.path < x.path then (s.1 ++ [x], true) else s
def putStepE (x : Entry) (s : List Entry × Bool) (e : Entry) : List Entry × Bool := if ¬ e.path = x.path then ((step1E x s e).1 ++ [e], (step1E x s e).2) else step1E x s e
def putSE (l : List Entry) (x : Entry) (i : Nat) : List Entry × Bool := (l.take i).foldl (putStepE x) ([], false)
theorem putSE_next {l : List Entry} {x : Entry} {i : Nat} (hi : i < l.length) : putSE l x (i + 1) = putStepE x (putSE l x i) (l.getD i default) := foldl_take _ _ _ _ hi
theorem putSE_len (l : List Entry) (x : Entry) (i : Nat) : (putSE l x i).1.length ≤ 2 * i := by
  have key : ∀ (m : List Entry) (s : List Entry × Bool), (m.foldl (putStepE x) s).1.length ≤ s.1.length + 2 * m.length := by
    intro m
    induction m with
    | nil => intro s; simp
    | cons e m ih =>
      intro s
      rw [List.foldl_cons]
      refine Nat.le_trans (ih _) ?_
      have : (putStepE x s e).1.length ≤ s.1.length + 2 := by
        unfold putStepE step1E
        split <;> split <;> simp
      simp; omega
  have := key (l.take i) ([], false)
  simp at this
  unfold putSE
  omega
def refPutE (l : List Entry) (x : Entry) : List Entry := if (putSE l x l.length).2 = false then (putSE l x l.length).1 ++ [x] else (putSE l x l.length).1
theorem foldE_ahead {x : Entry} {b : Bool} : ∀ (l o : List Entry), (∀ e ∈ l, e.path < x.path) → l.foldl (putStepE x) (o, b) = (o ++ l, b)
  | [], o, _ => by simp
  | e :: l, o, h => by
    have h1 := h e (by simp)
    have h2 : putStepE x (o, b) e = (o ++ [e], b) := by
      have hne : ¬ e.path = x.path := fun k => lt_irrefl' _ (k ▸ h1)
      simp [putStepE, step1E, hne, h1]
    rw [List.foldl_cons, h2, foldE_ahead l _ fun y hy => h y (by simp [hy])]
    simp
theorem foldE_behind {x : Entry} : ∀ (l o : List Entry), (∀ e ∈ l, x.path < e.path) → l.foldl (putStepE x) (o, true) = (o ++ l, true)
  | [], o, _ => by simp
  | e :: l, o, h => by
    have h1 := h e (by simp)
    have h2 : putStepE x (o, true) e = (o ++ [e], true) := by
      have hne : ¬ e.path = x.path := fun k => lt_irrefl' _ (k ▸ h1)
      simp [putStepE, step1E, hne]
    rw [List.foldl_cons, h2, foldE_behind l _ fun y hy => h y (by simp [hy])]
    simp
theorem refPutE_eq {l : List Entry} (hs : SortedE l) (x : Entry) : refPutE l x = putE l x := by
  have hle := eIx_le l x.path
  have hsplit : l = l.take (eIx l x.path) ++ l.drop (eIx l x.path) := (List.take_append_drop _ _).symm
  have hA := foldE_ahead (x := x) (b := false) (l.take (eIx l x.path)) [] fun e he => take_lt he
  have hfull : putSE l x l.length = (l.drop (eIx l x.path)).foldl (putStepE x) (l.take (eIx l x.path), false) := by
    unfold putSE
    rw [List.take_length]
    conv => lhs; rw [hsplit]
    rw [List.foldl_append, hA]
    simp
  rw [putE_eq]
  unfold refPutE
  rcases Nat.lt_or_ge (eIx l x.path) l.length with hlt | hge
  · have hd := List.drop_eq_getElem_cons hlt
    have hnl : ¬ (l[eIx l x.path]).path < x.path := by
      have := eIx_ge hs (Nat.le_refl _) hlt
      simpa [List.getD, hlt] using this
    have hs1 : step1E x (l.take (eIx l x.path), false) l[eIx l x.path] = (l.take (eIx l x.path) ++ [x], true) := by simp [step1E, hnl]
    by_cases hh : hasE l x.path = true
    · have hp : (l[eIx l x.path]).path = x.path := by
        simp only [hasE, Bool.and_eq_true, decide_eq_true_eq] at hh
        have := hh.2
        simpa [List.getD, hlt] using this
      have hst : putStepE x (l.take (eIx l x.path), false) l[eIx l x.path] = (l.take (eIx l x.path) ++ [x], true) := by rw [putStepE, if_neg (by simp [hp]), hs1]
      have hb := foldE_behind (x := x) (l.drop (eIx l x.path + 1)) (l.take (eIx l x.path) ++ [x]) fun e he => drop_gt hs (by rw [if_pos hh]; exact he)
      rw [hfull, hd, List.foldl_cons, hst, hb, if_neg (by simp), if_pos hh]
      simp
    · have hp : ¬ (l[eIx l x.path]).path = x.path := fun e => hh ((hasE_iff hs).2 ⟨_, List.getElem_mem hlt, e⟩)
      have hst : putStepE x (l.take (eIx l x.path), false) l[eIx l x.path] = (l.take (eIx l x.path) ++ [x] ++ [l[eIx l x.path]], true) := by rw [putStepE, if_pos hp, hs1]
      have hb := foldE_behind (x := x) (l.drop (eIx l x.path + 1)) (l.take (eIx l x.path) ++ [x] ++ [l[eIx l x.path]]) fun e he => drop_gt hs (by rw [if_neg hh, hd]; exact List.mem_cons_of_mem _ he)
      rw [hfull, hd, List.foldl_cons, hst, hb, if_neg (by simp), if_neg hh, hd]
      simp
  · have hk : eIx l x.path = l.length := by omega
    have hh : ¬ hasE l x.path = true := by simp [hasE, hk]
    rw [hfull, if_neg hh, hk]
    simp
end Tether
end
section
set_option maxHeartbeats 4000000
set_option linter.unusedVariables false
set_option linter.unusedSimpArgs false
open Go Go.VM Go.Proofs Tether
namespace Go.VM.Tryd
set_option maxRecDepth 100000
theorem PutEntry0_c (l : List Entry) (x : Entry) (hl : l.length ≤ 1048576) : Meets Tryd.prog 85 [esV l, .agg x.enc] (.own none 0 4 0 (refPutE l x).length .loose) [.arr 4 (refPutE l x).length (En Entry.enc default (refPutE l x))] := by
  refine meets_x (fn := Tryd.f85) Tryd.func85 rfl fb85 (by kernel_rfl) (Nat.le_of_ble_eq_true rfl) ?_
  refine cx_sr ?_
  simp only [go_sem]
  repeat first | (with_reducible refine side_d ?_ ?_; exact byD) | (with_reducible refine side_q ?_ ?_; exact byQ)
  refine cx_sr ?_
  simp only [go_sem]
  refine cx_virt 5 4 (En Entry.enc default []) rfl ?_
  refine cx_sr ?_
  simp only [go_sem]
  refine cx_seq ?_
  refine cx_sr ?_
  simp only [go_sem]
  refine cx_block ?_
  refine cx_loopk (σ := Nat) (fun i => i ≤ l.length) (fun i => [⟨7, 0, [], .int .i64 (i : Nat)⟩, ⟨5, 0, [], .own none 1 4 0 (putSE l x i).1.length .loose⟩, ⟨6, 0, [], .bool (putSE l x i).2⟩]) [0, 3, 4] (fun i => [.box x.enc, .arr 4 (putSE l x i).1.length (En Entry.enc default (putSE l x i).1)]) (fun i => l.length - i) 0 (by first | trivial | omega | simp) (fun _ => (Nat.zero_le _)) byC (fun i hI1 => ?_)
  simp only [go_sem]
  have hwl := putSE_len l x i
  refine cx_seq ?_
  refine cx_sr ?_
  simp only [go_sem]
  repeat first | (with_reducible refine side_d ?_ ?_; exact byD) | (with_reducible refine side_q ?_ ?_; exact byQ)
  intro t11 e11
  subst e11
  refine cx_if _ rfl (fun h11 => ?_) (fun h11 => ?_)
  ·
   (try simp only [go_sem] at h11)
   refine cx_skip ?_
   (try simp only [go_sem])
   refine cx_seq (cx_block ?_)
   refine cx_seq ?_
   refine cx_seq (cx_draw mixed [] (.first 0 (.first 1 (.first 2 (.first 3 (.first 4 (.first 5 (.first 6 (.first 7 (.first 8 (.first 9 (.first 10 (.first 11 (.done))))))))))))) (by kernel_rfl) ?_)
   simp only [go_sem]
   intro t15 e15
   repeat first | (with_reducible refine side_d ?_ ?_; exact byD) | (with_reducible refine side_q ?_ ?_; exact byQ)
   intro t24 e24
   intro t25 e25
   rw [bsel_and] at e25
   subst e15 e24 e25
   refine cx_meet (σ := List Entry × Bool) (fun m => m = step1E x (putSE l x i) (l.getD i default) ∧ m.1.length ≤ 2 * i + 1) (fun m => [⟨5, 0, [], .own none 1 4 0 m.1.length .loose⟩, ⟨6, 0, [], .bool m.2⟩]) [0, 3, 4, 7] (fun m => [.box x.enc, .arr 4 m.1.length (En Entry.enc default m.1)]) (fun _ => (Nat.zero_le _)) ?_ (fun m hIM1 => ?_)
   ·
    refine cx_if _ rfl (fun h25 => ?_) (fun h25 => ?_)
    ·
     (try simp only [go_sem] at h25)
     refine cx_sr ?_
     simp only [go_sem]
     repeat first | (with_reducible refine side_d ?_ ?_; exact byD) | (with_reducible refine side_q ?_ ?_; exact byQ)
     refine cx_region ?_
     simp only [go_sem]
     have hs1 : step1E x (putSE l x i) (l.getD i default) = ((putSE l x i).1 ++ [x], true) := by
       rw [step1E, if_pos]
       rw [← blt_iff]
       grind
     refine mt_nextr ((putSE l x i).1 ++ [x], true) [0, 3] ⟨hs1.symm, by simp; omega⟩ ⟨rfl, rfl, ?_, ?_⟩
     · exact byC
     · skip
       simp only [go_sem, wk, wks, wkB, wkH, List.length_append, List.length_cons, List.length_nil]
       first | exact fun q hq => wks_mp_snoc (fun x => rnVs_no _ rfl) (by rfl) hq | (and_intros <;> first | trivial | rfl | omega | (exact fun q hq => wks_mp_snoc (fun x => rnVs_no _ rfl) (by rfl) hq) | exact wks_refl _ | exact byC)
    ·
     (try simp only [go_sem] at h25)
     refine cx_skip ?_
     (try simp only [go_sem])
     have hs1 : step1E x (putSE l x i) (l.getD i default) = putSE l x i := by
       rw [step1E, if_neg]
       rw [← blt_iff]
       grind
     refine mt_next (putSE l x i) ⟨hs1.symm, by omega⟩ byC
   simp only [go_sem]
   refine cx_seq (cx_draw mixed [] (.first 0 (.first 1 (.first 2 (.first 3 (.first 4 (.first 5 (.first 6 (.first 7 (.done))))))))) (by kernel_rfl) ?_)
   simp only [go_sem]
   repeat first | (with_reducible refine side_d ?_ ?_; exact byD) | (with_reducible refine side_q ?_ ?_; exact byQ)
   intro t37 e37
   subst e37
   refine cx_if _ rfl (fun h37 => ?_) (fun h37 => ?_)
   ·
    (try simp only [go_sem] at h37)
    have hp := putSE_next (l := l) (x := x) (i := i) (by omega)
    rw [putStepE, if_pos (by simpa using h37), ← hIM1.1] at hp
    refine cx_region ?_
    simp only [go_sem]
    repeat first | (with_reducible refine side_d ?_ ?_; exact byD) | (with_reducible refine side_q ?_ ?_; exact byQ)
    refine cx_region ?_
    simp only [go_sem]
    intro t13 e13
    (try replace e13 := w64 e13 (by omega) (by omega))
    refine rnd_nextr (i + 1) [0, 3] (by omega) (by first | omega | (dsimp only; omega)) ⟨rfl, rfl, ?_, ?_⟩
    · (try rw [hp]); exact byC
    · rw [hp]; skip
      simp only [go_sem, wk, wks, wkB, wkH, List.length_append, List.length_cons, List.length_nil]
      first | exact fun q hq => wks_mp_snoc (fun x => rnVs_no _ rfl) (by rfl) hq | (and_intros <;> first | trivial | rfl | omega | (exact fun q hq => wks_mp_snoc (fun x => rnVs_no _ rfl) (by rfl) hq) | exact wks_refl _ | exact byC)
   ·
    (try simp only [go_sem] at h37)
    have hp := putSE_next (l := l) (x := x) (i := i) (by omega)
    rw [putStepE, if_neg (by simpa using h37), ← hIM1.1] at hp
    refine cx_skip ?_
    (try simp only [go_sem])
    refine cx_region ?_
    simp only [go_sem]
    intro t13 e13
    (try replace e13 := w64 e13 (by omega) (by omega))
    refine rnd_next (i + 1) (by omega) (by first | omega | (dsimp only; omega)) ?_
    rw [hp]
    exact byC
  ·
   (try simp only [go_sem] at h11)
   refine cx_exit ?_
   simp only [go_sem]
   refine cx_seq ?_
   refine cx_sr ?_
   simp only [go_sem]
   intro t46 e46
   subst e46
   refine cx_if _ rfl (fun h46 => ?_) (fun h46 => ?_)
   ·
    (try simp only [go_sem] at h46)
    refine cx_region ?_
    simp only [go_sem]
    repeat first | (with_reducible refine side_d ?_ ?_; exact byD) | (with_reducible refine side_q ?_ ?_; exact byQ)
    refine cx_sr ?_
    simp only [go_sem]
    refine cx_ret ?_
    simp only [go_sem]
    have hi : i = l.length := by omega
    have hput : refPutE l x = (putSE l x i).1 ++ [x] := by rw [refPutE, ← hi]; exact if_pos (by simpa using h46)
    rw [hput]
    refine finx_w (.own none 3 4 0 ((putSE l x i).1 ++ [x]).length .loose) [.dead, .dead, .dead, .arr 4 ((putSE l x i).1 ++ [x]).length (En Entry.enc default ((putSE l x i).1 ++ [x]))] ?_ ?_ ?_
    · exact byC
    · simp only [go_sem, wkB, wkH, List.length_append, List.length_cons, List.length_nil]
      exact fun q hq => wks_En_snoc (x := x) (by exact wks_refl _) hq
    · exact finx_of 1 [3] rfl byC byC byC byC
   ·
    (try simp only [go_sem] at h46)
    refine cx_skip ?_
    (try simp only [go_sem])
    refine cx_sr ?_
    simp only [go_sem]
    refine cx_ret ?_
    simp only [go_sem]
    have hi : i = l.length := by omega
    have hput : refPutE l x = (putSE l x i).1 := by rw [refPutE, ← hi]; exact if_neg (by simpa using h46)
    rw [hput]
    exact finx_of 1 [1] rfl byC byC byC byC
theorem PutEntry_c (l : List Entry) (x : Entry) (hl : l.length ≤ 1048576) (hs : SortedE l) : Meets Tryd.prog 85 [esV l, .agg x.enc] (.own none 0 4 0 (putE l x).length .loose) [.arr 4 (putE l x).length (En Entry.enc default (putE l x))] := by
  have h := PutEntry0_c l x hl
  rwa [refPutE_eq hs] at h
end Go.VM.Tryd
end
section
set_option maxHeartbeats 4000000
set_option linter.unusedVariables false
set_option linter.unusedSimpArgs false
open Go Go.VM Go.Proofs Tether
namespace Go.VM.Tryd
set_option maxRecDepth 100000
set_option maxHeartbeats 4000000
theorem ChangeForm_c (c : Change) (ok : okC c) : Meets Tryd.prog 83 [.agg c.enc] (.int .i64 (formP c)) [] := by
  refine meets_x (fn := Tryd.f83) Tryd.func83 rfl fb83 (by kernel_rfl) (Nat.le_of_ble_eq_true rfl) ?_
  obtain ⟨ok1, ok2, ok3⟩ := ok
  refine cx_sr ?_
  simp only [go_sem]
  repeat first | (with_reducible refine side_d ?_ ?_; exact byD) | (with_reducible refine side_q ?_ ?_; exact byQ)
  refine cx_seq ?_
  refine cx_sr ?_
  simp only [go_sem]
  intro t6 e6
  intro t10 e10
  intro t11 e11
  rw [bsel_or] at e11
  subst e6 e10 e11
  refine cx_if _ rfl (fun h11 => ?_) (fun h11 => ?_)
  ·
   (try simp only [go_sem] at h11)
   refine cx_sr ?_
   simp only [go_sem]
   refine cx_ret ?_
   simp only [go_sem]
   refine finw_int ?_
   unfold formP
   grind
  ·
   (try simp only [go_sem] at h11)
   refine cx_skip ?_
   (try simp only [go_sem])
   refine cx_sr ?_
   simp only [go_sem]
   refine cw_m (CheckPath_c c.path (by omega)) byW byT ?_
   simp only [go_sem]
   refine cx_seq ?_
   refine cx_sr ?_
   simp only [go_sem]
   intro t16 e16
   intro t20 e20
   intro t21 e21
   rw [bsel_and] at e21
   subst e16 e20 e21
   refine cx_if _ rfl (fun h21 => ?_) (fun h21 => ?_)
   ·
    (try simp only [go_sem] at h21)
    refine cx_region ?_
    simp only [go_sem]
    refine cw_m (CheckPath_c c.to (by omega)) byW byT ?_
    simp only [go_sem]
    refine cx_seq (cx_block ?_)
    refine cx_sr ?_
    simp only [go_sem]
    intro t27 e27
    subst e27
    refine cx_if _ rfl (fun h25 => ?_) (fun h25 => ?_)
    ·
     (try simp only [go_sem] at h25)
     refine cx_sr ?_
     simp only [go_sem]
     refine cx_ret ?_
     simp only [go_sem]
     refine finw_int ?_
     unfold formP
     grind
    ·
     (try simp only [go_sem] at h25)
     refine cx_seq ?_
     refine cx_sr ?_
     simp only [go_sem]
     intro t32 e32
     intro t36 e36
     intro t37 e37
     rw [bsel_and] at e37
     subst e32 e36 e37
     refine cx_if _ rfl (fun h29 => ?_) (fun h29 => ?_)
     ·
      (try simp only [go_sem] at h29)
      refine cx_skip ?_
      (try simp only [go_sem])
      refine cx_if _ rfl (fun h29b => ?_) (fun h29b => no_if h29b)
      refine cx_sr ?_
      simp only [go_sem]
      refine cx_ret ?_
      simp only [go_sem]
      refine finw_int ?_
      unfold formP
      grind
     ·
      (try simp only [go_sem] at h29)
      refine cx_region ?_
      simp only [go_sem]
      intro t40 e40
      intro t44 e44
      intro t45 e45
      rw [bsel_and] at e45
      subst e40 e44 e45
      refine cx_if _ rfl (fun h29b => ?_) (fun h29b => ?_)
      ·
       (try simp only [go_sem] at h29b)
       refine cx_sr ?_
       simp only [go_sem]
       refine cx_ret ?_
       simp only [go_sem]
       refine finw_int ?_
       unfold formP
       grind
      ·
       (try simp only [go_sem] at h29b)
       refine cx_sr ?_
       simp only [go_sem]
       intro t50 e50
       subst e50
       refine cx_if _ rfl (fun h46 => ?_) (fun h46 => ?_)
       ·
        (try simp only [go_sem] at h46)
        refine cx_sr ?_
        simp only [go_sem]
        refine cx_ret ?_
        simp only [go_sem]
        refine finw_int ?_
        unfold formP
        grind
       ·
        (try simp only [go_sem] at h46)
        refine cx_sr ?_
        simp only [go_sem]
        intro t54 e54
        intro t58 e58
        intro t59 e59
        rw [bsel_or] at e59
        subst e54 e58 e59
        refine cx_if _ rfl (fun h51 => ?_) (fun h51 => ?_)
        ·
         (try simp only [go_sem] at h51)
         refine cx_sr ?_
         simp only [go_sem]
         refine cx_ret ?_
         simp only [go_sem]
         refine finw_int ?_
         unfold formP
         grind
        ·
         (try simp only [go_sem] at h51)
         refine cx_skip ?_
         (try simp only [go_sem])
         refine cx_sr ?_
         simp only [go_sem]
         refine cx_ret ?_
         simp only [go_sem]
         refine finw_int ?_
         unfold formP
         grind
   ·
    (try simp only [go_sem] at h21)
    refine cx_skip ?_
    (try simp only [go_sem])
    refine cx_seq (cx_block ?_)
    refine cx_sr ?_
    simp only [go_sem]
    intro t27 e27
    subst e27
    refine cx_if _ rfl (fun h25 => ?_) (fun h25 => ?_)
    ·
     (try simp only [go_sem] at h25)
     refine cx_sr ?_
     simp only [go_sem]
     refine cx_ret ?_
     simp only [go_sem]
     refine finw_int ?_
     unfold formP
     grind
    ·
     (try simp only [go_sem] at h25)
     refine cx_seq ?_
     refine cx_sr ?_
     simp only [go_sem]
     intro t32 e32
     intro t36 e36
     intro t37 e37
     rw [bsel_and] at e37
     subst e32 e36 e37
     refine cx_if _ rfl (fun h29 => ?_) (fun h29 => ?_)
     ·
      (try simp only [go_sem] at h29)
      refine cx_skip ?_
      (try simp only [go_sem])
      refine cx_if _ rfl (fun h29b => ?_) (fun h29b => no_if h29b)
      refine cx_sr ?_
      simp only [go_sem]
      refine cx_ret ?_
      simp only [go_sem]
      refine finw_int ?_
      unfold formP
      grind
     ·
      (try simp only [go_sem] at h29)
      refine cx_region ?_
      simp only [go_sem]
      intro t40 e40
      intro t44 e44
      intro t45 e45
      rw [bsel_and] at e45
      subst e40 e44 e45
      refine cx_if _ rfl (fun h29b => ?_) (fun h29b => ?_)
      ·
       (try simp only [go_sem] at h29b)
       refine cx_sr ?_
       simp only [go_sem]
       refine cx_ret ?_
       simp only [go_sem]
       refine finw_int ?_
       unfold formP
       grind
      ·
       (try simp only [go_sem] at h29b)
       refine cx_sr ?_
       simp only [go_sem]
       intro t50 e50
       subst e50
       refine cx_if _ rfl (fun h46 => ?_) (fun h46 => ?_)
       ·
        (try simp only [go_sem] at h46)
        refine cx_sr ?_
        simp only [go_sem]
        refine cx_ret ?_
        simp only [go_sem]
        refine finw_int ?_
        unfold formP
        grind
       ·
        (try simp only [go_sem] at h46)
        refine cx_sr ?_
        simp only [go_sem]
        intro t54 e54
        intro t58 e58
        intro t59 e59
        rw [bsel_or] at e59
        subst e54 e58 e59
        refine cx_if _ rfl (fun h51 => ?_) (fun h51 => ?_)
        ·
         (try simp only [go_sem] at h51)
         refine cx_sr ?_
         simp only [go_sem]
         refine cx_ret ?_
         simp only [go_sem]
         refine finw_int ?_
         unfold formP
         grind
        ·
         (try simp only [go_sem] at h51)
         refine cx_skip ?_
         (try simp only [go_sem])
         refine cx_sr ?_
         simp only [go_sem]
         refine cx_ret ?_
         simp only [go_sem]
         refine finw_int ?_
         unfold formP
         grind
/-- whether something is at a path, by the document -/
theorem at_has {l : List Entry} (hs : SortedE l) (p : Str) : (idxF (isAt p) l = -1 ∧ hasE l p = false) ∨ (idxF (isAt p) l = (eIx l p : Nat) ∧ hasE l p = true ∧ eIx l p < l.length) := by
  by_cases hh : hasE l p = true
  · right
    have hlt : eIx l p < l.length := by simp [hasE] at hh; exact hh.1
    rcases find_idx l p with ⟨_, h2⟩ | ⟨i, h1, h2, h3⟩
    · rw [findE_eq hs, if_pos hh] at h2
      cases h2
    · refine ⟨?_, hh, hlt⟩
      rw [h1]
      have hp := (findE_some h3).2
      have hp2 : (l.getD (eIx l p) default).path = p := by simp only [hasE, Bool.and_eq_true, decide_eq_true_eq] at hh; exact hh.2
      have h4 : (l[i]'h2).path = (l[eIx l p]'hlt).path := by
        have e1 : l.getD i default = l[i] := by simp [List.getD, h2]
        have e2 : l.getD (eIx l p) default = l[eIx l p] := by simp [List.getD, hlt]
        rw [← e1, ← e2, hp, hp2]
      rw [sorted_inj hs h2 hlt h4]
  · left
    refine ⟨?_, by simpa using hh⟩
    rcases find_idx l p with ⟨h1, _⟩ | ⟨i, h1, h2, h3⟩
    · exact h1
    · rw [findE_eq hs, if_neg hh] at h3
      cases h3
theorem form_base {c : Change} (h : formP c = 0) : -1 ≤ c.base := by
  unfold formP at h
  grind
theorem form_kind {c : Change} (h : formP c = 0) : 1 ≤ c.kind ∧ c.kind ≤ 4 := by
  unfold formP at h
  grind
theorem filter_snoc {l : List Entry} {p : Entry → Bool} {i : Nat} (h : i < l.length) : (l.take (i + 1)).filter p = if p (l.getD i default) = true then (l.take i).filter p ++ [l.getD i default] else (l.take i).filter p := by
  have hd : l.getD i default = l[i] := by simp [List.getD, h]
  rw [hd, List.take_add_one, List.getElem?_eq_getElem h, List.filter_append]
  by_cases hb : p l[i] = true
  · rw [if_pos hb]; simp [hb]
  · rw [if_neg hb]; simp [hb]
theorem ChangeOf_c (l : List Entry) (c : Change) (v : Int) (g : GoodT l) (ok : okC c) : Meets Tryd.prog 63 [esV l, .agg c.enc, .int .i64 v]
    (.tup [.own none 0 4 0 (rawP l c v).length .loose, .int .i64 (rawErr l c v)]) [.arr 4 (rawP l c v).length (En Entry.enc default (rawP l c v))] := by
  refine meets_x (fn := Tryd.f63) Tryd.func63 rfl fb63 (by kernel_rfl) (Nat.le_of_ble_eq_true rfl) ?_
  have hl := g.ok.1
  have hl2 := g.paths.1
  have hs := g.sorted
  obtain ⟨ok1, ok2, ok3⟩ := id ok
  have hgl : (goalP c).length ≤ 1048576 := by unfold goalP; split <;> omega
  have hah := at_has hs
  refine cx_sr ?_
  simp only [go_sem]
  repeat first | (with_reducible refine side_d ?_ ?_; exact byD) | (with_reducible refine side_q ?_ ?_; exact byQ)
  refine cx_sr ?_
  simp only [go_sem]
  refine cw_m (ChangeForm_c c ok) byW byT ?_
  simp only [go_sem]
  refine cx_seq ?_
  refine cx_sr ?_
  simp only [go_sem]
  intro t19 e19
  subst e19
  refine cx_if _ rfl (fun h19 => ?_) (fun h19 => ?_)
  ·
   (try simp only [go_sem] at h19)
   refine cx_sr ?_
   simp only [go_sem]
   refine cx_virt 6 4 (En Entry.enc default []) rfl ?_
   simp only [go_sem]
   refine cx_ret ?_
   simp only [go_sem]
   have h1 : ¬ formP c = 0 := by simpa using h19
   have he : rawErr l c v = formP c := by rw [rawErr, if_pos h1]
   have hp : rawP l c v = [] := by rw [rawP, he, if_neg h1]
   rw [he, hp]
   exact finx_of 1 [1] rfl byC byC byC byC
  ·
   (try simp only [go_sem] at h19)
   have hF : formP c = 0 := by simpa using h19
   refine cx_skip ?_
   (try simp only [go_sem])
   refine cx_sr ?_
   simp only [go_sem]
   refine cx_seq ?_
   refine cx_sr ?_
   simp only [go_sem]
   intro t25 e25
   subst e25
   refine cx_meet0 (σ := Unit) (fun u => True) (fun u => [⟨9, 0, [], .str (goalP c)⟩]) [0, 2, 4, 6, 7] (Nat.zero_le _) ?_ (fun u hIM1 => ?_)
   ·
    refine cx_if _ rfl (fun h25 => ?_) (fun h25 => ?_)
    ·
     (try simp only [go_sem] at h25)
     refine cx_region ?_
     simp only [go_sem]
     have hk : c.kind = 3 := by simpa using h25
     refine mt_next () trivial ?_
     rw [goalP, if_pos hk]
     exact byC
    ·
     (try simp only [go_sem] at h25)
     refine cx_skip ?_
     (try simp only [go_sem])
     have hk : ¬ c.kind = 3 := by simpa using h25
     refine mt_next () trivial ?_
     rw [goalP, if_neg hk]
     exact byC
   simp only [go_sem]
   refine cx_sr ?_
   simp only [go_sem]
   repeat first | (with_reducible refine side_d ?_ ?_; exact byD) | (with_reducible refine side_q ?_ ?_; exact byQ)
   refine cw_m (ParentOf2_c (goalP c) (by omega)) byW byT ?_
   simp only [go_sem]
   refine cw_m (IsFolder_c l (headOf (goalP c)) (by omega)) byW byT ?_
   simp only [go_sem]
   refine cx_seq ?_
   refine cx_sr ?_
   simp only [go_sem]
   intro t33 e33
   subst e33
   refine cx_if _ rfl (fun h33 => ?_) (fun h33 => ?_)
   ·
    (try simp only [go_sem] at h33)
    refine cx_sr ?_
    simp only [go_sem]
    refine cx_virt 6 4 (En Entry.enc default []) rfl ?_
    simp only [go_sem]
    refine cx_ret ?_
    simp only [go_sem]
    have hm : mayP l c = isFolderP l (headOf (goalP c)) := by
      rw [isFolder_par hs] at h33 ⊢
      unfold mayP
      grind
    have he : rawErr l c v = isFolderP l (headOf (goalP c)) := by rw [rawErr, if_neg (by simpa using hF), if_pos (by rw [hm]; simpa using h33), hm]
    have hp : rawP l c v = [] := by rw [rawP, he, if_neg (by simpa using h33)]
    rw [he, hp]
    exact finx_of 1 [1] rfl byC byC byC byC
   ·
    (try simp only [go_sem] at h33)
    refine cx_skip ?_
    (try simp only [go_sem])
    refine cx_sr ?_
    simp only [go_sem]
    refine cw_m (EntryAt_c l c.path (by omega)) byW byT ?_
    simp only [go_sem]
    refine cx_seq (cx_block ?_)
    refine cx_sr ?_
    simp only [go_sem]
    intro t42 e42
    intro t45 e45
    intro t46 e46
    rw [bsel_and] at e46
    subst e42 e45 e46
    refine cx_if _ rfl (fun h39 => ?_) (fun h39 => ?_)
    ·
     (try simp only [go_sem] at h39)
     refine cx_sr ?_
     simp only [go_sem]
     refine cx_virt 6 4 (En Entry.enc default []) rfl ?_
     simp only [go_sem]
     refine cx_ret ?_
     simp only [go_sem]
     have hm : mayP l c = 6 := by
       have q2 := hah c.to
       have q9 := form_kind hF
       rw [isFolder_par hs] at h33
       unfold mayP
       rcases hah c.path with ⟨a1, a2⟩ | ⟨a1, a2, a3⟩ <;> (try simp only [a1, Int.toNat_natCast] at h47) <;> grind
     have he : rawErr l c v = 6 := by rw [rawErr, if_neg (by simpa using hF), if_pos (by rw [hm]; decide), hm]
     have hp : rawP l c v = [] := by rw [rawP, he, if_neg (by decide)]
     rw [he, hp]
     exact finx_of 1 [1] rfl byC byC byC byC
    ·
     (try simp only [go_sem] at h39)
     refine cx_sr ?_
     simp only [go_sem]
     intro t50 e50
     intro t53 e53
     intro t54 e54
     rw [bsel_and] at e54
     repeat ((with_reducible first | refine side_d ?_ ?_ | refine side_q ?_ ?_); focus (first | exact byD | exact byQ | ((refine Sd.of fun hp => ?_; simp only [pc, and_true] at hp; (have hq := hah c.path); grind))))
     repeat first | (with_reducible refine side_d ?_ ?_; exact byD) | (with_reducible refine side_q ?_ ?_; exact byQ)
     intro t61 e61
     rw [bsel_and] at e61
     subst e50 e53 e54 e61
     refine cx_if _ rfl (fun h47 => ?_) (fun h47 => ?_)
     ·
      (try simp only [go_sem] at h47)
      refine cx_sr ?_
      simp only [go_sem]
      refine cx_virt 6 4 (En Entry.enc default []) rfl ?_
      simp only [go_sem]
      refine cx_ret ?_
      simp only [go_sem]
      have hm : mayP l c = 4 := by
        have q2 := hah c.to
        have q9 := form_kind hF
        rw [isFolder_par hs] at h33
        unfold mayP
        rcases hah c.path with ⟨a1, a2⟩ | ⟨a1, a2, a3⟩ <;> (try simp only [a1, Int.toNat_natCast] at h47) <;> grind
      have he : rawErr l c v = 4 := by rw [rawErr, if_neg (by simpa using hF), if_pos (by rw [hm]; decide), hm]
      have hp : rawP l c v = [] := by rw [rawP, he, if_neg (by decide)]
      rw [he, hp]
      exact finx_of 1 [1] rfl byC byC byC byC
     ·
      (try simp only [go_sem] at h47)
      refine cx_sr ?_
      simp only [go_sem]
      intro t65 e65
      intro t68 e68
      intro t69 e69
      rw [bsel_and] at e69
      subst e65 e68 e69
      refine cx_if _ rfl (fun h62 => ?_) (fun h62 => ?_)
      ·
       (try simp only [go_sem] at h62)
       refine cx_sr ?_
       simp only [go_sem]
       refine cx_virt 6 4 (En Entry.enc default []) rfl ?_
       simp only [go_sem]
       refine cx_ret ?_
       simp only [go_sem]
       have hm : mayP l c = 5 := by
         have q2 := hah c.to
         have q9 := form_kind hF
         rw [isFolder_par hs] at h33
         unfold mayP
         rcases hah c.path with ⟨a1, a2⟩ | ⟨a1, a2, a3⟩ <;> (try simp only [a1, Int.toNat_natCast] at h47) <;> grind
       have he : rawErr l c v = 5 := by rw [rawErr, if_neg (by simpa using hF), if_pos (by rw [hm]; decide), hm]
       have hp : rawP l c v = [] := by rw [rawP, he, if_neg (by decide)]
       rw [he, hp]
       exact finx_of 1 [1] rfl byC byC byC byC
      ·
       (try simp only [go_sem] at h62)
       refine cx_sr ?_
       simp only [go_sem]
       intro t73 e73
       refine ⟨_, fun hp => cw_m (IsIn2_c c.to c.path (by omega) (by omega)) byW byT ⟨rfl, rfl⟩, ?_⟩
       simp only [go_sem]
       intro t80 e80
       rw [bsel_and] at e80
       subst e73 e80
       refine cx_if _ rfl (fun h70 => ?_) (fun h70 => ?_)
       ·
        (try simp only [go_sem] at h70)
        refine cx_sr ?_
        simp only [go_sem]
        refine cx_virt 6 4 (En Entry.enc default []) rfl ?_
        simp only [go_sem]
        refine cx_ret ?_
        simp only [go_sem]
        have hm : mayP l c = 3 := by
          have q2 := hah c.to
          have q9 := form_kind hF
          rw [isFolder_par hs] at h33
          unfold mayP
          rcases hah c.path with ⟨a1, a2⟩ | ⟨a1, a2, a3⟩ <;> (try simp only [a1, Int.toNat_natCast] at h47) <;> grind
        have he : rawErr l c v = 3 := by rw [rawErr, if_neg (by simpa using hF), if_pos (by rw [hm]; decide), hm]
        have hp : rawP l c v = [] := by rw [rawP, he, if_neg (by decide)]
        rw [he, hp]
        exact finx_of 1 [1] rfl byC byC byC byC
       ·
        (try simp only [go_sem] at h70)
        refine cx_sr ?_
        simp only [go_sem]
        intro t84 e84
        refine ⟨_, fun hp => cw_m (EntryAt_c l c.to (by omega)) byW byT ⟨rfl, rfl⟩, ?_⟩
        simp only [go_sem]
        intro t90 e90
        intro t91 e91
        rw [bsel_and] at e91
        subst e84 e90 e91
        refine cx_if _ rfl (fun h81 => ?_) (fun h81 => ?_)
        ·
         (try simp only [go_sem] at h81)
         refine cx_sr ?_
         simp only [go_sem]
         refine cx_virt 6 4 (En Entry.enc default []) rfl ?_
         simp only [go_sem]
         refine cx_ret ?_
         simp only [go_sem]
         have hm : mayP l c = 6 := by
           have q2 := hah c.to
           have q9 := form_kind hF
           rw [isFolder_par hs] at h33
           unfold mayP
           rcases hah c.path with ⟨a1, a2⟩ | ⟨a1, a2, a3⟩ <;> (try simp only [a1, Int.toNat_natCast] at h47) <;> grind
         have he : rawErr l c v = 6 := by rw [rawErr, if_neg (by simpa using hF), if_pos (by rw [hm]; decide), hm]
         have hp : rawP l c v = [] := by rw [rawP, he, if_neg (by decide)]
         rw [he, hp]
         exact finx_of 1 [1] rfl byC byC byC byC
        ·
         (try simp only [go_sem] at h81)
         refine cx_skip ?_
         (try simp only [go_sem])
         refine cx_seq ?_
         refine cx_sr ?_
         simp only [go_sem]
         refine cx_block ?_
         refine cx_loop0 (σ := Nat) (fun i => i ≤ l.length ∧ ∀ j, j < i → staleB c (l.getD j default) = false) (fun i => [⟨11, 0, [], .int .i64 (i : Nat)⟩]) [0, 2, 4] (fun i => l.length - i) 0 ⟨Nat.zero_le _, fun j hj => absurd hj (Nat.not_lt_zero j)⟩ (Nat.zero_le _) byC (fun i hI1 => ?_)
         simp only [go_sem]
         refine cx_seq ?_
         refine cx_sr ?_
         simp only [go_sem]
         repeat first | (with_reducible refine side_d ?_ ?_; exact byD) | (with_reducible refine side_q ?_ ?_; exact byQ)
         intro t95 e95
         intro t99 e99
         intro t100 e100
         rw [bsel_and] at e100
         subst e95 e99 e100
         refine cx_if _ rfl (fun h100 => ?_) (fun h100 => ?_)
         ·
          (try simp only [go_sem] at h100)
          have hxp := checkP_len (g.paths.2 (l.getD i default) (getD_mem (by omega)))
          refine cx_skip ?_
          (try simp only [go_sem])
          refine cx_seq (cx_block ?_)
          refine cx_seq (cx_draw mixed [] (.first 0 (.first 1 (.first 2 (.first 3 (.first 4 (.first 5 (.first 6 (.one 7 (.first 8 (.first 9 (.first 10 (.first 11 (.first 12 (.first 13 (.first 14 (.first 15 (.first 16 (.first 17 (.done))))))))))))))))))) (by kernel_rfl) ?_)
          simp only [go_sem]
          repeat first | (with_reducible refine side_d ?_ ?_; exact byD) | (with_reducible refine side_q ?_ ?_; exact byQ)
          refine cwE_m (IsIn2_c (l.getD i default).path c.path (by omega) (by omega)) byW byT ?_
          simp only [go_sem]
          repeat first | (with_reducible refine side_d ?_ ?_; exact byD) | (with_reducible refine side_q ?_ ?_; exact byQ)
          intro t119 e119
          intro t120 e120
          rw [bsel_and] at e120
          subst e119 e120
          refine cx_if _ rfl (fun h120 => ?_) (fun h120 => ?_)
          ·
           (try simp only [go_sem] at h120)
           refine cx_sr ?_
           simp only [go_sem]
           refine cx_virt 6 4 (En Entry.enc default []) rfl ?_
           simp only [go_sem]
           refine cx_ret ?_
           simp only [go_sem]
           have hst : l.any (staleB c) = true := List.any_eq_true.2 ⟨l.getD i default, getD_mem (by grind), by unfold staleB; grind⟩
           have hm : mayP l c = 8 := by
             have q2 := hah c.to
             have q9 := form_kind hF
             rw [isFolder_par hs] at h33
             unfold mayP
             rcases hah c.path with ⟨a1, a2⟩ | ⟨a1, a2, a3⟩ <;> (try simp only [a1, Int.toNat_natCast] at h47) <;> grind
           have he : rawErr l c v = 8 := by rw [rawErr, if_neg (by simpa using hF), if_pos (by rw [hm]; decide), hm]
           have hp : rawP l c v = [] := by rw [rawP, he, if_neg (by decide)]
           rw [he, hp]
           exact finx_of 1 [1] rfl byC byC byC byC
          ·
           (try simp only [go_sem] at h120)
           refine cx_skip ?_
           (try simp only [go_sem])
           refine cx_region ?_
           simp only [go_sem]
           intro t102 e102
           (try replace e102 := w64 e102 (by omega) (by omega))
           have hst : staleB c (l.getD i default) = false := by unfold staleB; grind
           refine rnd_next (i + 1) ⟨by grind, all_next hI1.2 hst⟩ (by first | omega | (dsimp only; omega)) byC
         ·
          (try simp only [go_sem] at h100)
          have hM : mayP l c = 0 := by
            have q2 := hah c.to
            have q9 := form_kind hF
            have q3 := form_base hF
            have q4 : c.base ≠ -1 → l.any (staleB c) = false := by
              intro hb
              rw [List.any_eq_false]
              intro x hx
              obtain ⟨j, hj, rfl⟩ := List.getElem_of_mem hx
              have := hI1.2 j (by grind)
              have e1 : l.getD j default = l[j] := by simp [List.getD, hj]
              rw [e1] at this
              simp [this]
            rw [isFolder_par hs] at h33
            unfold mayP
            rcases hah c.path with ⟨a1, a2⟩ | ⟨a1, a2, a3⟩ <;> (try simp only [a1, Int.toNat_natCast] at h47) <;> grind
          refine cx_exit ?_
          simp only [go_sem]
          refine cx_sr ?_
          simp only [go_sem]
          refine cx_virt 12 4 (En Entry.enc default []) rfl ?_
          simp only [go_sem]
          refine cx_seq ?_
          refine cx_sr ?_
          simp only [go_sem]
          refine cx_meet (σ := Unit) (fun u => c.kind = 3 → greatG l c v = false) (fun u => [⟨12, 0, [], .own none 1 4 0 (madeP l c v).length .loose⟩]) [] (fun u => [.box c.enc, .arr 4 (madeP l c v).length (En Entry.enc default (madeP l c v))]) (fun _ => (Nat.zero_le _)) ?_ (fun u hIM2 => ?_)
          ·
           refine cx_block ?_
           refine cx_sr ?_
           simp only [go_sem]
           intro t199 e199
           subst e199
           refine cx_if _ rfl (fun h198 => ?_) (fun h198 => ?_)
           ·
            (try simp only [go_sem] at h198)
            refine cx_region ?_
            simp only [go_sem]
            refine cw_m (PutEntry_c l ⟨c.path, true, [], v⟩ hl hs) byW byT ?_
            simp only [go_sem]
            have hk : c.kind = 1 := by simpa using h198
            have hm : madeP l c v = putE l ⟨c.path, true, [], v⟩ := by rw [madeP, if_pos hk]
            refine mt_nextr () [0, 2] (by omega) ⟨rfl, rfl, ?_, ?_⟩
            · rw [hm]; exact byC
            · rw [hm]; exact byC
           ·
            (try simp only [go_sem] at h198)
            refine cx_sr ?_
            simp only [go_sem]
            intro t207 e207
            subst e207
            refine cx_if _ rfl (fun h206 => ?_) (fun h206 => ?_)
            ·
             (try simp only [go_sem] at h206)
             refine cx_region ?_
             simp only [go_sem]
             refine cw_m (PutEntry_c l ⟨c.path, false, c.text, v⟩ hl hs) byW byT ?_
             simp only [go_sem]
             have hk : c.kind = 2 := by simpa using h206
             have hm : madeP l c v = putE l ⟨c.path, false, c.text, v⟩ := by rw [madeP, if_neg (by omega), if_pos hk]
             refine mt_nextr () [0, 2] (by omega) ⟨rfl, rfl, ?_, ?_⟩
             · rw [hm]; exact byC
             · rw [hm]; exact byC
            ·
             (try simp only [go_sem] at h206)
             refine cx_seq ?_
             refine cx_sr ?_
             simp only [go_sem]
             refine cx_block ?_
             refine cx_loopk (σ := Nat) (fun i => i ≤ l.length) (fun i => [⟨13, 0, [], .int .i64 (i : Nat)⟩, ⟨12, 0, [], .own none 1 4 0 ((l.take i).filter (outB c.path)).length .loose⟩]) [0, 2, 4] (fun i => [.box c.enc, .arr 4 ((l.take i).filter (outB c.path)).length (En Entry.enc default ((l.take i).filter (outB c.path)))]) (fun i => l.length - i) 0 (Nat.zero_le _) (fun _ => (Nat.zero_le _)) byC (fun i hI2 => ?_)
             simp only [go_sem]
             have hfl := List.length_filter_le (outB c.path) (l.take i)
             have hfl2 : (l.take i).length ≤ i := by simp; omega
             refine cx_seq ?_
             refine cx_sr ?_
             simp only [go_sem]
             repeat first | (with_reducible refine side_d ?_ ?_; exact byD) | (with_reducible refine side_q ?_ ?_; exact byQ)
             intro t126 e126
             subst e126
             refine cx_if _ rfl (fun h126 => ?_) (fun h126 => ?_)
             ·
              (try simp only [go_sem] at h126)
              have hxp2 := checkP_len (g.paths.2 (l.getD i default) (getD_mem (by omega)))
              refine cx_skip ?_
              (try simp only [go_sem])
              refine cx_seq (cx_block ?_)
              refine cx_seq (cx_draw mixed [] (.first 0 (.first 1 (.first 2 (.first 3 (.first 4 (.first 5 (.first 6 (.one 7 (.first 8 (.done)))))))))) (by kernel_rfl) ?_)
              simp only [go_sem]
              repeat first | (with_reducible refine side_d ?_ ?_; exact byD) | (with_reducible refine side_q ?_ ?_; exact byQ)
              refine cwE_m (IsIn2_c (l.getD i default).path c.path (by omega) (by omega)) byW byT ?_
              simp only [go_sem]
              intro t137 e137
              subst e137
              refine cx_if _ rfl (fun h137 => ?_) (fun h137 => ?_)
              ·
               (try simp only [go_sem] at h137)
               refine cx_region ?_
               simp only [go_sem]
               repeat first | (with_reducible refine side_d ?_ ?_; exact byD) | (with_reducible refine side_q ?_ ?_; exact byQ)
               refine cx_region ?_
               simp only [go_sem]
               intro t128 e128
               (try replace e128 := w64 e128 (by omega) (by omega))
               have hn : outB c.path (l.getD i default) = true := by simpa [outB] using h137
               have hf : (l.take (i + 1)).filter (outB c.path) = (l.take i).filter (outB c.path) ++ [l.getD i default] := by rw [filter_snoc (by omega), if_pos hn]
               refine rnd_nextr (i + 1) [0, 3] (by omega) (by first | omega | (dsimp only; omega)) ⟨rfl, rfl, ?_, ?_⟩
               · (try rw [hf]); exact byC
               · rw [hf]; skip
                 simp only [go_sem, wk, wks, wkB, wkH, List.length_append, List.length_cons, List.length_nil]
                 first | exact fun q hq => wks_mp_snoc (fun x => rnVs_no _ rfl) (by rfl) hq | (and_intros <;> first | trivial | rfl | omega | (exact fun q hq => wks_mp_snoc (fun x => rnVs_no _ rfl) (by rfl) hq) | exact wks_refl _ | exact byC)
              ·
               (try simp only [go_sem] at h137)
               refine cx_skip ?_
               (try simp only [go_sem])
               refine cx_region ?_
               simp only [go_sem]
               intro t128 e128
               (try replace e128 := w64 e128 (by omega) (by omega))
               have hn : ¬ outB c.path (l.getD i default) = true := by simpa [outB] using h137
               have hf : (l.take (i + 1)).filter (outB c.path) = (l.take i).filter (outB c.path) := by rw [filter_snoc (by omega), if_neg hn]
               refine rnd_next (i + 1) (by omega) (by first | omega | (dsimp only; omega)) ?_
               rw [hf]
               exact byC
             ·
              (try simp only [go_sem] at h126)
              have hi : l.take i = l := List.take_of_length_le (by omega)
              rw [hi]
              refine cx_exit ?_
              simp only [go_sem]
              refine cx_sr ?_
              simp only [go_sem]
              refine cx_block ?_
              refine cx_loopk (σ := Nat) (fun i => i ≤ l.length ∧ (c.kind = 3 → greatG (l.take i) c v = false) ∧ (¬ c.kind = 3 → i = 0)) (fun i => [⟨14, 0, [], .int .i64 (i : Nat)⟩, ⟨12, 0, [], .own none 1 4 0 ((goesP (l.take i) c v).foldl putE (l.filter (outB c.path))).length .loose⟩]) [0, 2, 4] (fun i => [.box c.enc, .arr 4 ((goesP (l.take i) c v).foldl putE (l.filter (outB c.path))).length (En Entry.enc default ((goesP (l.take i) c v).foldl putE (l.filter (outB c.path))))]) (fun i => l.length - i) 0 ⟨Nat.zero_le _, fun _ => rfl, fun _ => rfl⟩ (fun _ => (Nat.zero_le _)) byC (fun i hI3 => ?_)
              simp only [go_sem]
              have hfs := foldl_put_sorted (goesP (l.take i) c v) (filter_sorted hs (outB c.path))
              have hfl := foldl_put_len (goesP (l.take i) c v) (l.filter (outB c.path))
              have hfl2 := List.length_filter_le (outB c.path) l
              have hgl3 := goes_len (l.take i) c v
              have hgl4 : (l.take i).length ≤ i := by simp; omega
              refine cx_seq ?_
              refine cx_sr ?_
              simp only [go_sem]
              repeat first | (with_reducible refine side_d ?_ ?_; exact byD) | (with_reducible refine side_q ?_ ?_; exact byQ)
              intro t148 e148
              intro t152 e152
              intro t153 e153
              rw [bsel_and] at e153
              subst e148 e152 e153
              refine cx_if _ rfl (fun h153 => ?_) (fun h153 => ?_)
              ·
               (try simp only [go_sem] at h153)
               have hk : c.kind = 3 ∧ i < l.length := by grind
               have hck := form_ok hF
               have hxp1 := g.paths.2 (l.getD i default) (getD_mem (by omega))
               have hxp := checkP_len hxp1
               have htp := checkP_len (hck.2 hk.1)
               refine cx_skip ?_
               (try simp only [go_sem])
               refine cx_seq (cx_block ?_)
               refine cx_seq ?_
               refine cx_seq (cx_draw mixed [] (.first 0 (.first 1 (.first 2 (.first 3 (.first 4 (.first 5 (.first 6 (.one 7 (.first 8 (.done)))))))))) (by kernel_rfl) ?_)
               simp only [go_sem]
               repeat first | (with_reducible refine side_d ?_ ?_; exact byD) | (with_reducible refine side_q ?_ ?_; exact byQ)
               refine cwE_m (IsIn2_c (l.getD i default).path c.path (by omega) (by omega)) byW byT ?_
               simp only [go_sem]
               intro t164 e164
               subst e164
               refine cx_if _ rfl (fun h164 => ?_) (fun h164 => ?_)
               ·
                (try simp only [go_sem] at h164)
                refine cx_exit ?_
                simp only [go_sem]
                refine cx_region ?_
                simp only [go_sem]
                intro t155 e155
                (try replace e155 := w64 e155 (by omega) (by omega))
                have hn : ¬ inB c.path (l.getD i default) = true := by simpa [inB] using h164
                have hg : goesP (l.take (i + 1)) c v = goesP (l.take i) c v := by rw [goes_snoc (by omega), if_neg hn]
                refine rnd_next (i + 1) ⟨by omega, fun hk3 => by rw [greatG, hg]; exact hI3.2.1 hk3, fun hk3 => absurd hk.1 hk3⟩ (by first | omega | (dsimp only; omega)) ?_
                rw [hg]
                exact byC
               ·
                (try simp only [go_sem] at h164)
                have hin : isIn (l.getD i default).path c.path = true := by simpa using h164
                have hb : inB c.path (l.getD i default) = true := hin
                have hinp : inP (pcs (l.getD i default).path) (pcs c.path) = true := by rw [← isIn_pcs]; exact hin
                have hpl : (pcs c.path).length ≤ (pcs (l.getD i default).path).length := by have h := hinp; unfold inP at h; rw [Bool.and_eq_true, decide_eq_true_eq] at h; exact h.1
                have hpl2 : (pcs (l.getD i default).path).length ≤ 81 := by rw [pcs_cnt]; have := List.count_le_length (a := (47 : UInt8)) (l := (l.getD i default).path); omega
                have hdl : (c.to ++ (l.getD i default).path.drop c.path.length).length ≤ 160 := by rw [List.length_append, List.length_drop]; omega
                have hpl3 : (pcs c.to).length ≤ 81 := by rw [pcs_cnt]; have := List.count_le_length (a := (47 : UInt8)) (l := c.to); omega
                refine cx_skip ?_
                (try simp only [go_sem])
                refine cx_sr ?_
                simp only [go_sem]
                repeat first | (with_reducible refine side_d ?_ ?_; exact byD) | (with_reducible refine side_q ?_ ?_; exact byQ)
                refine cx_seq ?_
                refine cx_sr ?_
                simp only [go_sem]
                intro t173 e173
                subst e173
                refine cx_meet (σ := Unit) (fun u3 => True) (fun u3 => []) [0, 2, 4, 12, 14, 15] (fun u3 => [.box c.enc, .arr 4 ((goesP (l.take i) c v).foldl putE (l.filter (outB c.path))).length (En Entry.enc default ((goesP (l.take i) c v).foldl putE (l.filter (outB c.path)))), .box [.str (l.getD i default).path, .bool (l.getD i default).folder, .str (l.getD i default).text, .int .i64 (if (l.getD i default).path = c.path then v else (l.getD i default).version)]]) (fun _ => (Nat.zero_le _)) ?_ (fun u3 hIM3 => ?_)
                ·
                 refine cx_if _ rfl (fun h173 => ?_) (fun h173 => ?_)
                 ·
                  (try simp only [go_sem] at h173)
                  refine cx_region ?_
                  simp only [go_sem]
                  have hk : (l.getD i default).path = c.path := by simpa using h173
                  refine mt_next () trivial ?_
                  rw [if_pos hk]
                  exact byC
                 ·
                  (try simp only [go_sem] at h173)
                  refine cx_skip ?_
                  (try simp only [go_sem])
                  have hk : ¬ (l.getD i default).path = c.path := by simpa using h173
                  refine mt_next () trivial ?_
                  rw [if_neg hk]
                  exact byC
                simp only [go_sem]
                refine cx_seq (cx_draw mixed [13, 16] (.first 1 (.first 2 (.first 5 (.first 6 (.first 8 (.first 9 (.alt 0 (.one 3 (.one 4 (.one 7 (.one 10 (.first 11 (.first 12 (.one 13 (.one 14 (.first 15 (.one 16 (.done))))))))))) (.one 3 (.one 0 (.one 4 (.one 7 (.one 10 (.first 11 (.first 12 (.one 13 (.one 14 (.first 15 (.one 16 (.done))))))))))))))))))) (by kernel_rfl) ?_)
                simp only [go_sem]
                repeat first | (with_reducible refine side_d ?_ ?_; exact byD) | (with_reducible refine side_q ?_ ?_; exact byQ)
                refine ⟨?_, ?_⟩
                ·
                 refine cwE_m (NamesOf_c c.to (by omega)) byW byT ?_
                 simp only [go_sem]
                 repeat first | (with_reducible refine side_d ?_ ?_; exact byD) | (with_reducible refine side_q ?_ ?_; exact byQ)
                 refine cwE_m (NamesOf_c (l.getD i default).path (by omega)) byW byT ?_
                 simp only [go_sem]
                 refine cwE_m (NamesOf_c c.path (by omega)) byW byT ?_
                 simp only [go_sem]
                 repeat ((with_reducible first | refine side_d ?_ ?_ | refine side_q ?_ ?_); focus (first | exact byD | exact byQ | ((refine Sd.mk ?_; omega))))
                 repeat first | (with_reducible refine side_d ?_ ?_; exact byD) | (with_reducible refine side_q ?_ ?_; exact byQ)
                 refine cwE_v 2 (PathOfM_c c.to hin (by omega) (by omega)) byV byC rfl ?_
                 simp only [go_sem]
                 refine cx_seq ?_
                 refine cx_sr ?_
                 simp only [go_sem]
                 refine cw_m (TooGreat_c (c.to ++ (l.getD i default).path.drop c.path.length) (by omega)) byW byT ?_
                 simp only [go_sem]
                 refine cx_if _ rfl (fun h194 => ?_) (fun h194 => ?_)
                 ·
                  (try simp only [go_sem] at h194)
                  refine cx_sr ?_
                  simp only [go_sem]
                  refine cx_virt 6 4 (En Entry.enc default []) rfl ?_
                  simp only [go_sem]
                  refine cx_ret ?_
                  simp only [go_sem]
                  have hd : doneErr l c v = 2 := by rw [doneErr, if_pos ⟨hk.1, great_at hk.2 hb h194⟩]
                  have he : rawErr l c v = 2 := by rw [rawErr, if_neg (by simpa using hF), if_neg (by simpa using hM), hd]
                  have hp : rawP l c v = [] := by rw [rawP, he, if_neg (by decide)]
                  rw [he, hp]
                  exact finx_of 1 [6] rfl byC byC byC byC
                 ·
                  (try simp only [go_sem] at h194)
                  refine cx_skip ?_
                  (try simp only [go_sem])
                  refine cx_region ?_
                  simp only [go_sem]
                  refine cw_n 2 (PutEntry_c ((goesP (l.take i) c v).foldl putE (l.filter (outB c.path))) (mvE c v (l.getD i default)) (by omega) hfs) byV byC rfl byN ?_
                  simp only [go_sem]
                  refine cx_region ?_
                  simp only [go_sem]
                  intro t155 e155
                  (try replace e155 := w64 e155 (by omega) (by omega))
                  have hg : goesP (l.take (i + 1)) c v = goesP (l.take i) c v ++ [mvE c v (l.getD i default)] := by rw [goes_snoc hk.2, if_pos hb]
                  have hgg : greatG (l.take (i + 1)) c v = false := by
                    rw [greatG, hg, List.any_append]
                    have := hI3.2.1 hk.1
                    rw [greatG] at this
                    rw [this]
                    simpa [mvE] using h194
                  have hsn : (goesP (l.take (i + 1)) c v).foldl putE (l.filter (outB c.path)) = putE ((goesP (l.take i) c v).foldl putE (l.filter (outB c.path))) (mvE c v (l.getD i default)) := by rw [hg, List.foldl_append]; rfl
                  refine rnd_nextr (i + 1) [0, 6] ⟨by omega, fun _ => hgg, fun hk3 => absurd hk.1 hk3⟩ (by first | omega | (dsimp only; omega)) ⟨rfl, rfl, ?_, ?_⟩
                  · rw [hsn]; exact byC
                  · rw [hsn]; exact byC
                ·
                 refine cwE_m (NamesOf_c c.to (by omega)) byW byT ?_
                 simp only [go_sem]
                 repeat first | (with_reducible refine side_d ?_ ?_; exact byD) | (with_reducible refine side_q ?_ ?_; exact byQ)
                 refine cwE_m (NamesOf_c (l.getD i default).path (by omega)) byW byT ?_
                 simp only [go_sem]
                 refine cwE_m (NamesOf_c c.path (by omega)) byW byT ?_
                 simp only [go_sem]
                 repeat ((with_reducible first | refine side_d ?_ ?_ | refine side_q ?_ ?_); focus (first | exact byD | exact byQ | ((refine Sd.mk ?_; omega))))
                 repeat first | (with_reducible refine side_d ?_ ?_; exact byD) | (with_reducible refine side_q ?_ ?_; exact byQ)
                 refine cwE_v 2 (PathOfM_c c.to hin (by omega) (by omega)) byV byC rfl ?_
                 simp only [go_sem]
                 refine cx_seq ?_
                 refine cx_sr ?_
                 simp only [go_sem]
                 refine cw_m (TooGreat_c (c.to ++ (l.getD i default).path.drop c.path.length) (by omega)) byW byT ?_
                 simp only [go_sem]
                 refine cx_if _ rfl (fun h194 => ?_) (fun h194 => ?_)
                 ·
                  (try simp only [go_sem] at h194)
                  refine cx_sr ?_
                  simp only [go_sem]
                  refine cx_virt 6 4 (En Entry.enc default []) rfl ?_
                  simp only [go_sem]
                  refine cx_ret ?_
                  simp only [go_sem]
                  have hd : doneErr l c v = 2 := by rw [doneErr, if_pos ⟨hk.1, great_at hk.2 hb h194⟩]
                  have he : rawErr l c v = 2 := by rw [rawErr, if_neg (by simpa using hF), if_neg (by simpa using hM), hd]
                  have hp : rawP l c v = [] := by rw [rawP, he, if_neg (by decide)]
                  rw [he, hp]
                  exact finx_of 1 [6] rfl byC byC byC byC
                 ·
                  (try simp only [go_sem] at h194)
                  refine cx_skip ?_
                  (try simp only [go_sem])
                  refine cx_region ?_
                  simp only [go_sem]
                  refine cw_n 2 (PutEntry_c ((goesP (l.take i) c v).foldl putE (l.filter (outB c.path))) (mvE c v (l.getD i default)) (by omega) hfs) byV byC rfl byN ?_
                  simp only [go_sem]
                  refine cx_region ?_
                  simp only [go_sem]
                  intro t155 e155
                  (try replace e155 := w64 e155 (by omega) (by omega))
                  have hg : goesP (l.take (i + 1)) c v = goesP (l.take i) c v ++ [mvE c v (l.getD i default)] := by rw [goes_snoc hk.2, if_pos hb]
                  have hgg : greatG (l.take (i + 1)) c v = false := by
                    rw [greatG, hg, List.any_append]
                    have := hI3.2.1 hk.1
                    rw [greatG] at this
                    rw [this]
                    simpa [mvE] using h194
                  have hsn : (goesP (l.take (i + 1)) c v).foldl putE (l.filter (outB c.path)) = putE ((goesP (l.take i) c v).foldl putE (l.filter (outB c.path))) (mvE c v (l.getD i default)) := by rw [hg, List.foldl_append]; rfl
                  refine rnd_nextr (i + 1) [0, 6] ⟨by omega, fun _ => hgg, fun hk3 => absurd hk.1 hk3⟩ (by first | omega | (dsimp only; omega)) ⟨rfl, rfl, ?_, ?_⟩
                  · rw [hsn]; exact byC
                  · rw [hsn]; exact byC
              ·
               (try simp only [go_sem] at h153)
               refine cx_exit ?_
               simp only [go_sem]
               have hfk := form_kind hF
               have hm : madeP l c v = (goesP (l.take i) c v).foldl putE (l.filter (outB c.path)) := by
                 have h1 : ¬ c.kind = 1 := by simpa using h198
                 have h2 : ¬ c.kind = 2 := by simpa using h206
                 rw [madeP, if_neg h1, if_neg h2]
                 by_cases h3 : c.kind = 3
                 · rw [if_neg (by omega), if_pos h3, movedL, List.take_of_length_le (by grind)]
                 · rw [if_pos (by omega), hI3.2.2 h3]
                   rfl
               have hgr : c.kind = 3 → greatG l c v = false := by
                 intro h3
                 have := hI3.2.1 h3
                 rwa [List.take_of_length_le (by grind)] at this
               refine mt_next () hgr ?_
               rw [hm]
               exact byC
          simp only [go_sem]
          refine cx_seq ?_
          refine cx_sr ?_
          simp only [go_sem]
          repeat first | (with_reducible refine side_d ?_ ?_; exact byD) | (with_reducible refine side_q ?_ ?_; exact byQ)
          intro t218 e218
          subst e218
          refine cx_if _ rfl (fun h218 => ?_) (fun h218 => ?_)
          ·
           (try simp only [go_sem] at h218)
           refine cx_sr ?_
           simp only [go_sem]
           refine cx_virt 6 4 (En Entry.enc default []) rfl ?_
           simp only [go_sem]
           refine cx_ret ?_
           simp only [go_sem]
           have hd : doneErr l c v = 2 := by rw [doneErr]; split <;> first | rfl | (rw [if_pos (by omega)])
           have he : rawErr l c v = 2 := by rw [rawErr, if_neg (by simpa using hF), if_neg (by simpa using hM), hd]
           have hp : rawP l c v = [] := by rw [rawP, he, if_neg (by decide)]
           rw [he, hp]
           exact finx_of 1 [2] rfl byC byC byC byC
          ·
           (try simp only [go_sem] at h218)
           refine cx_skip ?_
           (try simp only [go_sem])
           refine cx_sr ?_
           simp only [go_sem]
           refine cx_ret ?_
           simp only [go_sem]
           have hd : doneErr l c v = 0 := by rw [doneErr, if_neg (by rintro ⟨h1, h2⟩; rw [hIM2 h1] at h2; cases h2), if_neg (by omega)]
           have he : rawErr l c v = 0 := by rw [rawErr, if_neg (by simpa using hF), if_neg (by simpa using hM), hd]
           have hp : rawP l c v = madeP l c v := by rw [rawP, if_pos he]
           rw [he, hp]
           exact finx_of 1 [1] rfl byC byC byC byC
end Go.VM.Tryd
end
section
set_option maxHeartbeats 4000000
set_option linter.unusedVariables false
set_option linter.unusedSimpArgs false
open Go Go.VM Go.Proofs Tether
namespace Go.VM.Tryd
set_option maxRecDepth 100000
/-- the same, of a tree that nobody writes any more -/
theorem ChangeOfF_c (l : List Entry) (c : Change) (v : Int) (g : GoodT l) (ok : okC c) : Meets Tryd.prog 63 [esV l, .agg c.enc, .int .i64 v] (.tup [esV (rawP l c v), .int .i64 (rawErr l c v)]) [] :=
  ((ChangeOf_c l c v g ok).freeze 1 byC).wk (wks_refl _) byC byC
def allR (l : List Entry) (cs : List Change) (v : Int) : List Entry × Int × Int :=
  if 20 < (cs.length : Int) then ([], 0, 2) else if verB v = false ∧ 0 < (cs.length : Int) then ([], 0, 3) else allRun v l cs 0
theorem AllOf_c (l : List Entry) (cs : List Change) (v : Int) (g : GoodT l) (ok : okCs cs) : Meets Tryd.prog 43 [esV l, csV cs, .int .i64 v]
    (.tup [esV (allR l cs v).1, .int .i64 (allR l cs v).2.1, .int .i64 (allR l cs v).2.2]) [] := by
  refine meets_x (fn := Tryd.f43) Tryd.func43 rfl fb43 (by kernel_rfl) (Nat.le_of_ble_eq_true rfl) ?_
  have hcl := ok.1
  refine cx_sr ?_
  simp only [go_sem]
  repeat first | (with_reducible refine side_d ?_ ?_; exact byD) | (with_reducible refine side_q ?_ ?_; exact byQ)
  refine cx_seq ?_
  refine cx_sr ?_
  simp only [go_sem]
  intro t14 e14
  subst e14
  refine cx_if _ rfl (fun h14 => ?_) (fun h14 => ?_)
  ·
   (try simp only [go_sem] at h14)
   refine cx_sr ?_
   simp only [go_sem]
   refine cx_ret ?_
   simp only [go_sem]
   have he : allR l cs v = ([], 0, 2) := by rw [allR, if_pos (by omega)]
   rw [he]
   exact finx_of 1 [] rfl byC byC byC byC
  ·
   (try simp only [go_sem] at h14)
   refine cx_skip ?_
   (try simp only [go_sem])
   refine cx_seq ?_
   refine cx_sr ?_
   simp only [go_sem]
   intro t17 e17
   refine ⟨_, fun hp => cw_m (RIsVersion_c v) byW byT ⟨rfl, rfl⟩, ?_⟩
   simp only [go_sem]
   intro t21 e21
   intro t22 e22
   rw [bsel_and] at e22
   subst e17 e21 e22
   refine cx_if _ rfl (fun h22 => ?_) (fun h22 => ?_)
   ·
    (try simp only [go_sem] at h22)
    refine cx_sr ?_
    simp only [go_sem]
    refine cx_ret ?_
    simp only [go_sem]
    have hv : verB v = false ∧ 0 < (cs.length : Int) := by unfold verB; grind
    have he : allR l cs v = ([], 0, 3) := by rw [allR, if_neg (by omega), if_pos hv]
    rw [he]
    exact finx_of 1 [] rfl byC byC byC byC
   ·
    (try simp only [go_sem] at h22)
    have hv : ¬ (verB v = false ∧ 0 < (cs.length : Int)) := by unfold verB; grind
    have he : allR l cs v = allRun v l cs 0 := by rw [allR, if_neg (by omega), if_neg hv]
    refine cx_skip ?_
    (try simp only [go_sem])
    refine cx_seq ?_
    refine cx_sr ?_
    simp only [go_sem]
    refine cx_block ?_
    refine cx_loop0 (σ := Nat × List Entry) (fun s => s.1 ≤ cs.length ∧ GoodT s.2 ∧ allRun v l cs 0 = allRun v s.2 (cs.drop s.1) (s.1 : Int)) (fun s => [⟨9, 0, [], .int .i64 (s.1 : Nat)⟩, ⟨0, 0, [], esV s.2⟩]) [1, 2] (fun s => cs.length - s.1) (0, l) ⟨Nat.zero_le _, g, rfl⟩ (Nat.zero_le _) byC (fun s hI1 => ?_)
    simp only [go_sem]
    obtain ⟨i1, i2, i3⟩ := hI1
    refine cx_seq ?_
    refine cx_sr ?_
    simp only [go_sem]
    repeat first | (with_reducible refine side_d ?_ ?_; exact byD) | (with_reducible refine side_q ?_ ?_; exact byQ)
    intro t26 e26
    subst e26
    refine cx_if _ rfl (fun h26 => ?_) (fun h26 => ?_)
    ·
     (try simp only [go_sem] at h26)
     have hcm : cs.getD s.1 default ∈ cs := getD_mem (by omega)
     have hdr : cs.drop s.1 = cs.getD s.1 default :: cs.drop (s.1 + 1) := by
       rw [List.drop_eq_getElem_cons (by omega)]
       simp [List.getD, show s.1 < cs.length by omega]
     refine cx_skip ?_
     (try simp only [go_sem])
     refine cx_seq (cx_block ?_)
     refine cx_sr ?_
     simp only [go_sem]
     repeat first | (with_reducible refine side_d ?_ ?_; exact byD) | (with_reducible refine side_q ?_ ?_; exact byQ)
     refine cw_m (ChangeOfF_c s.2 (cs.getD s.1 default) v i2 (ok.2 _ hcm)) byW byT ?_
     simp only [go_sem]
     refine cx_seq ?_
     refine cx_sr ?_
     simp only [go_sem]
     intro t40 e40
     subst e40
     refine cx_if _ rfl (fun h40 => ?_) (fun h40 => ?_)
     ·
      (try simp only [go_sem] at h40)
      refine cx_sr ?_
      simp only [go_sem]
      refine cx_ret ?_
      simp only [go_sem]
      have he2 : allR l cs v = ([], (s.1 : Int), rawErr s.2 (cs.getD s.1 default) v) := by rw [he, i3, hdr, allRun, if_pos (by simpa using h40)]
      rw [he2]
      exact finx_of 1 [] rfl byC byC byC byC
     ·
      (try simp only [go_sem] at h40)
      refine cx_skip ?_
      (try simp only [go_sem])
      refine cx_region ?_
      simp only [go_sem]
      refine cx_region ?_
      simp only [go_sem]
      intro t28 e28
      (try replace e28 := w64 e28 (by omega) (by omega))
      have h48' : rawErr s.2 (cs.getD s.1 default) v = 0 := by simpa using h40
      have hr : rawP s.2 (cs.getD s.1 default) v = madeP s.2 (cs.getD s.1 default) v := by rw [rawP, if_pos h48']
      refine rnd_next (s.1 + 1, madeP s.2 (cs.getD s.1 default) v) ⟨by dsimp only; omega, made_good i2 (ok.2 _ hcm) h48', ?_⟩ (by first | omega | (dsimp only; omega)) ?_
      · rw [i3, hdr, allRun, if_neg (by simpa using h48')]
        rfl
      · rw [hr]; exact byC
    ·
     (try simp only [go_sem] at h26)
     refine cx_exit ?_
     simp only [go_sem]
     refine cx_sr ?_
     simp only [go_sem]
     refine cx_ret ?_
     simp only [go_sem]
     have hi : s.1 = cs.length := by omega
     have he2 : allR l cs v = (s.2, (cs.length : Int), 0) := by rw [he, i3, hi, List.drop_length, allRun]
     rw [he2]
     exact finx_of 1 [] rfl byC byC byC byC
/-- many changes: the program's and the document's -/
theorem allP_R (l : List Entry) (cs : List Change) (v : Int) : allP l cs v = if checkT l ≠ 0 then ([], 0, checkT l) else allR l cs v := rfl
theorem allRun_err : ∀ (cs : List Change) (t : List Entry) (v k : Int), (allRun v t cs k).2.2 ≠ 0 → (allRun v t cs k).1 = []
  | [], t, v, k, h => absurd rfl h
  | c :: cs, t, v, k, h => by
    unfold allRun at h ⊢
    split
    · rfl
    · rename_i hc
      rw [if_neg hc] at h
      exact allRun_err cs _ v _ h
theorem allRun_len : ∀ (cs : List Change) (t : List Entry) (v k : Int), (allRun v t cs k).1.length ≤ max 60 t.length
  | [], t, v, k => by unfold allRun; show t.length ≤ _; omega
  | c :: cs, t, v, k => by
    unfold allRun
    split
    · simp
    · rename_i hc
      have := allRun_len cs (madeP t c v) v (k + 1)
      have h2 := (done_0 (raw_0 (by simpa using hc)).2.2).2
      omega
theorem allR_len (l : List Entry) (cs : List Change) (v : Int) : (allR l cs v).1.length ≤ max 60 l.length := by
  unfold allR
  split
  · simp
  · split
    · simp
    · exact allRun_len cs l v 0
theorem allP_len (l : List Entry) (cs : List Change) (v : Int) : (allP l cs v).1.length ≤ max 60 l.length := by
  rw [allP_R]
  split
  · simp
  · exact allR_len l cs v
end Go.VM.Tryd
end
section
set_option maxHeartbeats 4000000
set_option linter.unusedVariables false
set_option linter.unusedSimpArgs false
open Go Go.VM Go.Proofs Tether
namespace Go.VM.Tryd
set_option maxRecDepth 100000
def chooseP (c n : Int) : Int := (if c < 0 then -(c + 1) else c) % n
theorem choose_c (c : Int) (h0 : -9223372036854775808 ≤ c) (h1 : c ≤ 9223372036854775807) (n : Int) (hn : 0 < n) (hn2 : n ≤ 1000001) : Meets Tryd.prog 26 [.int .i64 c, .int .i64 n] (.int .i64 (chooseP c n)) [] := by
  refine meets_x (fn := Tryd.f26) Tryd.func26 rfl fb26 (by kernel_rfl) (Nat.le_of_ble_eq_true rfl) ?_
  have h2c : -(c + 1) = -c - 1 := by omega
  refine cx_sr ?_
  simp only [go_sem]
  repeat first | (with_reducible refine side_d ?_ ?_; exact byD) | (with_reducible refine side_q ?_ ?_; exact byQ)
  refine cx_seq ?_
  refine cx_sr ?_
  simp only [go_sem]
  intro t6 e6
  subst e6
  refine cx_if _ rfl (fun h6 => ?_) (fun h6 => ?_)
  ·
   (try simp only [go_sem] at h6)
   refine cx_region ?_
   simp only [go_sem]
   intro t8 e8
   (try replace e8 := w64 e8 (by omega) (by omega))
   intro t9 e9
   refine cx_sr ?_
   simp only [go_sem]
   repeat first | (with_reducible refine side_d ?_ ?_; exact byD) | (with_reducible refine side_q ?_ ?_; exact byQ)
   intro t12 e12
   refine cx_ret ?_
   simp only [go_sem]
   refine finw_int ?_
   have h6' : c < 0 := by simpa using h6
   have e9' : t9 = -(c + 1) := by rw [e9]; simp [IntKind.wrap, IntKind.bits, IntKind.signed]; omega
   rw [chooseP, if_pos h6', ← e9', e12, Int.tmod_eq_emod_of_nonneg (by omega)]
  ·
   (try simp only [go_sem] at h6)
   refine cx_skip ?_
   (try simp only [go_sem])
   refine cx_sr ?_
   simp only [go_sem]
   repeat first | (with_reducible refine side_d ?_ ?_; exact byD) | (with_reducible refine side_q ?_ ?_; exact byQ)
   intro t12 e12
   refine cx_ret ?_
   simp only [go_sem]
   refine finw_int ?_
   have h6' : ¬ c < 0 := by simpa using h6
   rw [chooseP, if_neg h6', e12, Int.tmod_eq_emod_of_nonneg (by omega)]
end Go.VM.Tryd
end
section
set_option maxHeartbeats 4000000
set_option linter.unusedVariables false
set_option linter.unusedSimpArgs false
open Go Go.VM Go.Proofs Tether
namespace Go.VM.Tryd
structure FullT (l : List Entry) : Prop where
  len : l.length ≤ 60
  ents : ∀ x ∈ l, entErr x = 0
  sorted : SortedE l
  par : ∀ x ∈ l, headOf x.path = [] ∨ ∃ y ∈ l, y.path = headOf x.path ∧ y.folder = true
theorem parE_in {l : List Entry} (hs : SortedE l) {p : Str} : ((parE l p).2 = true ∧ (parE l p).1.folder = true) ↔ (headOf p = [] ∨ ∃ y ∈ l, y.path = headOf p ∧ y.folder = true) := by
  unfold parE
  by_cases h : headOf p = []
  · simp [h, topE]
  · rw [if_neg h]
    by_cases hh : hasE l (headOf p) = true
    · rw [if_pos hh]
      have hf := findE_eq hs (headOf p)
      rw [if_pos hh] at hf
      obtain ⟨h1, h2⟩ := findE_some hf
      constructor
      · rintro ⟨_, h3⟩
        exact .inr ⟨_, h1, h2, h3⟩
      · rintro (h3 | ⟨y, h3, h4, h5⟩)
        · exact absurd h3 h
        · have := sorted_mem_inj hs h3 h1 (h4.trans h2.symm)
          exact ⟨rfl, by rw [← this]; exact h5⟩
    · rw [if_neg hh]
      constructor
      · rintro ⟨h1, _⟩
        cases h1
      · rintro (h3 | ⟨y, h3, h4, h5⟩)
        · exact absurd h3 h
        · exact absurd ((hasE_iff hs).2 ⟨y, h3, h4⟩) hh
theorem checkT_iff {l : List Entry} : checkT l = 0 ↔ FullT l := by
  constructor
  · intro h
    unfold checkT at h
    have h1 : (l.length : Int) ≤ 60 := by grind
    have h2 : firstErr entErr l = 0 := by grind
    have h3 : sortedB l = true := by grind
    have h4 : parsB l = true := by grind
    have h5 : parfB l = true := by grind
    have hs := sortedB_iff.1 h3
    exact ⟨by omega, firstErr_0.1 h2, hs, fun x hx => (parE_in hs).1 ⟨List.all_eq_true.1 h4 x hx, List.all_eq_true.1 h5 x hx⟩⟩
  · rintro ⟨h1, h2, h3, h4⟩
    have e2 : firstErr entErr l = 0 := firstErr_0.2 h2
    have e3 : sortedB l = true := sortedB_iff.2 h3
    have e4 : parsB l = true := List.all_eq_true.2 fun x hx => ((parE_in h3).2 (h4 x hx)).1
    have e5 : parfB l = true := List.all_eq_true.2 fun x hx => ((parE_in h3).2 (h4 x hx)).2
    rw [checkT, if_neg (by omega), if_neg (by simpa using e2), if_neg (by simp [e3]), if_neg (by simp [e4]), if_neg (by simp [e5])]
theorem FullT.path {l : List Entry} (h : FullT l) {x : Entry} (hx : x ∈ l) : checkP [x.path] = 0 := entErr_path (h.ents x hx)
theorem FullT.ok {l : List Entry} (h : FullT l) : okE l := by
  refine ⟨by have := h.len; omega, fun x hx => ⟨by have := checkP_len (h.path hx); omega, ?_⟩⟩
  have := h.ents x hx
  unfold entErr at this
  grind
theorem FullT.good {l : List Entry} (h : FullT l) : GoodT l := checkT_good h.ok (checkT_iff.2 h)
theorem isIn_refl (p : Str) : isIn p p = true := (isIn_iff p p).2 (.inl rfl)
theorem isIn_trans {a b c : Str} (h : isIn a b = true) (k : isIn b c = true) : isIn a c = true := by
  rw [isIn_iff] at *
  rcases h with rfl | ⟨t, rfl⟩
  · exact k
  · rcases k with rfl | ⟨u, rfl⟩
    · exact .inr ⟨t, rfl⟩
    · exact .inr ⟨u ++ 47 :: t, by simp⟩
/-- a path that is not of one name is its front, a slash and its last name -/
theorem front_eq {p : Str} (h : headOf p ≠ []) : p = headOf p ++ 47 :: tailOf p := by
  rcases cut_last p with hp | ⟨f, x, rfl, hx⟩
  · exact absurd (headOf_no hp) h
  · rw [headOf_join hx, tailOf_join hx]
theorem in_front {p : Str} (h : headOf p ≠ []) : isIn p (headOf p) = true := by
  rw [isIn_iff]
  exact .inr ⟨tailOf p, front_eq h⟩
theorem front_lt {p : Str} (h : headOf p ≠ []) : (headOf p).length < p.length := by
  have := congrArg List.length (front_eq h)
  simp at this
  omega
/-- what is properly within something has its front in it -/
theorem front_in {p q : Str} (h : isIn p q = true) (hne : p ≠ q) (hp : 47 ∉ tailOf p) : isIn (headOf p) q = true ∧ headOf p = q ++ (headOf p).drop q.length := by
  rw [isIn_iff] at h
  rcases h with h | ⟨t, rfl⟩
  · exact absurd h hne
  · rcases cut_last t with ht | ⟨f, x, rfl, hx⟩
    · rw [headOf_join ht]
      exact ⟨isIn_refl q, by simp⟩
    · rw [show q ++ 47 :: (f ++ 47 :: x) = (q ++ 47 :: f) ++ 47 :: x by simp, headOf_join hx]
      exact ⟨(isIn_iff _ _).2 (.inr ⟨f, rfl⟩), by simp⟩
theorem tail_no (p : Str) : 47 ∉ tailOf p := by
  rcases cut_last p with hp | ⟨f, x, rfl, hx⟩
  · rw [tailOf_no hp]; exact hp
  · rw [tailOf_join hx]; exact hx
theorem front_in' {p q : Str} (h : isIn p q = true) (hne : p ≠ q) : isIn (headOf p) q = true := (front_in h hne (tail_no p)).1
theorem front_ne_nil {p q : Str} (hq : q ≠ []) (h : isIn p q = true) (hne : p ≠ q) : headOf p ≠ [] := fun e => by
  have := isIn_len (front_in' h hne)
  rw [e] at this
  have : q.length = 0 := by simpa using this
  exact hq (List.length_eq_zero_iff.1 this)
/-- the front of a moved path -/
theorem front_moved {p f : Str} (t : Str) (h : isIn p f = true) (hne : p ≠ f) : headOf (t ++ p.drop f.length) = t ++ (headOf p).drop f.length := by
  rw [isIn_iff] at h
  rcases h with h | ⟨u, rfl⟩
  · exact absurd h hne
  · rw [List.drop_left]
    rcases cut_last u with hu | ⟨g, x, rfl, hx⟩
    · rw [headOf_join hu, headOf_join hu]
      simp
    · rw [show f ++ 47 :: (g ++ 47 :: x) = (f ++ 47 :: g) ++ 47 :: x by simp, show t ++ 47 :: (g ++ 47 :: x) = (t ++ 47 :: g) ++ 47 :: x by simp, headOf_join hx, headOf_join hx, List.drop_left]
theorem moved_eq_top {p f t : Str} (h : isIn p f = true) : t ++ p.drop f.length = t ↔ p = f := by
  rw [isIn_iff] at h
  rcases h with rfl | ⟨u, rfl⟩
  · simp
  · simp
theorem moved_inj {p q f t : Str} (hp : isIn p f = true) (hq : isIn q f = true) (h : t ++ p.drop f.length = t ++ q.drop f.length) : p = q := by
  have h := List.append_cancel_left h
  have e : ∀ {x : Str}, isIn x f = true → x = f ++ x.drop f.length := by
    intro x hx
    rw [isIn_iff] at hx
    rcases hx with rfl | ⟨u, rfl⟩
    · simp
    · simp
  rw [e hp, e hq, h]
theorem FullT.anc {l : List Entry} (g : FullT l) {q : Str} (hq : q ≠ []) : ∀ (n : Nat) (x : Entry), x.path.length ≤ n → x ∈ l → isIn x.path q = true → ∃ y ∈ l, y.path = q ∧ (x.path ≠ q → y.folder = true)
  | 0, x, hn, hx, h => by
    have := isIn_len h
    have : q.length = 0 := by omega
    exact absurd (List.length_eq_zero_iff.1 this) hq
  | n + 1, x, hn, hx, h => by
    by_cases he : x.path = q
    · exact ⟨x, hx, he, fun hne => absurd he hne⟩
    · have h1 := front_in' h he
      have h2 := front_ne_nil hq h he
      rcases g.par x hx with h3 | ⟨y, hy, hy2, hy3⟩
      · exact absurd h3 h2
      · obtain ⟨z, hz, hz2, hz3⟩ := FullT.anc g hq n y (by rw [hy2]; have := front_lt h2; omega) hy (by rw [hy2]; exact h1)
        refine ⟨z, hz, hz2, fun _ => ?_⟩
        by_cases hyq : y.path = q
        · have := sorted_mem_inj g.sorted hz hy (hz2.trans hyq.symm)
          rw [this]; exact hy3
        · exact hz3 hyq
theorem FullT.above {l : List Entry} (g : FullT l) {q : Str} (hq : q ≠ []) {x : Entry} (hx : x ∈ l) (h : isIn x.path q = true) : ∃ y ∈ l, y.path = q ∧ (x.path ≠ q → y.folder = true) :=
  g.anc hq _ x (Nat.le_refl _) hx h
theorem pass_ne {p : Str} (h : checkP [p] = 0) : p ≠ [] := by
  rintro rfl
  have := ((checkP_iff []).1 h).1 [] (by simp [pcs])
  exact isName_ne this rfl
theorem foldl_put_mem : ∀ (g t : List Entry), SortedE t → (g.Pairwise fun a b => a.path ≠ b.path) → ∀ y, y ∈ g.foldl putE t ↔ y ∈ g ∨ (y ∈ t ∧ ∀ z ∈ g, z.path ≠ y.path)
  | [], t, _, _, y => by simp
  | x :: g, t, ht, hg, y => by
    obtain ⟨h1, h2⟩ := List.pairwise_cons.1 hg
    rw [List.foldl_cons, foldl_put_mem g _ (putE_sorted ht x) h2 y, putE_mem ht]
    constructor
    · rintro (h | ⟨h | ⟨h, h3⟩, h4⟩)
      · exact .inl (by simp [h])
      · exact .inl (by simp [h])
      · refine .inr ⟨h, fun z hz => ?_⟩
        rcases List.mem_cons.1 hz with rfl | hz
        · exact fun e => h3 e.symm
        · exact h4 z hz
    · rintro (h | ⟨h, h3⟩)
      · rcases List.mem_cons.1 h with rfl | h
        · exact .inr ⟨.inl rfl, fun z hz e => h1 z hz e.symm⟩
        · exact .inl h
      · exact .inr ⟨.inr ⟨h, fun e => h3 x (by simp) e.symm⟩, fun z hz => h3 z (by simp [hz])⟩
theorem goes_pair {l : List Entry} (hs : SortedE l) (c : Change) (v : Int) : (goesP l c v).Pairwise fun a b => a.path ≠ b.path := by
  unfold goesP
  rw [List.pairwise_map]
  have h : (l.filter (inB c.path)).Pairwise fun a b => a.path < b.path := filter_sorted hs _
  refine (List.pairwise_iff_forall_sublist.2 fun {a b} hab => ?_)
  have hlt := List.pairwise_iff_forall_sublist.1 h hab
  have ha : a ∈ l.filter (inB c.path) := hab.subset (by simp)
  have hb : b ∈ l.filter (inB c.path) := hab.subset (by simp)
  intro e
  have := moved_inj (List.mem_filter.1 ha).2 (List.mem_filter.1 hb).2 e
  rw [this] at hlt
  exact lt_irrefl' _ hlt
end Go.VM.Tryd
end
section
set_option maxHeartbeats 4000000
set_option linter.unusedVariables false
set_option linter.unusedSimpArgs false
open Go Go.VM Go.Proofs Tether
namespace Go.VM.Tryd
structure MayT (l : List Entry) (c : Change) : Prop where
  par : headOf (goalP c) = [] ∨ ∃ y ∈ l, y.path = headOf (goalP c) ∧ y.folder = true
  new : c.kind = 1 → ∀ x ∈ l, x.path ≠ c.path
  file : c.kind = 2 → ∀ x ∈ l, x.path = c.path → x.folder = false
  is : c.kind ≠ 1 → c.kind ≠ 2 → ∃ x ∈ l, x.path = c.path
  apart : c.kind = 3 → isIn c.to c.path = false
  free : c.kind = 3 → ∀ x ∈ l, x.path ≠ c.to
theorem has_no {l : List Entry} (hs : SortedE l) {p : Str} (h : hasE l p = false) : ∀ x ∈ l, x.path ≠ p := fun x hx e => by
  rw [(hasE_iff hs).2 ⟨x, hx, e⟩] at h
  cases h
theorem may_iff {l : List Entry} (hs : SortedE l) {c : Change} (h : mayP l c = 0) : MayT l c := by
  have h1 : (parE l (goalP c)).2 = true ∧ (parE l (goalP c)).1.folder = true := by unfold mayP at h; grind
  have h2 : c.kind = 1 → hasE l c.path = false := by unfold mayP at h; grind
  have h3 : c.kind = 2 → hasE l c.path = true → (l.getD (eIx l c.path) default).folder = false := by unfold mayP at h; grind
  have h4 : c.kind ≠ 1 → c.kind ≠ 2 → hasE l c.path = true := by unfold mayP at h; grind
  have h5 : c.kind = 3 → isIn c.to c.path = false := by unfold mayP at h; grind
  have h6 : c.kind = 3 → hasE l c.to = false := by unfold mayP at h; grind
  refine ⟨(parE_in hs).1 h1, fun k => has_no hs (h2 k), fun k x hx e => ?_, fun k1 k2 => (hasE_iff hs).1 (h4 k1 k2), h5, fun k => has_no hs (h6 k)⟩
  have hh := (hasE_iff hs).2 ⟨x, hx, e⟩
  have hf := findE_eq hs c.path
  rw [if_pos hh] at hf
  obtain ⟨q1, q2⟩ := findE_some hf
  rw [sorted_mem_inj hs hx q1 (e.trans q2.symm)]
  exact h3 k hh
theorem goes_mem {l : List Entry} {c : Change} {v : Int} {y : Entry} : y ∈ goesP l c v ↔ ∃ x ∈ l, isIn x.path c.path = true ∧ mvE c v x = y := by
  unfold goesP
  rw [List.mem_map]
  constructor
  · rintro ⟨x, hx, e⟩
    exact ⟨x, (List.mem_filter.1 hx).1, (List.mem_filter.1 hx).2, e⟩
  · rintro ⟨x, hx, h, e⟩
    exact ⟨x, List.mem_filter.2 ⟨hx, h⟩, e⟩
theorem goes_in {l : List Entry} {c : Change} {v : Int} {y : Entry} (h : y ∈ goesP l c v) : isIn y.path c.to = true := by
  obtain ⟨x, hx, h1, rfl⟩ := goes_mem.1 h
  exact moved_in c.to h1
/-- nothing is where nothing may be -/
theorem FullT.clear {l : List Entry} (g : FullT l) {q : Str} (hq : checkP [q] = 0) (h : ∀ x ∈ l, x.path ≠ q) : ∀ x ∈ l, isIn x.path q = false := by
  intro x hx
  cases hi : isIn x.path q with
  | false => rfl
  | true =>
    obtain ⟨y, hy, e, _⟩ := g.above (pass_ne hq) hx hi
    exact absurd e (h y hy)
/-- the members of a moved tree -/
theorem movedL_mem {l : List Entry} {c : Change} {v : Int} (g : FullT l) (m : MayT l c) (hk : c.kind = 3) (ht : checkP [c.to] = 0) {y : Entry} :
    y ∈ movedL l c v ↔ y ∈ goesP l c v ∨ (y ∈ l ∧ isIn y.path c.path = false) := by
  unfold movedL
  rw [foldl_put_mem _ _ (filter_sorted g.sorted _) (goes_pair g.sorted c v)]
  have hcl := g.clear ht (m.free hk)
  constructor
  · rintro (h | ⟨h, _⟩)
    · exact .inl h
    · obtain ⟨h1, h2⟩ := List.mem_filter.1 h
      exact .inr ⟨h1, by simpa [outB] using h2⟩
  · rintro (h | ⟨h1, h2⟩)
    · exact .inl h
    · refine .inr ⟨List.mem_filter.2 ⟨h1, by simpa [outB] using h2⟩, fun z hz e => ?_⟩
      have := goes_in hz
      rw [e, hcl y h1] at this
      cases this
theorem verB_iff {v : Int} : verB v = true ↔ 1 ≤ v ∧ v ≤ 1000000 := by simp [verB]
theorem entErr_iff {x : Entry} : entErr x = 0 ↔ checkP [x.path] = 0 ∧ ¬ (x.folder = true ∧ x.text ≠ []) ∧ x.text.length ≤ 300 ∧ 1 ≤ x.version ∧ x.version ≤ 1000000 := by
  unfold entErr
  grind
theorem form_text {c : Change} (h : formP c = 0) : c.text.length ≤ 300 := by
  unfold formP at h
  grind
/-- nothing is within something that is a file -/
theorem out_front {p q : Str} (h : isIn p q = false) (hp : headOf p ≠ []) : isIn (headOf p) q = false := by
  cases hi : isIn (headOf p) q with
  | false => rfl
  | true => rw [isIn_trans (in_front hp) hi] at h; cases h
theorem made_full {l : List Entry} {c : Change} {v : Int} (g : FullT l) (hv : verB v = true) (h : rawErr l c v = 0) : FullT (madeP l c v) := by
  obtain ⟨hf, hm, hd⟩ := raw_0 h
  obtain ⟨hgr, hlen⟩ := done_0 hd
  obtain ⟨hcp, hct⟩ := form_ok hf
  have hfk := form_kind hf
  have m := may_iff g.sorted hm
  have hver := verB_iff.1 hv
  have htx := form_text hf
  by_cases k1 : c.kind = 1
  · have e : madeP l c v = putE l ⟨c.path, true, [], v⟩ := by rw [madeP, if_pos k1]
    have hg : goalP c = c.path := by rw [goalP, if_neg (by omega)]
    rw [e] at hlen ⊢
    refine ⟨hlen, fun x hx => ?_, putE_sorted g.sorted _, fun x hx => ?_⟩
    · rcases (putE_mem g.sorted).1 hx with rfl | ⟨hx, _⟩
      · exact entErr_iff.2 ⟨hcp, by simp, by simp, hver.1, hver.2⟩
      · exact g.ents x hx
    · have keep : ∀ y ∈ l, y ∈ putE l ⟨c.path, true, [], v⟩ := fun y hy => (putE_mem g.sorted).2 (.inr ⟨hy, m.new k1 y hy⟩)
      rcases (putE_mem g.sorted).1 hx with rfl | ⟨hx, _⟩
      · have := m.par
        rw [hg] at this
        rcases this with h | ⟨y, hy, h1, h2⟩
        · exact .inl h
        · exact .inr ⟨y, keep y hy, h1, h2⟩
      · rcases g.par x hx with h | ⟨y, hy, h1, h2⟩
        · exact .inl h
        · exact .inr ⟨y, keep y hy, h1, h2⟩
  · by_cases k2 : c.kind = 2
    · have e : madeP l c v = putE l ⟨c.path, false, c.text, v⟩ := by rw [madeP, if_neg k1, if_pos k2]
      have hg : goalP c = c.path := by rw [goalP, if_neg (by omega)]
      rw [e] at hlen ⊢
      refine ⟨hlen, fun x hx => ?_, putE_sorted g.sorted _, fun x hx => ?_⟩
      · rcases (putE_mem g.sorted).1 hx with rfl | ⟨hx, _⟩
        · exact entErr_iff.2 ⟨hcp, by simp, htx, hver.1, hver.2⟩
        · exact g.ents x hx
      · have keep : ∀ y ∈ l, y.folder = true → y ∈ putE l ⟨c.path, false, c.text, v⟩ := fun y hy hfy => (putE_mem g.sorted).2 (.inr ⟨hy, fun e => by rw [m.file k2 y hy e] at hfy; cases hfy⟩)
        rcases (putE_mem g.sorted).1 hx with rfl | ⟨hx, _⟩
        · have := m.par
          rw [hg] at this
          rcases this with h | ⟨y, hy, h1, h2⟩
          · exact .inl h
          · exact .inr ⟨y, keep y hy h2, h1, h2⟩
        · rcases g.par x hx with h | ⟨y, hy, h1, h2⟩
          · exact .inl h
          · exact .inr ⟨y, keep y hy h2, h1, h2⟩
    · by_cases k4 : c.kind = 4
      · have e : madeP l c v = l.filter (outB c.path) := by rw [madeP, if_neg k1, if_neg k2, if_pos k4]
        rw [e] at hlen ⊢
        refine ⟨hlen, fun x hx => g.ents x (List.mem_filter.1 hx).1, filter_sorted g.sorted _, fun x hx => ?_⟩
        obtain ⟨h1, h2⟩ := List.mem_filter.1 hx
        have h2 : isIn x.path c.path = false := by simpa [outB] using h2
        by_cases h0 : headOf x.path = []
        · exact .inl h0
        · rcases g.par x h1 with h | ⟨y, hy, h3, h4⟩
          · exact .inl h
          · exact .inr ⟨y, List.mem_filter.2 ⟨hy, by simp [outB, h3, out_front h2 h0]⟩, h3, h4⟩
      · have k3 : c.kind = 3 := by omega
        have e : madeP l c v = movedL l c v := by rw [madeP, if_neg k1, if_neg k2, if_neg k4, if_pos k3]
        have ht := hct k3
        have hmem : ∀ {y : Entry}, y ∈ movedL l c v ↔ y ∈ goesP l c v ∨ (y ∈ l ∧ isIn y.path c.path = false) := movedL_mem g m k3 ht
        have hg : goalP c = c.to := by rw [goalP, if_pos k3]
        rw [e] at hlen ⊢
        refine ⟨hlen, fun x hx => ?_, foldl_put_sorted _ (filter_sorted g.sorted _), fun x hx => ?_⟩
        · rcases hmem.1 hx with h1 | ⟨h1, _⟩
          · have hp := goes_path (fun y hy => g.path hy) ht (hgr k3) h1
            obtain ⟨y, hy, h2, rfl⟩ := goes_mem.1 h1
            obtain ⟨q1, q2, q3, q4, q5⟩ := entErr_iff.1 (g.ents y hy)
            refine entErr_iff.2 ⟨hp, q2, q3, ?_⟩
            show 1 ≤ (if y.path = c.path then v else y.version) ∧ (if y.path = c.path then v else y.version) ≤ 1000000
            split
            · exact hver
            · exact ⟨q4, q5⟩
          · exact g.ents x h1
        · rcases hmem.1 hx with h1 | ⟨h1, h2⟩
          · obtain ⟨y, hy, h2, rfl⟩ := goes_mem.1 h1
            by_cases hyp : y.path = c.path
            · have hxp : (mvE c v y).path = c.to := by show c.to ++ y.path.drop c.path.length = c.to; rw [(moved_eq_top h2).2 hyp]
              rw [hxp]
              have hpar := m.par
              rw [hg] at hpar
              rcases hpar with h | ⟨z, hz, h3, h4⟩
              · exact .inl h
              · by_cases h0 : headOf c.to = []
                · exact .inl h0
                · refine .inr ⟨z, hmem.2 (.inr ⟨hz, ?_⟩), h3, h4⟩
                  rw [h3]
                  exact out_front (m.apart k3) h0
            · have hne := front_ne_nil (pass_ne hcp) h2 hyp
              rcases g.par y hy with h | ⟨z, hz, h3, h4⟩
              · exact absurd h hne
              · right
                have hzin : isIn z.path c.path = true := by rw [h3]; exact front_in' h2 hyp
                refine ⟨mvE c v z, hmem.2 (.inl (goes_mem.2 ⟨z, hz, hzin, rfl⟩)), ?_, h4⟩
                show c.to ++ z.path.drop c.path.length = headOf (c.to ++ y.path.drop c.path.length)
                rw [front_moved c.to h2 hyp, h3]
          · by_cases h0 : headOf x.path = []
            · exact .inl h0
            · rcases g.par x h1 with h | ⟨y, hy, h3, h4⟩
              · exact .inl h
              · exact .inr ⟨y, hmem.2 (.inr ⟨hy, by rw [h3]; exact out_front h2 h0⟩), h3, h4⟩
end Go.VM.Tryd
end
section
set_option maxHeartbeats 4000000
set_option linter.unusedVariables false
set_option linter.unusedSimpArgs false
open Go Go.VM Go.Proofs Tether
namespace Go.VM.Tryd
set_option maxRecDepth 100000
end Go.VM.Tryd
end
section
set_option maxHeartbeats 4000000
set_option linter.unusedVariables false
set_option linter.unusedSimpArgs false
open Go Go.VM Go.Proofs Tether
namespace Tether
structure Commit where
  number : Int
  key : Str
  changes : List Change
  deriving Inhabited, DecidableEq
structure Page where
  whole : Bool
  tree : List Entry
  commits : List Commit
  cursor : Int
  more : Bool
  deriving Inhabited, DecidableEq
end Tether
namespace Go.VM.Tryd
set_option maxRecDepth 100000
def cmE (c : Commit) : List V := [.int .i64 c.number, .str c.key, csV c.changes]
theorem cmE_eq (c : Commit) : cmE c = [.int .i64 c.number, .str c.key, csV c.changes] := rfl
attribute [go_sem] cmE_eq
abbrev cmsV (l : List Commit) : V := lstV 3 cmE default l
def pgE (p : Page) : List V := [.bool p.whole, esV p.tree, cmsV p.commits, .int .i64 p.cursor, .bool p.more]
theorem pgE_eq (p : Page) : pgE p = [.bool p.whole, esV p.tree, cmsV p.commits, .int .i64 p.cursor, .bool p.more] := rfl
attribute [go_sem] pgE_eq
def okM (c : Commit) : Prop := c.key.length ≤ 1048576 ∧ okCs c.changes
def okMs (l : List Commit) : Prop := l.length ≤ 1048576 ∧ ∀ c ∈ l, okM c
def okG (p : Page) : Prop := okE p.tree ∧ okMs p.commits
def isCur (n : Int) : Bool := decide (0 ≤ n) && decide (n ≤ 1000000)
theorem isCursor_c (n : Int) : Meets Tryd.prog 46 [.int .i64 n] (.bool (isCur n)) [] := by
  refine meets_x (fn := Tryd.f46) Tryd.func46 rfl fb46 (by kernel_rfl) (Nat.le_of_ble_eq_true rfl) ?_
  refine cx_sr ?_
  simp only [go_sem]
  repeat first | (with_reducible refine side_d ?_ ?_; exact byD) | (with_reducible refine side_q ?_ ?_; exact byQ)
  refine cx_sr ?_
  simp only [go_sem]
  intro t4 e4
  intro t7 e7
  intro t8 e8
  rw [bsel_and] at e8
  subst e4 e7 e8
  refine cx_ret ?_
  simp only [go_sem]
  exact finw_bool (by simp [isCur])
theorem RIsCursor_c (n : Int) : Meets Tryd.prog 47 [.int .i64 n] (.bool (isCur n)) [] := by
  refine meets_x (fn := Tryd.f47) Tryd.func47 rfl fb47 (by kernel_rfl) (Nat.le_of_ble_eq_true rfl) ?_
  refine cx_sr ?_
  simp only [go_sem]
  repeat first | (with_reducible refine side_d ?_ ?_; exact byD) | (with_reducible refine side_q ?_ ?_; exact byQ)
  refine cx_sr ?_
  simp only [go_sem]
  intro t4 e4
  intro t7 e7
  intro t8 e8
  rw [bsel_and] at e8
  subst e4 e7 e8
  refine cx_ret ?_
  simp only [go_sem]
  exact finw_bool (by simp [isCur])
/-- the commits' numbers go on from a cursor -/
def numbersP (cur : Int) : List Commit → Bool
  | [] => true
  | c :: r => decide (c.number = cur + 1) && numbersP (cur + 1) r
/-- commit by commit -/
def runP : List Entry → List Commit → List Entry × Int
  | t, [] => (t, 0)
  | t, c :: r => if (allP t c.changes c.number).2.2 ≠ 0 then ([], (allP t c.changes c.number).2.2) else runP (allP t c.changes c.number).1 r
def followP (t : List Entry) (cur : Int) (p : Page) : List Entry × Int × Int :=
  if checkT t ≠ 0 then ([], 0, checkT t) else if isCur cur = false then ([], 0, 3) else
  if p.whole = true then
    if checkT p.tree ≠ 0 then ([], 0, checkT p.tree) else if isCur p.cursor = false then ([], 0, 3) else if 0 < p.commits.length ∨ p.more = true then ([], 0, 1) else (p.tree, p.cursor, 0)
  else if 0 < p.tree.length then ([], 0, 1) else if 10 < p.commits.length then ([], 0, 2) else if numbersP cur p.commits = false then ([], 0, 4) else if ¬ p.cursor = cur + p.commits.length then ([], 0, 4) else
  if (runP t p.commits).2 ≠ 0 then ([], 0, (runP t p.commits).2) else ((runP t p.commits).1, p.cursor, 0)
end Go.VM.Tryd
end
section
set_option maxHeartbeats 4000000
set_option linter.unusedVariables false
set_option linter.unusedSimpArgs false
open Go Go.VM Go.Proofs Tether
namespace Go.VM.Tryd
set_option maxRecDepth 100000
theorem allRun_good : ∀ (cs : List Change) (t : List Entry) (v k : Int), GoodT t → (∀ c ∈ cs, okC c) → (allRun v t cs k).2.2 = 0 → GoodT (allRun v t cs k).1
  | [], t, v, k, g, _, _ => by simpa [allRun] using g
  | c :: cs, t, v, k, g, ok, h => by
    rw [allRun] at h ⊢
    by_cases h1 : rawErr t c v = 0
    · rw [if_neg (by simpa using h1)] at h ⊢
      exact allRun_good cs _ v _ (made_good g (ok c (by simp)) h1) (fun x hx => ok x (by simp [hx])) h
    · rw [if_pos h1] at h
      exact absurd h h1
theorem allP_good {t : List Entry} {cs : List Change} {v : Int} (ok : okE t) (okc : okCs cs) (h : (allP t cs v).2.2 = 0) : GoodT (allP t cs v).1 := by
  unfold allP at h ⊢
  by_cases h1 : checkT t = 0
  · rw [if_neg (by simpa using h1)] at h ⊢
    split at h
    · cases h
    · split at h
      · cases h
      · rename_i h2 h3
        rw [if_neg h2, if_neg h3]
        exact allRun_good cs t v 0 (checkT_good ok h1) okc.2 h
  · rw [if_pos h1] at h
    exact absurd h h1
/-- the cursor's word -/
def curErr (t : List Entry) (cur : Int) : Int := if checkT t ≠ 0 then checkT t else if isCur cur = false then 3 else 0
def wholeErr (p : Page) : Int := if checkT p.tree ≠ 0 then checkT p.tree else if isCur p.cursor = false then 3 else if 0 < p.commits.length ∨ p.more = true then 1 else 0
theorem numbers_step {cur : Int} {l : List Commit} {i : Nat} (hi : i < l.length) : numbersP (cur + (i : Nat)) (l.drop i) = (decide ((l.getD i default).number = cur + (i : Nat) + 1) && numbersP (cur + ((i + 1 : Nat) : Int)) (l.drop (i + 1))) := by
  rw [List.drop_eq_getElem_cons hi, numbersP]
  have : l[i] = l.getD i default := by simp [List.getD, hi]
  rw [this]
  congr 2
  omega
theorem run_step {t : List Entry} {l : List Commit} {i : Nat} (hi : i < l.length) : runP t (l.drop i) = if (allP t (l.getD i default).changes (l.getD i default).number).2.2 ≠ 0 then ([], (allP t (l.getD i default).changes (l.getD i default).number).2.2) else runP (allP t (l.getD i default).changes (l.getD i default).number).1 (l.drop (i + 1)) := by
  rw [List.drop_eq_getElem_cons hi, runP]
  have : l[i] = l.getD i default := by simp [List.getD, hi]
  rw [this]
theorem Follow_c (t : List Entry) (cur : Int) (p : Page) (ok : okE t) (okp : okG p) : Meets Tryd.prog 24 [esV t, .int .i64 cur, .agg (pgE p)]
    (.tup [.own none 0 4 0 (followP t cur p).1.length .loose, .int .i64 (followP t cur p).2.1, .int .i64 (followP t cur p).2.2]) [.arr 4 (followP t cur p).1.length (En Entry.enc default (followP t cur p).1)] := by
  refine meets_x (fn := Tryd.f24) Tryd.func24 rfl fb24 (by kernel_rfl) (Nat.le_of_ble_eq_true rfl) ?_
  have hl := ok.1
  have hpt := okp.1.1
  have hpc := okp.2.1
  refine cx_sr ?_
  simp only [go_sem]
  repeat first | (with_reducible refine side_d ?_ ?_; exact byD) | (with_reducible refine side_q ?_ ?_; exact byQ)
  refine cx_sr ?_
  simp only [go_sem]
  refine cw_m (TCheck_c t ok) byW byT ?_
  simp only [go_sem]
  refine cx_seq ?_
  refine cx_sr ?_
  simp only [go_sem]
  intro t17 e17
  refine ⟨_, fun hp => cw_m (isCursor_c cur) byW byT ⟨rfl, rfl⟩, ?_⟩
  simp only [go_sem]
  intro t21 e21
  intro t22 e22
  rw [bsel_and] at e22
  subst e17 e21 e22
  refine cx_meet (σ := Unit) (fun u => True) (fun u => [⟨9, 0, [], .int .i64 (curErr t cur)⟩]) [0, 1, 5, 6, 7, 8] (fun u => [.box (pgE p)]) (fun _ => (Nat.zero_le _)) ?_ (fun u hIM1 => ?_)
  ·
   refine cx_if _ rfl (fun h22 => ?_) (fun h22 => ?_)
   ·
    (try simp only [go_sem] at h22)
    refine cx_region ?_
    simp only [go_sem]
    have h : checkT t = 0 ∧ isCur cur = false := by simpa using h22
    have he : curErr t cur = 3 := by rw [curErr, if_neg (by simpa using h.1), if_pos h.2]
    refine mt_next () trivial ?_
    rw [he]
    exact byC
   ·
    (try simp only [go_sem] at h22)
    refine cx_skip ?_
    (try simp only [go_sem])
    have he : curErr t cur = checkT t := by
      unfold curErr
      by_cases h : checkT t = 0
      · have : isCur cur = true := by simpa [h] using h22
        rw [if_neg (by simpa using h), if_neg (by simp [this]), h]
      · rw [if_pos h]
    refine mt_next () trivial ?_
    rw [he]
    exact byC
  simp only [go_sem]
  refine cx_seq ?_
  refine cx_sr ?_
  simp only [go_sem]
  repeat first | (with_reducible refine side_d ?_ ?_; exact byD) | (with_reducible refine side_q ?_ ?_; exact byQ)
  intro t24 e24
  intro t28 e28
  rw [bsel_and] at e28
  subst e24 e28
  refine cx_meet (σ := Int) (fun m => (m = curErr t cur ∧ ¬ (curErr t cur = 0 ∧ p.whole = true)) ∨ (curErr t cur = 0 ∧ p.whole = true ∧ m ≠ 0 ∧ m = wholeErr p)) (fun m => [⟨9, 0, [], .int .i64 m⟩]) [0, 1, 5] (fun m => [.box (pgE p)]) (fun _ => (Nat.zero_le _)) ?_ (fun m hIM2 => ?_)
  ·
   refine cx_if _ rfl (fun h28 => ?_) (fun h28 => ?_)
   ·
    (try simp only [go_sem] at h28)
    refine cx_sr ?_
    simp only [go_sem]
    refine cw_m (TCheck_c p.tree okp.1) byW byT ?_
    simp only [go_sem]
    refine cx_block ?_
    refine cx_sr ?_
    simp only [go_sem]
    intro t39 e39
    subst e39
    refine cx_if _ rfl (fun h37 => ?_) (fun h37 => ?_)
    ·
     (try simp only [go_sem] at h37)
     refine cx_skip ?_
     (try simp only [go_sem])
     have h : ¬ checkT p.tree = 0 := by simpa using h37
     have he : wholeErr p = checkT p.tree := by rw [wholeErr, if_pos h]
     refine mt_next (checkT p.tree) (.inr ⟨h28.1, h28.2, h, he.symm⟩) byC
    ·
     (try simp only [go_sem] at h37)
     refine cx_sr ?_
     simp only [go_sem]
     refine cw_m (isCursor_c p.cursor) byW byT ?_
     simp only [go_sem]
     intro t44 e44
     subst e44
     refine cx_if _ rfl (fun h40 => ?_) (fun h40 => ?_)
     ·
      (try simp only [go_sem] at h40)
      refine cx_region ?_
      simp only [go_sem]
      have h : checkT p.tree = 0 := by simpa using h37
      have h2 : isCur p.cursor = false := by simpa using h40
      have he : wholeErr p = 3 := by rw [wholeErr, if_neg (by simpa using h), if_pos h2]
      refine mt_next 3 (.inr ⟨h28.1, h28.2, by decide, he.symm⟩) byC
     ·
      (try simp only [go_sem] at h40)
      refine cx_sr ?_
      simp only [go_sem]
      intro t49 e49
      intro t53 e53
      rw [bsel_or] at e53
      subst e49 e53
      refine cx_if _ rfl (fun h45 => ?_) (fun h45 => ?_)
      ·
       (try simp only [go_sem] at h45)
       refine cx_region ?_
       simp only [go_sem]
       have h : checkT p.tree = 0 := by simpa using h37
       have h2 : ¬ isCur p.cursor = false := by simpa using h40
       have h3 : 0 < p.commits.length ∨ p.more = true := by
         rcases h45 with h | h
         · exact .inl (by omega)
         · exact .inr h
       have he : wholeErr p = 1 := by rw [wholeErr, if_neg (by simpa using h), if_neg h2, if_pos h3]
       refine mt_next 1 (.inr ⟨h28.1, h28.2, by decide, he.symm⟩) byC
      ·
       (try simp only [go_sem] at h45)
       refine cx_seq (cx_draw mixed [] (.first 0 (.first 1 (.first 3 (.first 4 (.one 2 (.first 5 (.first 6 (.first 7 (.done))))))))) (by kernel_rfl) ?_)
       simp only [go_sem]
       refine cwE_m (Clone_Entry p.tree (by omega)) byW byT ?_
       simp only [go_sem]
       refine cx_ret ?_
       simp only [go_sem]
       have h : checkT p.tree = 0 := by simpa using h37
       have h2 : ¬ isCur p.cursor = false := by simpa using h40
       have h3 : ¬ (0 < p.commits.length ∨ p.more = true) := by
         rintro (h | h)
         · exact h45.1 (by omega)
         · rw [h45.2] at h; cases h
       have hf : followP t cur p = (p.tree, p.cursor, 0) := by
         have := h28.1
         unfold curErr at this
         unfold followP
         grind
       rw [hf]
       exact finx_of 1 [1] rfl byC byC byC byC
   ·
    (try simp only [go_sem] at h28)
    refine cx_skip ?_
    (try simp only [go_sem])
    refine mt_next (curErr t cur) (.inl ⟨rfl, fun h => by rcases h28 with h1 | h1 <;> grind⟩) byC
  simp only [go_sem]
  refine cx_seq (cx_block ?_)
  refine cx_sr ?_
  simp only [go_sem]
  repeat first | (with_reducible refine side_d ?_ ?_; exact byD) | (with_reducible refine side_q ?_ ?_; exact byQ)
  intro t56 e56
  subst e56
  refine cx_if _ rfl (fun h54 => ?_) (fun h54 => ?_)
  ·
   (try simp only [go_sem] at h54)
   refine cx_sr ?_
   simp only [go_sem]
   refine cx_virt 6 4 (En Entry.enc default []) rfl ?_
   simp only [go_sem]
   refine cx_ret ?_
   simp only [go_sem]
   have hf : followP t cur p = ([], 0, m) := by
     rcases hIM2 with ⟨h1, h2⟩ | ⟨h1, h2, h3, h4⟩
     · have hc : curErr t cur ≠ 0 := by rw [← h1]; exact h54
       unfold curErr at hc h1
       unfold followP
       grind
     · unfold curErr at h1
       unfold wholeErr at h4
       unfold followP
       grind
   rw [hf]
   exact finx_of 1 [1] rfl byC byC byC byC
  ·
   (try simp only [go_sem] at h54)
   have hm0 : m = 0 := by simpa using h54
   have hcu : curErr t cur = 0 ∧ ¬ p.whole = true := by
     rcases hIM2 with ⟨h1, h2⟩ | ⟨h1, h2, h3, h4⟩
     · have : curErr t cur = 0 := by rw [← h1]; exact hm0
       exact ⟨this, fun h => h2 ⟨this, h⟩⟩
     · exact absurd hm0 h3
   have hcur : isCur cur = true := by
     have := hcu.1
     unfold curErr at this
     grind
   have hcr : 0 ≤ cur ∧ cur ≤ 1000000 := by simpa [isCur] using hcur
   have hF : followP t cur p = if 0 < p.tree.length then ([], 0, 1) else if 10 < p.commits.length then ([], 0, 2) else if numbersP cur p.commits = false then ([], 0, 4) else if ¬ p.cursor = cur + p.commits.length then ([], 0, 4) else
     if (runP t p.commits).2 ≠ 0 then ([], 0, (runP t p.commits).2) else ((runP t p.commits).1, p.cursor, 0) := by
     have := hcu.1
     unfold curErr at this
     unfold followP
     grind
   refine cx_sr ?_
   simp only [go_sem]
   intro t62 e62
   subst e62
   refine cx_if _ rfl (fun h58 => ?_) (fun h58 => ?_)
   ·
    (try simp only [go_sem] at h58)
    refine cx_sr ?_
    simp only [go_sem]
    refine cx_virt 6 4 (En Entry.enc default []) rfl ?_
    simp only [go_sem]
    refine cx_ret ?_
    simp only [go_sem]
    rw [hF, if_pos (by omega)]
    exact finx_of 1 [1] rfl byC byC byC byC
   ·
    (try simp only [go_sem] at h58)
    refine cx_sr ?_
    simp only [go_sem]
    intro t67 e67
    subst e67
    refine cx_if _ rfl (fun h63 => ?_) (fun h63 => ?_)
    ·
     (try simp only [go_sem] at h63)
     refine cx_sr ?_
     simp only [go_sem]
     refine cx_virt 6 4 (En Entry.enc default []) rfl ?_
     simp only [go_sem]
     refine cx_ret ?_
     simp only [go_sem]
     rw [hF, if_neg (by omega), if_pos (by omega)]
     exact finx_of 1 [1] rfl byC byC byC byC
    ·
     (try simp only [go_sem] at h63)
     refine cx_skip ?_
     (try simp only [go_sem])
     refine cx_seq ?_
     refine cx_sr ?_
     simp only [go_sem]
     refine cx_block ?_
     refine cx_loopk (σ := Nat) (fun i => i ≤ p.commits.length ∧ numbersP cur p.commits = numbersP (cur + (i : Nat)) (p.commits.drop i)) (fun i => [⟨71, 0, [], .int .i64 (i : Nat)⟩]) [0, 1, 5, 69, 70] (fun i => [.box (pgE p)]) (fun i => p.commits.length - i) 0 ⟨Nat.zero_le _, by simp⟩ (fun _ => (Nat.zero_le _)) byC (fun i hI1 => ?_)
     simp only [go_sem]
     refine cx_sr ?_
     simp only [go_sem]
     repeat first | (with_reducible refine side_d ?_ ?_; exact byD) | (with_reducible refine side_q ?_ ?_; exact byQ)
     intro t72 e72
     subst e72
     refine cx_seq ?_
     refine cx_if _ rfl (fun h72 => ?_) (fun h72 => ?_)
     ·
      (try simp only [go_sem] at h72)
      have hst := numbers_step (cur := cur) (l := p.commits) (i := i) (by omega)
      refine cx_skip ?_
      (try simp only [go_sem])
      refine cx_seq (cx_block ?_)
      refine cx_sr ?_
      simp only [go_sem]
      repeat first | (with_reducible refine side_d ?_ ?_; exact byD) | (with_reducible refine side_q ?_ ?_; exact byQ)
      refine cx_sr ?_
      simp only [go_sem]
      intro t79 e79
      (try replace e79 := w64 e79 (by omega) (by omega))
      intro t81 e81
      (try replace e81 := w64 e81 (by omega) (by omega))
      intro t82 e82
      subst e82
      refine cx_if _ rfl (fun h82 => ?_) (fun h82 => ?_)
      ·
       (try simp only [go_sem] at h82)
       refine cx_sr ?_
       simp only [go_sem]
       refine cx_virt 6 4 (En Entry.enc default []) rfl ?_
       simp only [go_sem]
       refine cx_ret ?_
       simp only [go_sem]
       have hn : numbersP cur p.commits = false := by
         rw [hI1.2, hst]
         have : ¬ (p.commits.getD i default).number = cur + (i : Nat) + 1 := by omega
         rw [decide_eq_false this, Bool.false_and]
       rw [hF, if_neg (by omega), if_neg (by omega), if_pos hn]
       exact finx_of 1 [2] rfl byC byC byC byC
      ·
       (try simp only [go_sem] at h82)
       refine cx_skip ?_
       (try simp only [go_sem])
       refine cx_region ?_
       simp only [go_sem]
       intro t83 e83
       (try replace e83 := w64 e83 (by omega) (by omega))
       have hn : (p.commits.getD i default).number = cur + (i : Nat) + 1 := by omega
       refine rnd_next (i + 1) ⟨by omega, by rw [hI1.2, hst, decide_eq_true hn, Bool.true_and]⟩ (by first | omega | (dsimp only; omega)) byC
     ·
      (try simp only [go_sem] at h72)
      have hi1 : i = p.commits.length := by omega
      have hnum : numbersP cur p.commits = true := by
        rw [hI1.2, hi1, List.drop_length]
        rfl
      refine cx_exit ?_
      simp only [go_sem]
      refine cx_seq ?_
      refine cx_sr ?_
      simp only [go_sem]
      intro t90 e90
      (try replace e90 := w64 e90 (by omega) (by omega))
      intro t91 e91
      subst e91
      refine cx_if _ rfl (fun h91 => ?_) (fun h91 => ?_)
      ·
       (try simp only [go_sem] at h91)
       refine cx_sr ?_
       simp only [go_sem]
       refine cx_virt 6 4 (En Entry.enc default []) rfl ?_
       simp only [go_sem]
       refine cx_ret ?_
       simp only [go_sem]
       rw [hF, if_neg (by omega), if_neg (by omega), if_neg (by simp [hnum]), if_pos (by omega)]
       exact finx_of 1 [1] rfl byC byC byC byC
      ·
       (try simp only [go_sem] at h91)
       have hF2 : followP t cur p = if (runP t p.commits).2 ≠ 0 then ([], 0, (runP t p.commits).2) else ((runP t p.commits).1, p.cursor, 0) := by
         rw [hF, if_neg (by omega), if_neg (by omega), if_neg (by simp [hnum]), if_neg (by omega)]
       refine cx_skip ?_
       (try simp only [go_sem])
       refine cx_sr ?_
       simp only [go_sem]
       refine cw_m (Clone_Entry t (by omega)) byW byT ?_
       simp only [go_sem]
       refine cx_seq ?_
       refine cx_sr ?_
       simp only [go_sem]
       refine cx_block ?_
       refine cx_loopk (σ := Nat × List Entry) (fun s => s.1 ≤ p.commits.length ∧ okE s.2 ∧ runP t p.commits = runP s.2 (p.commits.drop s.1)) (fun s => [⟨97, 0, [], .int .i64 (s.1 : Nat)⟩, ⟨0, 0, [], .own none 1 4 0 s.2.length .loose⟩]) [5, 95, 96] (fun s => [.box (pgE p), .arr 4 s.2.length (En Entry.enc default s.2)]) (fun s => p.commits.length - s.1) (0, t) ⟨Nat.zero_le _, ok, rfl⟩ (fun _ => (Nat.zero_le _)) byC (fun s hI2 => ?_)
       simp only [go_sem]
       refine cx_sr ?_
       simp only [go_sem]
       repeat first | (with_reducible refine side_d ?_ ?_; exact byD) | (with_reducible refine side_q ?_ ?_; exact byQ)
       intro t98 e98
       subst e98
       refine cx_seq ?_
       refine cx_if _ rfl (fun h98 => ?_) (fun h98 => ?_)
       ·
        (try simp only [go_sem] at h98)
        have hcc := okp.2.2 _ (getD_mem (l := p.commits) (i := s.1) (d := default) (by omega))
        have hrs := run_step (t := s.2) (l := p.commits) (i := s.1) (by omega)
        have hal := allP_len s.2 (p.commits.getD s.1 default).changes (p.commits.getD s.1 default).number
        have hsl := hI2.2.1.1
        refine cx_skip ?_
        (try simp only [go_sem])
        refine cx_seq (cx_block ?_)
        refine cx_sr ?_
        simp only [go_sem]
        repeat first | (with_reducible refine side_d ?_ ?_; exact byD) | (with_reducible refine side_q ?_ ?_; exact byQ)
        refine cx_sr ?_
        simp only [go_sem]
        refine cw_n 2 (All_c s.2 (p.commits.getD s.1 default).changes (p.commits.getD s.1 default).number hI2.2.1 hcc.2) byV byC rfl byN ?_
        simp only [go_sem]
        refine cx_sr ?_
        simp only [go_sem]
        intro t112 e112
        subst e112
        refine cx_if _ rfl (fun h112 => ?_) (fun h112 => ?_)
        ·
         (try simp only [go_sem] at h112)
         refine cx_sr ?_
         simp only [go_sem]
         refine cx_virt 6 4 (En Entry.enc default []) rfl ?_
         simp only [go_sem]
         refine cx_ret ?_
         simp only [go_sem]
         have h : (allP s.2 (p.commits.getD s.1 default).changes (p.commits.getD s.1 default).number).2.2 ≠ 0 := by simpa using h112
         rw [if_pos h] at hrs
         have hf : followP t cur p = ([], 0, (allP s.2 (p.commits.getD s.1 default).changes (p.commits.getD s.1 default).number).2.2) := by
           rw [hF2, hI2.2.2, hrs, if_pos h]
         rw [hf]
         exact finx_of 1 [4] rfl byC byC byC byC
        ·
         (try simp only [go_sem] at h112)
         refine cx_skip ?_
         (try simp only [go_sem])
         refine cx_region ?_
         simp only [go_sem]
         intro t114 e114
         (try replace e114 := w64 e114 (by omega) (by omega))
         have h : (allP s.2 (p.commits.getD s.1 default).changes (p.commits.getD s.1 default).number).2.2 = 0 := by simpa using h112
         rw [if_neg (by simpa using h)] at hrs
         refine rnd_nextr (s.1 + 1, (allP s.2 (p.commits.getD s.1 default).changes (p.commits.getD s.1 default).number).1) [0, 3] ⟨by dsimp only; omega, (allP_good hI2.2.1 hcc.2 h).ok, by rw [hI2.2.2, hrs]⟩ (by first | omega | (dsimp only; omega)) ⟨rfl, rfl, ?_, ?_⟩
         · exact byC
         · exact byC
       ·
        (try simp only [go_sem] at h98)
        refine cx_exit ?_
        simp only [go_sem]
        refine cx_seq (cx_draw mixed [] (.first 0 (.first 1 (.first 2 (.first 3 (.first 4 (.first 5 (.done))))))) (by kernel_rfl) ?_)
        simp only [go_sem]
        refine cx_ret ?_
        simp only [go_sem]
        have hi2 : s.1 = p.commits.length := by omega
        have hr : runP t p.commits = (s.2, 0) := by rw [hI2.2.2, hi2, List.drop_length, runP]
        have hf : followP t cur p = (s.2, p.cursor, 0) := by rw [hF2, hr]; rfl
        rw [hf]
        exact finx_of 1 [1] rfl byC byC byC byC
end Go.VM.Tryd
end
section
set_option maxHeartbeats 4000000
set_option linter.unusedVariables false
set_option linter.unusedSimpArgs false
open Go Go.VM Go.Proofs Tether
namespace Go.VM.Tryd
set_option maxRecDepth 100000
theorem allRun_full : ∀ (cs : List Change) (t : List Entry) (v k : Int), FullT t → verB v = true → (allRun v t cs k).2.2 = 0 → FullT (allRun v t cs k).1
  | [], t, v, k, g, _, _ => by simpa [allRun] using g
  | c :: cs, t, v, k, g, hv, h => by
    rw [allRun] at h ⊢
    by_cases h1 : rawErr t c v = 0
    · rw [if_neg (by simpa using h1)] at h ⊢
      exact allRun_full cs _ v _ (made_full g hv h1) hv h
    · rw [if_pos h1] at h
      exact absurd h h1
theorem allR_full {t : List Entry} {cs : List Change} {v : Int} (g : FullT t) (h : (allR t cs v).2.2 = 0) : FullT (allR t cs v).1 := by
  unfold allR at h ⊢
  split at h
  · cases h
  · split at h
    · cases h
    · rename_i h2 h3
      rw [if_neg h2, if_neg h3]
      by_cases hv : verB v = true
      · exact allRun_full cs t v 0 g hv h
      · have : cs = [] := by
          have h4 : verB v = false := by simpa using hv
          rcases cs with _ | ⟨c, cs⟩
          · rfl
          · exact absurd ⟨h4, by simp⟩ h3
        subst this
        simpa [allRun] using g
theorem allP_full {t : List Entry} (g : FullT t) (cs : List Change) (v : Int) : allP t cs v = allR t cs v := by
  rw [allP_R, if_neg (by simp [checkT_iff.2 g])]
theorem FollowOf_c (t : List Entry) (cur : Int) (p : Page) (ok : okE t) (okp : okG p) : Meets Tryd.prog 25 [esV t, .int .i64 cur, .agg (pgE p)]
    (.tup [esV (followP t cur p).1, .int .i64 (followP t cur p).2.1, .int .i64 (followP t cur p).2.2]) [] := by
  refine meets_x (fn := Tryd.f25) Tryd.func25 rfl fb25 (by kernel_rfl) (Nat.le_of_ble_eq_true rfl) ?_
  have hl := ok.1
  have hpt := okp.1.1
  have hpc := okp.2.1
  refine cx_sr ?_
  simp only [go_sem]
  repeat first | (with_reducible refine side_d ?_ ?_; exact byD) | (with_reducible refine side_q ?_ ?_; exact byQ)
  refine cx_sr ?_
  simp only [go_sem]
  refine cw_m (RCheckTree_c t ok) byW byT ?_
  simp only [go_sem]
  refine cx_seq ?_
  refine cx_sr ?_
  simp only [go_sem]
  intro t15 e15
  refine ⟨_, fun hp => cw_m (RIsCursor_c cur) byW byT ⟨rfl, rfl⟩, ?_⟩
  simp only [go_sem]
  intro t19 e19
  intro t20 e20
  rw [bsel_and] at e20
  subst e15 e19 e20
  refine cx_meet (σ := Unit) (fun u => True) (fun u => [⟨9, 0, [], .int .i64 (curErr t cur)⟩]) [0, 1, 5, 6, 7, 8] (fun u => [.box (pgE p)]) (fun _ => (Nat.zero_le _)) ?_ (fun u hIM1 => ?_)
  ·
   refine cx_if _ rfl (fun h20 => ?_) (fun h20 => ?_)
   ·
    (try simp only [go_sem] at h20)
    refine cx_region ?_
    simp only [go_sem]
    have h : checkT t = 0 ∧ isCur cur = false := by simpa using h20
    have he : curErr t cur = 3 := by rw [curErr, if_neg (by simpa using h.1), if_pos h.2]
    refine mt_next () trivial ?_
    rw [he]
    exact byC
   ·
    (try simp only [go_sem] at h20)
    refine cx_skip ?_
    (try simp only [go_sem])
    have he : curErr t cur = checkT t := by
      unfold curErr
      by_cases h : checkT t = 0
      · have : isCur cur = true := by simpa [h] using h20
        rw [if_neg (by simpa using h), if_neg (by simp [this]), h]
      · rw [if_pos h]
    refine mt_next () trivial ?_
    rw [he]
    exact byC
  simp only [go_sem]
  refine cx_seq ?_
  refine cx_sr ?_
  simp only [go_sem]
  repeat first | (with_reducible refine side_d ?_ ?_; exact byD) | (with_reducible refine side_q ?_ ?_; exact byQ)
  intro t22 e22
  subst e22
  refine cx_if _ rfl (fun h22 => ?_) (fun h22 => ?_)
  ·
   (try simp only [go_sem] at h22)
   refine cx_sr ?_
   simp only [go_sem]
   refine cx_ret ?_
   simp only [go_sem]
   have h : ¬ curErr t cur = 0 := by simpa using h22
   have hf : followP t cur p = ([], 0, curErr t cur) := by
     unfold curErr at h ⊢
     unfold followP
     grind
   rw [hf]
   exact finx_of 1 [] rfl byC byC byC byC
  ·
   (try simp only [go_sem] at h22)
   have hcu : curErr t cur = 0 := by simpa using h22
   have hck : checkT t = 0 := by unfold curErr at hcu; grind
   have g := checkT_iff.1 hck
   have hcur : isCur cur = true := by unfold curErr at hcu; grind
   have hcr : 0 ≤ cur ∧ cur ≤ 1000000 := by simpa [isCur] using hcur
   refine cx_skip ?_
   (try simp only [go_sem])
   refine cx_seq ?_
   refine cx_sr ?_
   simp only [go_sem]
   refine cx_if _ rfl (fun h25 => ?_) (fun h25 => ?_)
   ·
    (try simp only [go_sem] at h25)
    have hw : p.whole = true := h25
    have hF0 : followP t cur p = if wholeErr p ≠ 0 then ([], 0, wholeErr p) else (p.tree, p.cursor, 0) := by
      unfold followP wholeErr
      grind
    refine cx_sr ?_
    simp only [go_sem]
    refine cw_m (RCheckTree_c p.tree okp.1) byW byT ?_
    simp only [go_sem]
    refine cx_seq ?_
    refine cx_meet (σ := Unit) (fun u => True) (fun u => [⟨9, 0, [], .int .i64 (wholeErr p)⟩]) [0, 1, 5, 6, 7, 8] (fun u => [.box (pgE p)]) (fun _ => (Nat.zero_le _)) ?_ (fun u hIM2 => ?_)
    ·
     refine cx_block ?_
     refine cx_sr ?_
     simp only [go_sem]
     intro t31 e31
     subst e31
     refine cx_if _ rfl (fun h29 => ?_) (fun h29 => ?_)
     ·
      (try simp only [go_sem] at h29)
      refine cx_skip ?_
      (try simp only [go_sem])
      have h : ¬ checkT p.tree = 0 := by simpa using h29
      have he : wholeErr p = checkT p.tree := by rw [wholeErr, if_pos h]
      refine mt_next () trivial ?_
      rw [he]
      exact byC
     ·
      (try simp only [go_sem] at h29)
      refine cx_sr ?_
      simp only [go_sem]
      refine cw_m (RIsCursor_c p.cursor) byW byT ?_
      simp only [go_sem]
      intro t36 e36
      subst e36
      refine cx_if _ rfl (fun h32 => ?_) (fun h32 => ?_)
      ·
       (try simp only [go_sem] at h32)
       refine cx_region ?_
       simp only [go_sem]
       have h : checkT p.tree = 0 := by simpa using h29
       have h2 : isCur p.cursor = false := by simpa using h32
       have he : wholeErr p = 3 := by rw [wholeErr, if_neg (by simpa using h), if_pos h2]
       refine mt_next () trivial ?_
       rw [he]
       exact byC
      ·
       (try simp only [go_sem] at h32)
       refine cx_sr ?_
       simp only [go_sem]
       intro t41 e41
       intro t45 e45
       rw [bsel_or] at e45
       subst e41 e45
       refine cx_if _ rfl (fun h37 => ?_) (fun h37 => ?_)
       ·
        (try simp only [go_sem] at h37)
        refine cx_region ?_
        simp only [go_sem]
        have h : checkT p.tree = 0 := by simpa using h29
        have h2 : ¬ isCur p.cursor = false := by simpa using h32
        have h3 : 0 < p.commits.length ∨ p.more = true := by
          rcases h37 with h | h
          · exact .inl (by omega)
          · exact .inr h
        have he : wholeErr p = 1 := by rw [wholeErr, if_neg (by simpa using h), if_neg h2, if_pos h3]
        refine mt_next () trivial ?_
        rw [he]
        exact byC
       ·
        (try simp only [go_sem] at h37)
        refine cx_skip ?_
        (try simp only [go_sem])
        have h : checkT p.tree = 0 := by simpa using h29
        have h2 : ¬ isCur p.cursor = false := by simpa using h32
        have h3 : ¬ (0 < p.commits.length ∨ p.more = true) := by
          rintro (h | h)
          · exact h37.1 (by omega)
          · rw [h37.2] at h; cases h
        have he : wholeErr p = 0 := by rw [wholeErr, if_neg (by simpa using h), if_neg h2, if_neg h3]
        refine mt_next () trivial ?_
        rw [he, h]
        exact byC
    simp only [go_sem]
    refine cx_seq ?_
    refine cx_sr ?_
    simp only [go_sem]
    repeat first | (with_reducible refine side_d ?_ ?_; exact byD) | (with_reducible refine side_q ?_ ?_; exact byQ)
    intro t47 e47
    subst e47
    refine cx_if _ rfl (fun h47 => ?_) (fun h47 => ?_)
    ·
     (try simp only [go_sem] at h47)
     refine cx_sr ?_
     simp only [go_sem]
     refine cx_ret ?_
     simp only [go_sem]
     have h : ¬ wholeErr p = 0 := by simpa using h47
     rw [hF0, if_pos h]
     exact finx_of 1 [] rfl byC byC byC byC
    ·
     (try simp only [go_sem] at h47)
     refine cx_skip ?_
     (try simp only [go_sem])
     refine cx_seq (cx_draw mixed [] (.first 0 (.first 1 (.first 2 (.first 3 (.first 4 (.first 5 (.first 6 (.done)))))))) (by kernel_rfl) ?_)
     simp only [go_sem]
     refine cx_ret ?_
     simp only [go_sem]
     have h : wholeErr p = 0 := by simpa using h47
     rw [hF0, if_neg (by simpa using h)]
     exact finx_of 1 [] rfl byC byC byC byC
   ·
    (try simp only [go_sem] at h25)
    have hw : ¬ p.whole = true := by simpa using h25
    have hF : followP t cur p = if 0 < p.tree.length then ([], 0, 1) else if 10 < p.commits.length then ([], 0, 2) else if numbersP cur p.commits = false then ([], 0, 4) else if ¬ p.cursor = cur + p.commits.length then ([], 0, 4) else
      if (runP t p.commits).2 ≠ 0 then ([], 0, (runP t p.commits).2) else ((runP t p.commits).1, p.cursor, 0) := by
      unfold followP
      grind
    refine cx_skip ?_
    (try simp only [go_sem])
    refine cx_seq ?_
    refine cx_sr ?_
    simp only [go_sem]
    intro t56 e56
    subst e56
    refine cx_if _ rfl (fun h56 => ?_) (fun h56 => ?_)
    ·
     (try simp only [go_sem] at h56)
     refine cx_sr ?_
     simp only [go_sem]
     refine cx_ret ?_
     simp only [go_sem]
     rw [hF, if_pos (by omega)]
     exact finx_of 1 [] rfl byC byC byC byC
    ·
     (try simp only [go_sem] at h56)
     refine cx_skip ?_
     (try simp only [go_sem])
     refine cx_seq ?_
     refine cx_sr ?_
     simp only [go_sem]
     intro t60 e60
     subst e60
     refine cx_if _ rfl (fun h60 => ?_) (fun h60 => ?_)
     ·
      (try simp only [go_sem] at h60)
      refine cx_sr ?_
      simp only [go_sem]
      refine cx_ret ?_
      simp only [go_sem]
      rw [hF, if_neg (by omega), if_pos (by omega)]
      exact finx_of 1 [] rfl byC byC byC byC
     ·
      (try simp only [go_sem] at h60)
      refine cx_skip ?_
      (try simp only [go_sem])
      refine cx_seq ?_
      refine cx_sr ?_
      simp only [go_sem]
      refine cx_block ?_
      refine cx_loopk (σ := Nat) (fun i => i ≤ p.commits.length ∧ numbersP cur p.commits = numbersP (cur + (i : Nat)) (p.commits.drop i)) (fun i => [⟨10, 0, [], .int .i64 (i : Nat)⟩, ⟨1, 0, [], .int .i64 (cur + (i : Nat))⟩]) [0, 5] (fun i => [.box (pgE p)]) (fun i => p.commits.length - i) 0 ⟨Nat.zero_le _, by simp⟩ (fun _ => (Nat.zero_le _)) byC (fun i hI1 => ?_)
      simp only [go_sem]
      refine cx_seq ?_
      refine cx_sr ?_
      simp only [go_sem]
      repeat first | (with_reducible refine side_d ?_ ?_; exact byD) | (with_reducible refine side_q ?_ ?_; exact byQ)
      intro t65 e65
      subst e65
      refine cx_if _ rfl (fun h65 => ?_) (fun h65 => ?_)
      ·
       (try simp only [go_sem] at h65)
       have hst := numbers_step (cur := cur) (l := p.commits) (i := i) (by omega)
       refine cx_skip ?_
       (try simp only [go_sem])
       refine cx_seq (cx_block ?_)
       refine cx_sr ?_
       simp only [go_sem]
       intro t69 e69
       (try replace e69 := w64 e69 (by omega) (by omega))
       refine cx_sr ?_
       simp only [go_sem]
       repeat first | (with_reducible refine side_d ?_ ?_; exact byD) | (with_reducible refine side_q ?_ ?_; exact byQ)
       intro t77 e77
       subst e77
       refine cx_if _ rfl (fun h77 => ?_) (fun h77 => ?_)
       ·
        (try simp only [go_sem] at h77)
        refine cx_sr ?_
        simp only [go_sem]
        refine cx_ret ?_
        simp only [go_sem]
        have hn : numbersP cur p.commits = false := by
          rw [hI1.2, hst]
          have : ¬ (p.commits.getD i default).number = cur + (i : Nat) + 1 := by omega
          rw [decide_eq_false this, Bool.false_and]
        rw [hF, if_neg (by omega), if_neg (by omega), if_pos hn]
        exact finx_of 1 [] rfl byC byC byC byC
       ·
        (try simp only [go_sem] at h77)
        refine cx_skip ?_
        (try simp only [go_sem])
        refine cx_region ?_
        simp only [go_sem]
        intro t67 e67
        (try replace e67 := w64 e67 (by omega) (by omega))
        have hn : (p.commits.getD i default).number = cur + (i : Nat) + 1 := by omega
        refine rnd_next (i + 1) ⟨by omega, by rw [hI1.2, hst, decide_eq_true hn, Bool.true_and]⟩ (by first | omega | (dsimp only; omega)) ?_
        exact byC
      ·
       (try simp only [go_sem] at h65)
       have hi1 : i = p.commits.length := by omega
       have hnum : numbersP cur p.commits = true := by
         rw [hI1.2, hi1, List.drop_length]
         rfl
       refine cx_exit ?_
       simp only [go_sem]
       refine cx_seq ?_
       refine cx_sr ?_
       simp only [go_sem]
       intro t81 e81
       subst e81
       refine cx_if _ rfl (fun h81 => ?_) (fun h81 => ?_)
       ·
        (try simp only [go_sem] at h81)
        refine cx_sr ?_
        simp only [go_sem]
        refine cx_ret ?_
        simp only [go_sem]
        rw [hF, if_neg (by omega), if_neg (by omega), if_neg (by simp [hnum]), if_pos (by omega)]
        exact finx_of 1 [] rfl byC byC byC byC
       ·
        (try simp only [go_sem] at h81)
        have hF2 : followP t cur p = if (runP t p.commits).2 ≠ 0 then ([], 0, (runP t p.commits).2) else ((runP t p.commits).1, p.cursor, 0) := by
          rw [hF, if_neg (by omega), if_neg (by omega), if_neg (by simp [hnum]), if_neg (by omega)]
        refine cx_skip ?_
        (try simp only [go_sem])
        refine cx_seq ?_
        refine cx_sr ?_
        simp only [go_sem]
        refine cx_block ?_
        refine cx_loopk (σ := Nat × List Entry) (fun s => s.1 ≤ p.commits.length ∧ FullT s.2 ∧ okE s.2 ∧ runP t p.commits = runP s.2 (p.commits.drop s.1)) (fun s => [⟨11, 0, [], .int .i64 (s.1 : Nat)⟩, ⟨0, 0, [], esV s.2⟩]) [1, 5] (fun s => [.box (pgE p)]) (fun s => p.commits.length - s.1) (0, t) ⟨Nat.zero_le _, g, ok, rfl⟩ (fun _ => (Nat.zero_le _)) byC (fun s hI2 => ?_)
        simp only [go_sem]
        refine cx_seq ?_
        refine cx_sr ?_
        simp only [go_sem]
        repeat first | (with_reducible refine side_d ?_ ?_; exact byD) | (with_reducible refine side_q ?_ ?_; exact byQ)
        intro t86 e86
        subst e86
        refine cx_if _ rfl (fun h86 => ?_) (fun h86 => ?_)
        ·
         (try simp only [go_sem] at h86)
         have hcc := okp.2.2 _ (getD_mem (l := p.commits) (i := s.1) (d := default) (by omega))
         have hrs := run_step (t := s.2) (l := p.commits) (i := s.1) (by omega)
         rw [allP_full hI2.2.1] at hrs
         have hgd := checkT_good hI2.2.2.1 (checkT_iff.2 hI2.2.1)
         refine cx_skip ?_
         (try simp only [go_sem])
         refine cx_seq (cx_block ?_)
         refine cx_seq (cx_draw mixed [] (.first 0 (.first 1 (.first 2 (.first 3 (.first 4 (.first 5 (.first 6 (.first 7 (.first 8 (.first 9 (.first 10 (.first 11 (.first 12 (.one 13 (.first 14 (.first 15 (.first 16 (.first 17 (.first 18 (.first 19 (.done))))))))))))))))))))) (by kernel_rfl) ?_)
         simp only [go_sem]
         repeat first | (with_reducible refine side_d ?_ ?_; exact byD) | (with_reducible refine side_q ?_ ?_; exact byQ)
         refine cwE_m (AllOf_c s.2 (p.commits.getD s.1 default).changes (p.commits.getD s.1 default).number hgd hcc.2) byW byT ?_
         simp only [go_sem]
         refine cx_sr ?_
         simp only [go_sem]
         intro t108 e108
         subst e108
         refine cx_if _ rfl (fun h108 => ?_) (fun h108 => ?_)
         ·
          (try simp only [go_sem] at h108)
          refine cx_sr ?_
          simp only [go_sem]
          refine cx_ret ?_
          simp only [go_sem]
          have h : (allR s.2 (p.commits.getD s.1 default).changes (p.commits.getD s.1 default).number).2.2 ≠ 0 := by simpa using h108
          rw [if_pos h] at hrs
          have hf : followP t cur p = ([], 0, (allR s.2 (p.commits.getD s.1 default).changes (p.commits.getD s.1 default).number).2.2) := by
            rw [hF2, hI2.2.2.2, hrs, if_pos h]
          rw [hf]
          exact finx_of 1 [] rfl byC byC byC byC
         ·
          (try simp only [go_sem] at h108)
          refine cx_skip ?_
          (try simp only [go_sem])
          refine cx_region ?_
          simp only [go_sem]
          intro t88 e88
          (try replace e88 := w64 e88 (by omega) (by omega))
          have h : (allR s.2 (p.commits.getD s.1 default).changes (p.commits.getD s.1 default).number).2.2 = 0 := by simpa using h108
          rw [if_neg (by simpa using h)] at hrs
          have hok : okE (allR s.2 (p.commits.getD s.1 default).changes (p.commits.getD s.1 default).number).1 := by
            have := allP_good (v := (p.commits.getD s.1 default).number) hI2.2.2.1 hcc.2 (by rw [allP_full hI2.2.1]; exact h)
            rw [allP_full hI2.2.1] at this
            exact this.ok
          refine rnd_next (s.1 + 1, (allR s.2 (p.commits.getD s.1 default).changes (p.commits.getD s.1 default).number).1) ⟨by dsimp only; omega, allR_full hI2.2.1 h, hok, by rw [hI2.2.2.2, hrs]⟩ (by first | omega | (dsimp only; omega)) ?_
          exact byC
        ·
         (try simp only [go_sem] at h86)
         refine cx_exit ?_
         simp only [go_sem]
         refine cx_sr ?_
         simp only [go_sem]
         refine cx_ret ?_
         simp only [go_sem]
         have hi2 : s.1 = p.commits.length := by omega
         have hr : runP t p.commits = (s.2, 0) := by rw [hI2.2.2.2, hi2, List.drop_length, runP]
         have hcu2 : cur + (i : Nat) = p.cursor := by omega
         have hf : followP t cur p = (s.2, p.cursor, 0) := by rw [hF2, hr]; rfl
         rw [hf, hcu2]
         exact finx_of 1 [] rfl byC byC byC byC
end Go.VM.Tryd
end
