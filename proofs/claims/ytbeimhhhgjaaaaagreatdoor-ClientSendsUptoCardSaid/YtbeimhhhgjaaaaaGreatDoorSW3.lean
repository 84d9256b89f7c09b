import Derived.Test.YtbeimhhhgjaaaaaGreatDoorSW1
import Derived.Test.YtbeimhhhgjaaaaaGreatDoorSW2
section
set_option maxHeartbeats 4000000
set_option linter.unusedVariables false
set_option linter.unusedSimpArgs false
open Go Go.VM
namespace Tether
def step1E (x : Entry) (s : List Entry × Bool) (e : Entry) : List Entry × Bool := if s.2 = false ∧ ¬ e.path < x.path then (s.1 ++ [x], true) else s
def putStepE (x : Entry) (s : List Entry × Bool) (e : Entry) : List Entry × Bool := if ¬ e.path = x.path then ((step1E x s e).1 ++ [e], (step1E x s e).2) else step1E x s e
def putSE (l : List Entry) (x : Entry) (i : Nat) : List Entry × Bool := (l.take i).foldl (putStepE x) ([], false)
theorem putSE_next {l : List Entry} {x : Entry} {i : Nat} (hi : i < l.length) : putSE l x (i + 1) = putStepE x (putSE l x i) (l.getD i default) := foldl_take _ _ _ _ hi
theorem putSE_len (l : List Entry) (x : Entry) (i : Nat) : (putSE l x i).1.length ≤ 2 * i := by
  have key : ∀ (m : List Entry) (s : List Entry × Bool), (m.foldl (putStepE x) s).1.length ≤ s.1.length + 2 * m.length := by
    intro m
    induction m with
    | nil => intro s; simp
    | cons e m ih =>
      intro s
      rw [List.foldl_cons]
      refine Nat.le_trans (ih _) ?_
      have : (putStepE x s e).1.length ≤ s.1.length + 2 := by
        unfold putStepE step1E
        split <;> split <;> simp
      simp; omega
  have := key (l.take i) ([], false)
  simp at this
  unfold putSE
  omega
def refPutE (l : List Entry) (x : Entry) : List Entry := if (putSE l x l.length).2 = false then (putSE l x l.length).1 ++ [x] else (putSE l x l.length).1
theorem foldE_ahead {x : Entry} {b : Bool} : ∀ (l o : List Entry), (∀ e ∈ l, e.path < x.path) → l.foldl (putStepE x) (o, b) = (o ++ l, b)
  | [], o, _ => by simp
  | e :: l, o, h => by
    have h1 := h e (by simp)
    have h2 : putStepE x (o, b) e = (o ++ [e], b) := by
      have hne : ¬ e.path = x.path := fun k => lt_irrefl' _ (k ▸ h1)
      simp [putStepE, step1E, hne, h1]
    rw [List.foldl_cons, h2, foldE_ahead l _ fun y hy => h y (by simp [hy])]
    simp
theorem foldE_behind {x : Entry} : ∀ (l o : List Entry), (∀ e ∈ l, x.path < e.path) → l.foldl (putStepE x) (o, true) = (o ++ l, true)
  | [], o, _ => by simp
  | e :: l, o, h => by
    have h1 := h e (by simp)
    have h2 : putStepE x (o, true) e = (o ++ [e], true) := by
      have hne : ¬ e.path = x.path := fun k => lt_irrefl' _ (k ▸ h1)
      simp [putStepE, step1E, hne]
    rw [List.foldl_cons, h2, foldE_behind l _ fun y hy => h y (by simp [hy])]
    simp
theorem refPutE_eq {l : List Entry} (hs : SortedE l) (x : Entry) : refPutE l x = putE l x := by
  have hle := eIx_le l x.path
  have hsplit : l = l.take (eIx l x.path) ++ l.drop (eIx l x.path) := (List.take_append_drop _ _).symm
  have hA := foldE_ahead (x := x) (b := false) (l.take (eIx l x.path)) [] fun e he => take_lt he
  have hfull : putSE l x l.length = (l.drop (eIx l x.path)).foldl (putStepE x) (l.take (eIx l x.path), false) := by
    unfold putSE
    rw [List.take_length]
    conv => lhs; rw [hsplit]
    rw [List.foldl_append, hA]
    simp
  rw [putE_eq]
  unfold refPutE
  rcases Nat.lt_or_ge (eIx l x.path) l.length with hlt | hge
  · have hd := List.drop_eq_getElem_cons hlt
    have hnl : ¬ (l[eIx l x.path]).path < x.path := by
      have := eIx_ge hs (Nat.le_refl _) hlt
      simpa [List.getD, hlt] using this
    have hs1 : step1E x (l.take (eIx l x.path), false) l[eIx l x.path] = (l.take (eIx l x.path) ++ [x], true) := by simp [step1E, hnl]
    by_cases hh : hasE l x.path = true
    · have hp : (l[eIx l x.path]).path = x.path := by
        simp only [hasE, Bool.and_eq_true, decide_eq_true_eq] at hh
        have := hh.2
        simpa [List.getD, hlt] using this
      have hst : putStepE x (l.take (eIx l x.path), false) l[eIx l x.path] = (l.take (eIx l x.path) ++ [x], true) := by rw [putStepE, if_neg (by simp [hp]), hs1]
      have hb := foldE_behind (x := x) (l.drop (eIx l x.path + 1)) (l.take (eIx l x.path) ++ [x]) fun e he => drop_gt hs (by rw [if_pos hh]; exact he)
      rw [hfull, hd, List.foldl_cons, hst, hb, if_neg (by simp), if_pos hh]
      simp
    · have hp : ¬ (l[eIx l x.path]).path = x.path := fun e => hh ((hasE_iff hs).2 ⟨_, List.getElem_mem hlt, e⟩)
      have hst : putStepE x (l.take (eIx l x.path), false) l[eIx l x.path] = (l.take (eIx l x.path) ++ [x] ++ [l[eIx l x.path]], true) := by rw [putStepE, if_pos hp, hs1]
      have hb := foldE_behind (x := x) (l.drop (eIx l x.path + 1)) (l.take (eIx l x.path) ++ [x] ++ [l[eIx l x.path]]) fun e he => drop_gt hs (by rw [if_neg hh, hd]; exact List.mem_cons_of_mem _ he)
      rw [hfull, hd, List.foldl_cons, hst, hb, if_neg (by simp), if_neg hh, hd]
      simp
  · have hk : eIx l x.path = l.length := by omega
    have hh : ¬ hasE l x.path = true := by simp [hasE, hk]
    rw [hfull, if_neg hh, hk]
    simp
end Tether
end
section
set_option maxHeartbeats 4000000
set_option linter.unusedVariables false
set_option linter.unusedSimpArgs false
open Go Go.VM Go.Proofs Tether
namespace Go.VM.Tryz
set_option maxRecDepth 100000
theorem PutEntry0_c (l : List Entry) (x : Entry) (hl : l.length ≤ 1048576) : Meets Tryz.prog 68 [esV l, .agg x.enc] (.own none 0 4 0 (refPutE l x).length .loose) [.arr 4 (refPutE l x).length (En Entry.enc default (refPutE l x))] := by
  refine meets_x (fn := Tryz.f68) Tryz.func68 rfl fb68 (by kernel_rfl) (Nat.le_of_ble_eq_true rfl) ?_
  refine cx_sr ?_
  simp only [go_sem]
  repeat first | (with_reducible refine side_d ?_ ?_; exact byD) | (with_reducible refine side_q ?_ ?_; exact byQ)
  refine cx_sr ?_
  simp only [go_sem]
  refine cx_virt 5 4 (En Entry.enc default []) rfl ?_
  refine cx_sr ?_
  simp only [go_sem]
  refine cx_seq ?_
  refine cx_sr ?_
  simp only [go_sem]
  refine cx_block ?_
  refine cx_loopk (σ := Nat) (fun i => i ≤ l.length) (fun i => [⟨7, 0, [], .int .i64 (i : Nat)⟩, ⟨5, 0, [], .own none 1 4 0 (putSE l x i).1.length .loose⟩, ⟨6, 0, [], .bool (putSE l x i).2⟩]) [0, 3, 4] (fun i => [.box x.enc, .arr 4 (putSE l x i).1.length (En Entry.enc default (putSE l x i).1)]) (fun i => l.length - i) 0 (by first | trivial | omega | simp) (fun _ => (Nat.zero_le _)) byC (fun i hI1 => ?_)
  simp only [go_sem]
  have hwl := putSE_len l x i
  refine cx_seq ?_
  refine cx_sr ?_
  simp only [go_sem]
  repeat first | (with_reducible refine side_d ?_ ?_; exact byD) | (with_reducible refine side_q ?_ ?_; exact byQ)
  intro t11 e11
  subst e11
  refine cx_if _ rfl (fun h11 => ?_) (fun h11 => ?_)
  ·
   (try simp only [go_sem] at h11)
   refine cx_skip ?_
   (try simp only [go_sem])
   refine cx_seq (cx_block ?_)
   refine cx_seq ?_
   refine cx_seq (cx_draw mixed [] (.first 0 (.first 1 (.first 2 (.first 3 (.first 4 (.first 5 (.first 6 (.first 7 (.first 8 (.first 9 (.first 10 (.first 11 (.done))))))))))))) (by kernel_rfl) ?_)
   simp only [go_sem]
   intro t15 e15
   repeat first | (with_reducible refine side_d ?_ ?_; exact byD) | (with_reducible refine side_q ?_ ?_; exact byQ)
   intro t24 e24
   intro t25 e25
   rw [bsel_and] at e25
   subst e15 e24 e25
   refine cx_meet (σ := List Entry × Bool) (fun m => m = step1E x (putSE l x i) (l.getD i default) ∧ m.1.length ≤ 2 * i + 1) (fun m => [⟨5, 0, [], .own none 1 4 0 m.1.length .loose⟩, ⟨6, 0, [], .bool m.2⟩]) [0, 3, 4, 7] (fun m => [.box x.enc, .arr 4 m.1.length (En Entry.enc default m.1)]) (fun _ => (Nat.zero_le _)) ?_ (fun m hIM1 => ?_)
   ·
    refine cx_if _ rfl (fun h25 => ?_) (fun h25 => ?_)
    ·
     (try simp only [go_sem] at h25)
     refine cx_sr ?_
     simp only [go_sem]
     repeat first | (with_reducible refine side_d ?_ ?_; exact byD) | (with_reducible refine side_q ?_ ?_; exact byQ)
     refine cx_region ?_
     simp only [go_sem]
     have hs1 : step1E x (putSE l x i) (l.getD i default) = ((putSE l x i).1 ++ [x], true) := by
       rw [step1E, if_pos]
       rw [← blt_iff]
       grind
     refine mt_nextr ((putSE l x i).1 ++ [x], true) [0, 3] ⟨hs1.symm, by simp; omega⟩ ⟨rfl, rfl, ?_, ?_⟩
     · exact byC
     · skip
       simp only [go_sem, wk, wks, wkB, wkH, List.length_append, List.length_cons, List.length_nil]
       first | exact fun q hq => wks_mp_snoc (fun x => rnVs_no _ rfl) (by rfl) hq | (and_intros <;> first | trivial | rfl | omega | (exact fun q hq => wks_mp_snoc (fun x => rnVs_no _ rfl) (by rfl) hq) | exact wks_refl _ | exact byC)
    ·
     (try simp only [go_sem] at h25)
     refine cx_skip ?_
     (try simp only [go_sem])
     have hs1 : step1E x (putSE l x i) (l.getD i default) = putSE l x i := by
       rw [step1E, if_neg]
       rw [← blt_iff]
       grind
     refine mt_next (putSE l x i) ⟨hs1.symm, by omega⟩ byC
   simp only [go_sem]
   refine cx_seq (cx_draw mixed [] (.first 0 (.first 1 (.first 2 (.first 3 (.first 4 (.first 5 (.first 6 (.first 7 (.done))))))))) (by kernel_rfl) ?_)
   simp only [go_sem]
   repeat first | (with_reducible refine side_d ?_ ?_; exact byD) | (with_reducible refine side_q ?_ ?_; exact byQ)
   intro t37 e37
   subst e37
   refine cx_if _ rfl (fun h37 => ?_) (fun h37 => ?_)
   ·
    (try simp only [go_sem] at h37)
    have hp := putSE_next (l := l) (x := x) (i := i) (by omega)
    rw [putStepE, if_pos (by simpa using h37), ← hIM1.1] at hp
    refine cx_region ?_
    simp only [go_sem]
    repeat first | (with_reducible refine side_d ?_ ?_; exact byD) | (with_reducible refine side_q ?_ ?_; exact byQ)
    refine cx_region ?_
    simp only [go_sem]
    intro t13 e13
    (try replace e13 := w64 e13 (by omega) (by omega))
    refine rnd_nextr (i + 1) [0, 3] (by omega) (by first | omega | (dsimp only; omega)) ⟨rfl, rfl, ?_, ?_⟩
    · (try rw [hp]); exact byC
    · rw [hp]; skip
      simp only [go_sem, wk, wks, wkB, wkH, List.length_append, List.length_cons, List.length_nil]
      first | exact fun q hq => wks_mp_snoc (fun x => rnVs_no _ rfl) (by rfl) hq | (and_intros <;> first | trivial | rfl | omega | (exact fun q hq => wks_mp_snoc (fun x => rnVs_no _ rfl) (by rfl) hq) | exact wks_refl _ | exact byC)
   ·
    (try simp only [go_sem] at h37)
    have hp := putSE_next (l := l) (x := x) (i := i) (by omega)
    rw [putStepE, if_neg (by simpa using h37), ← hIM1.1] at hp
    refine cx_skip ?_
    (try simp only [go_sem])
    refine cx_region ?_
    simp only [go_sem]
    intro t13 e13
    (try replace e13 := w64 e13 (by omega) (by omega))
    refine rnd_next (i + 1) (by omega) (by first | omega | (dsimp only; omega)) ?_
    rw [hp]
    exact byC
  ·
   (try simp only [go_sem] at h11)
   refine cx_exit ?_
   simp only [go_sem]
   refine cx_seq ?_
   refine cx_sr ?_
   simp only [go_sem]
   intro t46 e46
   subst e46
   refine cx_if _ rfl (fun h46 => ?_) (fun h46 => ?_)
   ·
    (try simp only [go_sem] at h46)
    refine cx_region ?_
    simp only [go_sem]
    repeat first | (with_reducible refine side_d ?_ ?_; exact byD) | (with_reducible refine side_q ?_ ?_; exact byQ)
    refine cx_sr ?_
    simp only [go_sem]
    refine cx_ret ?_
    simp only [go_sem]
    have hi : i = l.length := by omega
    have hput : refPutE l x = (putSE l x i).1 ++ [x] := by rw [refPutE, ← hi]; exact if_pos (by simpa using h46)
    rw [hput]
    refine finx_w (.own none 3 4 0 ((putSE l x i).1 ++ [x]).length .loose) [.dead, .dead, .dead, .arr 4 ((putSE l x i).1 ++ [x]).length (En Entry.enc default ((putSE l x i).1 ++ [x]))] ?_ ?_ ?_
    · exact byC
    · simp only [go_sem, wkB, wkH, List.length_append, List.length_cons, List.length_nil]
      exact fun q hq => wks_En_snoc (x := x) (by exact wks_refl _) hq
    · exact finx_of 1 [3] rfl byC byC byC byC
   ·
    (try simp only [go_sem] at h46)
    refine cx_skip ?_
    (try simp only [go_sem])
    refine cx_sr ?_
    simp only [go_sem]
    refine cx_ret ?_
    simp only [go_sem]
    have hi : i = l.length := by omega
    have hput : refPutE l x = (putSE l x i).1 := by rw [refPutE, ← hi]; exact if_neg (by simpa using h46)
    rw [hput]
    exact finx_of 1 [1] rfl byC byC byC byC
theorem PutEntry_c (l : List Entry) (x : Entry) (hl : l.length ≤ 1048576) (hs : SortedE l) : Meets Tryz.prog 68 [esV l, .agg x.enc] (.own none 0 4 0 (putE l x).length .loose) [.arr 4 (putE l x).length (En Entry.enc default (putE l x))] := by
  have h := PutEntry0_c l x hl
  rwa [refPutE_eq hs] at h
end Go.VM.Tryz
end
section
set_option maxHeartbeats 4000000
set_option linter.unusedVariables false
set_option linter.unusedSimpArgs false
open Go Go.VM Go.Proofs Tether
namespace Go.VM.Tryz
set_option maxRecDepth 100000
set_option maxHeartbeats 4000000
theorem ChangeForm_c (c : Change) (ok : okC c) : Meets Tryz.prog 66 [.agg c.enc] (.int .i64 (formP c)) [] := by
  refine meets_x (fn := Tryz.f66) Tryz.func66 rfl fb66 (by kernel_rfl) (Nat.le_of_ble_eq_true rfl) ?_
  obtain ⟨ok1, ok2, ok3⟩ := ok
  refine cx_sr ?_
  simp only [go_sem]
  repeat first | (with_reducible refine side_d ?_ ?_; exact byD) | (with_reducible refine side_q ?_ ?_; exact byQ)
  refine cx_seq ?_
  refine cx_sr ?_
  simp only [go_sem]
  intro t6 e6
  intro t10 e10
  intro t11 e11
  rw [bsel_or] at e11
  subst e6 e10 e11
  refine cx_if _ rfl (fun h11 => ?_) (fun h11 => ?_)
  ·
   (try simp only [go_sem] at h11)
   refine cx_sr ?_
   simp only [go_sem]
   refine cx_ret ?_
   simp only [go_sem]
   refine finw_int ?_
   unfold formP
   grind
  ·
   (try simp only [go_sem] at h11)
   refine cx_skip ?_
   (try simp only [go_sem])
   refine cx_sr ?_
   simp only [go_sem]
   refine cw_m (CheckPath_c c.path (by omega)) byW byT ?_
   simp only [go_sem]
   refine cx_seq ?_
   refine cx_sr ?_
   simp only [go_sem]
   intro t16 e16
   intro t20 e20
   intro t21 e21
   rw [bsel_and] at e21
   subst e16 e20 e21
   refine cx_if _ rfl (fun h21 => ?_) (fun h21 => ?_)
   ·
    (try simp only [go_sem] at h21)
    refine cx_region ?_
    simp only [go_sem]
    refine cw_m (CheckPath_c c.to (by omega)) byW byT ?_
    simp only [go_sem]
    refine cx_seq (cx_block ?_)
    refine cx_sr ?_
    simp only [go_sem]
    intro t27 e27
    subst e27
    refine cx_if _ rfl (fun h25 => ?_) (fun h25 => ?_)
    ·
     (try simp only [go_sem] at h25)
     refine cx_sr ?_
     simp only [go_sem]
     refine cx_ret ?_
     simp only [go_sem]
     refine finw_int ?_
     unfold formP
     grind
    ·
     (try simp only [go_sem] at h25)
     refine cx_seq ?_
     refine cx_sr ?_
     simp only [go_sem]
     intro t32 e32
     intro t36 e36
     intro t37 e37
     rw [bsel_and] at e37
     subst e32 e36 e37
     refine cx_if _ rfl (fun h29 => ?_) (fun h29 => ?_)
     ·
      (try simp only [go_sem] at h29)
      refine cx_skip ?_
      (try simp only [go_sem])
      refine cx_if _ rfl (fun h29b => ?_) (fun h29b => no_if h29b)
      refine cx_sr ?_
      simp only [go_sem]
      refine cx_ret ?_
      simp only [go_sem]
      refine finw_int ?_
      unfold formP
      grind
     ·
      (try simp only [go_sem] at h29)
      refine cx_region ?_
      simp only [go_sem]
      intro t40 e40
      intro t44 e44
      intro t45 e45
      rw [bsel_and] at e45
      subst e40 e44 e45
      refine cx_if _ rfl (fun h29b => ?_) (fun h29b => ?_)
      ·
       (try simp only [go_sem] at h29b)
       refine cx_sr ?_
       simp only [go_sem]
       refine cx_ret ?_
       simp only [go_sem]
       refine finw_int ?_
       unfold formP
       grind
      ·
       (try simp only [go_sem] at h29b)
       refine cx_sr ?_
       simp only [go_sem]
       intro t50 e50
       subst e50
       refine cx_if _ rfl (fun h46 => ?_) (fun h46 => ?_)
       ·
        (try simp only [go_sem] at h46)
        refine cx_sr ?_
        simp only [go_sem]
        refine cx_ret ?_
        simp only [go_sem]
        refine finw_int ?_
        unfold formP
        grind
       ·
        (try simp only [go_sem] at h46)
        refine cx_sr ?_
        simp only [go_sem]
        intro t54 e54
        intro t58 e58
        intro t59 e59
        rw [bsel_or] at e59
        subst e54 e58 e59
        refine cx_if _ rfl (fun h51 => ?_) (fun h51 => ?_)
        ·
         (try simp only [go_sem] at h51)
         refine cx_sr ?_
         simp only [go_sem]
         refine cx_ret ?_
         simp only [go_sem]
         refine finw_int ?_
         unfold formP
         grind
        ·
         (try simp only [go_sem] at h51)
         refine cx_skip ?_
         (try simp only [go_sem])
         refine cx_sr ?_
         simp only [go_sem]
         refine cx_ret ?_
         simp only [go_sem]
         refine finw_int ?_
         unfold formP
         grind
   ·
    (try simp only [go_sem] at h21)
    refine cx_skip ?_
    (try simp only [go_sem])
    refine cx_seq (cx_block ?_)
    refine cx_sr ?_
    simp only [go_sem]
    intro t27 e27
    subst e27
    refine cx_if _ rfl (fun h25 => ?_) (fun h25 => ?_)
    ·
     (try simp only [go_sem] at h25)
     refine cx_sr ?_
     simp only [go_sem]
     refine cx_ret ?_
     simp only [go_sem]
     refine finw_int ?_
     unfold formP
     grind
    ·
     (try simp only [go_sem] at h25)
     refine cx_seq ?_
     refine cx_sr ?_
     simp only [go_sem]
     intro t32 e32
     intro t36 e36
     intro t37 e37
     rw [bsel_and] at e37
     subst e32 e36 e37
     refine cx_if _ rfl (fun h29 => ?_) (fun h29 => ?_)
     ·
      (try simp only [go_sem] at h29)
      refine cx_skip ?_
      (try simp only [go_sem])
      refine cx_if _ rfl (fun h29b => ?_) (fun h29b => no_if h29b)
      refine cx_sr ?_
      simp only [go_sem]
      refine cx_ret ?_
      simp only [go_sem]
      refine finw_int ?_
      unfold formP
      grind
     ·
      (try simp only [go_sem] at h29)
      refine cx_region ?_
      simp only [go_sem]
      intro t40 e40
      intro t44 e44
      intro t45 e45
      rw [bsel_and] at e45
      subst e40 e44 e45
      refine cx_if _ rfl (fun h29b => ?_) (fun h29b => ?_)
      ·
       (try simp only [go_sem] at h29b)
       refine cx_sr ?_
       simp only [go_sem]
       refine cx_ret ?_
       simp only [go_sem]
       refine finw_int ?_
       unfold formP
       grind
      ·
       (try simp only [go_sem] at h29b)
       refine cx_sr ?_
       simp only [go_sem]
       intro t50 e50
       subst e50
       refine cx_if _ rfl (fun h46 => ?_) (fun h46 => ?_)
       ·
        (try simp only [go_sem] at h46)
        refine cx_sr ?_
        simp only [go_sem]
        refine cx_ret ?_
        simp only [go_sem]
        refine finw_int ?_
        unfold formP
        grind
       ·
        (try simp only [go_sem] at h46)
        refine cx_sr ?_
        simp only [go_sem]
        intro t54 e54
        intro t58 e58
        intro t59 e59
        rw [bsel_or] at e59
        subst e54 e58 e59
        refine cx_if _ rfl (fun h51 => ?_) (fun h51 => ?_)
        ·
         (try simp only [go_sem] at h51)
         refine cx_sr ?_
         simp only [go_sem]
         refine cx_ret ?_
         simp only [go_sem]
         refine finw_int ?_
         unfold formP
         grind
        ·
         (try simp only [go_sem] at h51)
         refine cx_skip ?_
         (try simp only [go_sem])
         refine cx_sr ?_
         simp only [go_sem]
         refine cx_ret ?_
         simp only [go_sem]
         refine finw_int ?_
         unfold formP
         grind
/-- whether something is at a path, by the document -/
theorem at_has {l : List Entry} (hs : SortedE l) (p : Str) : (idxF (isAt p) l = -1 ∧ hasE l p = false) ∨ (idxF (isAt p) l = (eIx l p : Nat) ∧ hasE l p = true ∧ eIx l p < l.length) := by
  by_cases hh : hasE l p = true
  · right
    have hlt : eIx l p < l.length := by simp [hasE] at hh; exact hh.1
    rcases find_idx l p with ⟨_, h2⟩ | ⟨i, h1, h2, h3⟩
    · rw [findE_eq hs, if_pos hh] at h2
      cases h2
    · refine ⟨?_, hh, hlt⟩
      rw [h1]
      have hp := (findE_some h3).2
      have hp2 : (l.getD (eIx l p) default).path = p := by simp only [hasE, Bool.and_eq_true, decide_eq_true_eq] at hh; exact hh.2
      have h4 : (l[i]'h2).path = (l[eIx l p]'hlt).path := by
        have e1 : l.getD i default = l[i] := by simp [List.getD, h2]
        have e2 : l.getD (eIx l p) default = l[eIx l p] := by simp [List.getD, hlt]
        rw [← e1, ← e2, hp, hp2]
      rw [sorted_inj hs h2 hlt h4]
  · left
    refine ⟨?_, by simpa using hh⟩
    rcases find_idx l p with ⟨h1, _⟩ | ⟨i, h1, h2, h3⟩
    · exact h1
    · rw [findE_eq hs, if_neg hh] at h3
      cases h3
theorem form_base {c : Change} (h : formP c = 0) : -1 ≤ c.base := by
  unfold formP at h
  grind
theorem form_kind {c : Change} (h : formP c = 0) : 1 ≤ c.kind ∧ c.kind ≤ 4 := by
  unfold formP at h
  grind
theorem filter_snoc {l : List Entry} {p : Entry → Bool} {i : Nat} (h : i < l.length) : (l.take (i + 1)).filter p = if p (l.getD i default) = true then (l.take i).filter p ++ [l.getD i default] else (l.take i).filter p := by
  have hd : l.getD i default = l[i] := by simp [List.getD, h]
  rw [hd, List.take_add_one, List.getElem?_eq_getElem h, List.filter_append]
  by_cases hb : p l[i] = true
  · rw [if_pos hb]; simp [hb]
  · rw [if_neg hb]; simp [hb]
theorem ChangeOf_c (l : List Entry) (c : Change) (v : Int) (g : GoodT l) (ok : okC c) : Meets Tryz.prog 41 [esV l, .agg c.enc, .int .i64 v]
    (.tup [.own none 0 4 0 (rawP l c v).length .loose, .int .i64 (rawErr l c v)]) [.arr 4 (rawP l c v).length (En Entry.enc default (rawP l c v))] := by
  refine meets_x (fn := Tryz.f41) Tryz.func41 rfl fb41 (by kernel_rfl) (Nat.le_of_ble_eq_true rfl) ?_
  have hl := g.ok.1
  have hl2 := g.paths.1
  have hs := g.sorted
  obtain ⟨ok1, ok2, ok3⟩ := id ok
  have hgl : (goalP c).length ≤ 1048576 := by unfold goalP; split <;> omega
  have hah := at_has hs
  refine cx_sr ?_
  simp only [go_sem]
  repeat first | (with_reducible refine side_d ?_ ?_; exact byD) | (with_reducible refine side_q ?_ ?_; exact byQ)
  refine cx_sr ?_
  simp only [go_sem]
  refine cw_m (ChangeForm_c c ok) byW byT ?_
  simp only [go_sem]
  refine cx_seq ?_
  refine cx_sr ?_
  simp only [go_sem]
  intro t19 e19
  subst e19
  refine cx_if _ rfl (fun h19 => ?_) (fun h19 => ?_)
  ·
   (try simp only [go_sem] at h19)
   refine cx_sr ?_
   simp only [go_sem]
   refine cx_virt 6 4 (En Entry.enc default []) rfl ?_
   simp only [go_sem]
   refine cx_ret ?_
   simp only [go_sem]
   have h1 : ¬ formP c = 0 := by simpa using h19
   have he : rawErr l c v = formP c := by rw [rawErr, if_pos h1]
   have hp : rawP l c v = [] := by rw [rawP, he, if_neg h1]
   rw [he, hp]
   exact finx_of 1 [1] rfl byC byC byC byC
  ·
   (try simp only [go_sem] at h19)
   have hF : formP c = 0 := by simpa using h19
   refine cx_skip ?_
   (try simp only [go_sem])
   refine cx_sr ?_
   simp only [go_sem]
   refine cx_seq ?_
   refine cx_sr ?_
   simp only [go_sem]
   intro t25 e25
   subst e25
   refine cx_meet0 (σ := Unit) (fun u => True) (fun u => [⟨9, 0, [], .str (goalP c)⟩]) [0, 2, 4, 6, 7] (Nat.zero_le _) ?_ (fun u hIM1 => ?_)
   ·
    refine cx_if _ rfl (fun h25 => ?_) (fun h25 => ?_)
    ·
     (try simp only [go_sem] at h25)
     refine cx_region ?_
     simp only [go_sem]
     have hk : c.kind = 3 := by simpa using h25
     refine mt_next () trivial ?_
     rw [goalP, if_pos hk]
     exact byC
    ·
     (try simp only [go_sem] at h25)
     refine cx_skip ?_
     (try simp only [go_sem])
     have hk : ¬ c.kind = 3 := by simpa using h25
     refine mt_next () trivial ?_
     rw [goalP, if_neg hk]
     exact byC
   simp only [go_sem]
   refine cx_sr ?_
   simp only [go_sem]
   repeat first | (with_reducible refine side_d ?_ ?_; exact byD) | (with_reducible refine side_q ?_ ?_; exact byQ)
   refine cw_m (ParentOf2_c (goalP c) (by omega)) byW byT ?_
   simp only [go_sem]
   refine cw_m (IsFolder_c l (headOf (goalP c)) (by omega)) byW byT ?_
   simp only [go_sem]
   refine cx_seq ?_
   refine cx_sr ?_
   simp only [go_sem]
   intro t33 e33
   subst e33
   refine cx_if _ rfl (fun h33 => ?_) (fun h33 => ?_)
   ·
    (try simp only [go_sem] at h33)
    refine cx_sr ?_
    simp only [go_sem]
    refine cx_virt 6 4 (En Entry.enc default []) rfl ?_
    simp only [go_sem]
    refine cx_ret ?_
    simp only [go_sem]
    have hm : mayP l c = isFolderP l (headOf (goalP c)) := by
      rw [isFolder_par hs] at h33 ⊢
      unfold mayP
      grind
    have he : rawErr l c v = isFolderP l (headOf (goalP c)) := by rw [rawErr, if_neg (by simpa using hF), if_pos (by rw [hm]; simpa using h33), hm]
    have hp : rawP l c v = [] := by rw [rawP, he, if_neg (by simpa using h33)]
    rw [he, hp]
    exact finx_of 1 [1] rfl byC byC byC byC
   ·
    (try simp only [go_sem] at h33)
    refine cx_skip ?_
    (try simp only [go_sem])
    refine cx_sr ?_
    simp only [go_sem]
    refine cw_m (EntryAt_c l c.path (by omega)) byW byT ?_
    simp only [go_sem]
    refine cx_seq (cx_block ?_)
    refine cx_sr ?_
    simp only [go_sem]
    intro t42 e42
    intro t45 e45
    intro t46 e46
    rw [bsel_and] at e46
    subst e42 e45 e46
    refine cx_if _ rfl (fun h39 => ?_) (fun h39 => ?_)
    ·
     (try simp only [go_sem] at h39)
     refine cx_sr ?_
     simp only [go_sem]
     refine cx_virt 6 4 (En Entry.enc default []) rfl ?_
     simp only [go_sem]
     refine cx_ret ?_
     simp only [go_sem]
     have hm : mayP l c = 6 := by
       have q2 := hah c.to
       have q9 := form_kind hF
       rw [isFolder_par hs] at h33
       unfold mayP
       rcases hah c.path with ⟨a1, a2⟩ | ⟨a1, a2, a3⟩ <;> (try simp only [a1, Int.toNat_natCast] at h47) <;> grind
     have he : rawErr l c v = 6 := by rw [rawErr, if_neg (by simpa using hF), if_pos (by rw [hm]; decide), hm]
     have hp : rawP l c v = [] := by rw [rawP, he, if_neg (by decide)]
     rw [he, hp]
     exact finx_of 1 [1] rfl byC byC byC byC
    ·
     (try simp only [go_sem] at h39)
     refine cx_sr ?_
     simp only [go_sem]
     intro t50 e50
     intro t53 e53
     intro t54 e54
     rw [bsel_and] at e54
     repeat ((with_reducible first | refine side_d ?_ ?_ | refine side_q ?_ ?_); focus (first | exact byD | exact byQ | ((refine Sd.of fun hp => ?_; simp only [pc, and_true] at hp; (have hq := hah c.path); grind))))
     repeat first | (with_reducible refine side_d ?_ ?_; exact byD) | (with_reducible refine side_q ?_ ?_; exact byQ)
     intro t61 e61
     rw [bsel_and] at e61
     subst e50 e53 e54 e61
     refine cx_if _ rfl (fun h47 => ?_) (fun h47 => ?_)
     ·
      (try simp only [go_sem] at h47)
      refine cx_sr ?_
      simp only [go_sem]
      refine cx_virt 6 4 (En Entry.enc default []) rfl ?_
      simp only [go_sem]
      refine cx_ret ?_
      simp only [go_sem]
      have hm : mayP l c = 4 := by
        have q2 := hah c.to
        have q9 := form_kind hF
        rw [isFolder_par hs] at h33
        unfold mayP
        rcases hah c.path with ⟨a1, a2⟩ | ⟨a1, a2, a3⟩ <;> (try simp only [a1, Int.toNat_natCast] at h47) <;> grind
      have he : rawErr l c v = 4 := by rw [rawErr, if_neg (by simpa using hF), if_pos (by rw [hm]; decide), hm]
      have hp : rawP l c v = [] := by rw [rawP, he, if_neg (by decide)]
      rw [he, hp]
      exact finx_of 1 [1] rfl byC byC byC byC
     ·
      (try simp only [go_sem] at h47)
      refine cx_sr ?_
      simp only [go_sem]
      intro t65 e65
      intro t68 e68
      intro t69 e69
      rw [bsel_and] at e69
      subst e65 e68 e69
      refine cx_if _ rfl (fun h62 => ?_) (fun h62 => ?_)
      ·
       (try simp only [go_sem] at h62)
       refine cx_sr ?_
       simp only [go_sem]
       refine cx_virt 6 4 (En Entry.enc default []) rfl ?_
       simp only [go_sem]
       refine cx_ret ?_
       simp only [go_sem]
       have hm : mayP l c = 5 := by
         have q2 := hah c.to
         have q9 := form_kind hF
         rw [isFolder_par hs] at h33
         unfold mayP
         rcases hah c.path with ⟨a1, a2⟩ | ⟨a1, a2, a3⟩ <;> (try simp only [a1, Int.toNat_natCast] at h47) <;> grind
       have he : rawErr l c v = 5 := by rw [rawErr, if_neg (by simpa using hF), if_pos (by rw [hm]; decide), hm]
       have hp : rawP l c v = [] := by rw [rawP, he, if_neg (by decide)]
       rw [he, hp]
       exact finx_of 1 [1] rfl byC byC byC byC
      ·
       (try simp only [go_sem] at h62)
       refine cx_sr ?_
       simp only [go_sem]
       intro t73 e73
       refine ⟨_, fun hp => cw_m (IsIn2_c c.to c.path (by omega) (by omega)) byW byT ⟨rfl, rfl⟩, ?_⟩
       simp only [go_sem]
       intro t80 e80
       rw [bsel_and] at e80
       subst e73 e80
       refine cx_if _ rfl (fun h70 => ?_) (fun h70 => ?_)
       ·
        (try simp only [go_sem] at h70)
        refine cx_sr ?_
        simp only [go_sem]
        refine cx_virt 6 4 (En Entry.enc default []) rfl ?_
        simp only [go_sem]
        refine cx_ret ?_
        simp only [go_sem]
        have hm : mayP l c = 3 := by
          have q2 := hah c.to
          have q9 := form_kind hF
          rw [isFolder_par hs] at h33
          unfold mayP
          rcases hah c.path with ⟨a1, a2⟩ | ⟨a1, a2, a3⟩ <;> (try simp only [a1, Int.toNat_natCast] at h47) <;> grind
        have he : rawErr l c v = 3 := by rw [rawErr, if_neg (by simpa using hF), if_pos (by rw [hm]; decide), hm]
        have hp : rawP l c v = [] := by rw [rawP, he, if_neg (by decide)]
        rw [he, hp]
        exact finx_of 1 [1] rfl byC byC byC byC
       ·
        (try simp only [go_sem] at h70)
        refine cx_sr ?_
        simp only [go_sem]
        intro t84 e84
        refine ⟨_, fun hp => cw_m (EntryAt_c l c.to (by omega)) byW byT ⟨rfl, rfl⟩, ?_⟩
        simp only [go_sem]
        intro t90 e90
        intro t91 e91
        rw [bsel_and] at e91
        subst e84 e90 e91
        refine cx_if _ rfl (fun h81 => ?_) (fun h81 => ?_)
        ·
         (try simp only [go_sem] at h81)
         refine cx_sr ?_
         simp only [go_sem]
         refine cx_virt 6 4 (En Entry.enc default []) rfl ?_
         simp only [go_sem]
         refine cx_ret ?_
         simp only [go_sem]
         have hm : mayP l c = 6 := by
           have q2 := hah c.to
           have q9 := form_kind hF
           rw [isFolder_par hs] at h33
           unfold mayP
           rcases hah c.path with ⟨a1, a2⟩ | ⟨a1, a2, a3⟩ <;> (try simp only [a1, Int.toNat_natCast] at h47) <;> grind
         have he : rawErr l c v = 6 := by rw [rawErr, if_neg (by simpa using hF), if_pos (by rw [hm]; decide), hm]
         have hp : rawP l c v = [] := by rw [rawP, he, if_neg (by decide)]
         rw [he, hp]
         exact finx_of 1 [1] rfl byC byC byC byC
        ·
         (try simp only [go_sem] at h81)
         refine cx_skip ?_
         (try simp only [go_sem])
         refine cx_seq ?_
         refine cx_sr ?_
         simp only [go_sem]
         refine cx_block ?_
         refine cx_loop0 (σ := Nat) (fun i => i ≤ l.length ∧ ∀ j, j < i → staleB c (l.getD j default) = false) (fun i => [⟨11, 0, [], .int .i64 (i : Nat)⟩]) [0, 2, 4] (fun i => l.length - i) 0 ⟨Nat.zero_le _, fun j hj => absurd hj (Nat.not_lt_zero j)⟩ (Nat.zero_le _) byC (fun i hI1 => ?_)
         simp only [go_sem]
         refine cx_seq ?_
         refine cx_sr ?_
         simp only [go_sem]
         repeat first | (with_reducible refine side_d ?_ ?_; exact byD) | (with_reducible refine side_q ?_ ?_; exact byQ)
         intro t95 e95
         intro t99 e99
         intro t100 e100
         rw [bsel_and] at e100
         subst e95 e99 e100
         refine cx_if _ rfl (fun h100 => ?_) (fun h100 => ?_)
         ·
          (try simp only [go_sem] at h100)
          have hxp := checkP_len (g.paths.2 (l.getD i default) (getD_mem (by omega)))
          refine cx_skip ?_
          (try simp only [go_sem])
          refine cx_seq (cx_block ?_)
          refine cx_seq (cx_draw mixed [] (.first 0 (.first 1 (.first 2 (.first 3 (.first 4 (.first 5 (.first 6 (.one 7 (.first 8 (.first 9 (.first 10 (.first 11 (.first 12 (.first 13 (.first 14 (.first 15 (.first 16 (.first 17 (.done))))))))))))))))))) (by kernel_rfl) ?_)
          simp only [go_sem]
          repeat first | (with_reducible refine side_d ?_ ?_; exact byD) | (with_reducible refine side_q ?_ ?_; exact byQ)
          refine cwE_m (IsIn2_c (l.getD i default).path c.path (by omega) (by omega)) byW byT ?_
          simp only [go_sem]
          repeat first | (with_reducible refine side_d ?_ ?_; exact byD) | (with_reducible refine side_q ?_ ?_; exact byQ)
          intro t119 e119
          intro t120 e120
          rw [bsel_and] at e120
          subst e119 e120
          refine cx_if _ rfl (fun h120 => ?_) (fun h120 => ?_)
          ·
           (try simp only [go_sem] at h120)
           refine cx_sr ?_
           simp only [go_sem]
           refine cx_virt 6 4 (En Entry.enc default []) rfl ?_
           simp only [go_sem]
           refine cx_ret ?_
           simp only [go_sem]
           have hst : l.any (staleB c) = true := List.any_eq_true.2 ⟨l.getD i default, getD_mem (by grind), by unfold staleB; grind⟩
           have hm : mayP l c = 8 := by
             have q2 := hah c.to
             have q9 := form_kind hF
             rw [isFolder_par hs] at h33
             unfold mayP
             rcases hah c.path with ⟨a1, a2⟩ | ⟨a1, a2, a3⟩ <;> (try simp only [a1, Int.toNat_natCast] at h47) <;> grind
           have he : rawErr l c v = 8 := by rw [rawErr, if_neg (by simpa using hF), if_pos (by rw [hm]; decide), hm]
           have hp : rawP l c v = [] := by rw [rawP, he, if_neg (by decide)]
           rw [he, hp]
           exact finx_of 1 [1] rfl byC byC byC byC
          ·
           (try simp only [go_sem] at h120)
           refine cx_skip ?_
           (try simp only [go_sem])
           refine cx_region ?_
           simp only [go_sem]
           intro t102 e102
           (try replace e102 := w64 e102 (by omega) (by omega))
           have hst : staleB c (l.getD i default) = false := by unfold staleB; grind
           refine rnd_next (i + 1) ⟨by grind, all_next hI1.2 hst⟩ (by first | omega | (dsimp only; omega)) byC
         ·
          (try simp only [go_sem] at h100)
          have hM : mayP l c = 0 := by
            have q2 := hah c.to
            have q9 := form_kind hF
            have q3 := form_base hF
            have q4 : c.base ≠ -1 → l.any (staleB c) = false := by
              intro hb
              rw [List.any_eq_false]
              intro x hx
              obtain ⟨j, hj, rfl⟩ := List.getElem_of_mem hx
              have := hI1.2 j (by grind)
              have e1 : l.getD j default = l[j] := by simp [List.getD, hj]
              rw [e1] at this
              simp [this]
            rw [isFolder_par hs] at h33
            unfold mayP
            rcases hah c.path with ⟨a1, a2⟩ | ⟨a1, a2, a3⟩ <;> (try simp only [a1, Int.toNat_natCast] at h47) <;> grind
          refine cx_exit ?_
          simp only [go_sem]
          refine cx_sr ?_
          simp only [go_sem]
          refine cx_virt 12 4 (En Entry.enc default []) rfl ?_
          simp only [go_sem]
          refine cx_seq ?_
          refine cx_sr ?_
          simp only [go_sem]
          refine cx_meet (σ := Unit) (fun u => c.kind = 3 → greatG l c v = false) (fun u => [⟨12, 0, [], .own none 1 4 0 (madeP l c v).length .loose⟩]) [] (fun u => [.box c.enc, .arr 4 (madeP l c v).length (En Entry.enc default (madeP l c v))]) (fun _ => (Nat.zero_le _)) ?_ (fun u hIM2 => ?_)
          ·
           refine cx_block ?_
           refine cx_sr ?_
           simp only [go_sem]
           intro t199 e199
           subst e199
           refine cx_if _ rfl (fun h198 => ?_) (fun h198 => ?_)
           ·
            (try simp only [go_sem] at h198)
            refine cx_region ?_
            simp only [go_sem]
            refine cw_m (PutEntry_c l ⟨c.path, true, [], v⟩ hl hs) byW byT ?_
            simp only [go_sem]
            have hk : c.kind = 1 := by simpa using h198
            have hm : madeP l c v = putE l ⟨c.path, true, [], v⟩ := by rw [madeP, if_pos hk]
            refine mt_nextr () [0, 2] (by omega) ⟨rfl, rfl, ?_, ?_⟩
            · rw [hm]; exact byC
            · rw [hm]; exact byC
           ·
            (try simp only [go_sem] at h198)
            refine cx_sr ?_
            simp only [go_sem]
            intro t207 e207
            subst e207
            refine cx_if _ rfl (fun h206 => ?_) (fun h206 => ?_)
            ·
             (try simp only [go_sem] at h206)
             refine cx_region ?_
             simp only [go_sem]
             refine cw_m (PutEntry_c l ⟨c.path, false, c.text, v⟩ hl hs) byW byT ?_
             simp only [go_sem]
             have hk : c.kind = 2 := by simpa using h206
             have hm : madeP l c v = putE l ⟨c.path, false, c.text, v⟩ := by rw [madeP, if_neg (by omega), if_pos hk]
             refine mt_nextr () [0, 2] (by omega) ⟨rfl, rfl, ?_, ?_⟩
             · rw [hm]; exact byC
             · rw [hm]; exact byC
            ·
             (try simp only [go_sem] at h206)
             refine cx_seq ?_
             refine cx_sr ?_
             simp only [go_sem]
             refine cx_block ?_
             refine cx_loopk (σ := Nat) (fun i => i ≤ l.length) (fun i => [⟨13, 0, [], .int .i64 (i : Nat)⟩, ⟨12, 0, [], .own none 1 4 0 ((l.take i).filter (outB c.path)).length .loose⟩]) [0, 2, 4] (fun i => [.box c.enc, .arr 4 ((l.take i).filter (outB c.path)).length (En Entry.enc default ((l.take i).filter (outB c.path)))]) (fun i => l.length - i) 0 (Nat.zero_le _) (fun _ => (Nat.zero_le _)) byC (fun i hI2 => ?_)
             simp only [go_sem]
             have hfl := List.length_filter_le (outB c.path) (l.take i)
             have hfl2 : (l.take i).length ≤ i := by simp; omega
             refine cx_seq ?_
             refine cx_sr ?_
             simp only [go_sem]
             repeat first | (with_reducible refine side_d ?_ ?_; exact byD) | (with_reducible refine side_q ?_ ?_; exact byQ)
             intro t126 e126
             subst e126
             refine cx_if _ rfl (fun h126 => ?_) (fun h126 => ?_)
             ·
              (try simp only [go_sem] at h126)
              have hxp2 := checkP_len (g.paths.2 (l.getD i default) (getD_mem (by omega)))
              refine cx_skip ?_
              (try simp only [go_sem])
              refine cx_seq (cx_block ?_)
              refine cx_seq (cx_draw mixed [] (.first 0 (.first 1 (.first 2 (.first 3 (.first 4 (.first 5 (.first 6 (.one 7 (.first 8 (.done)))))))))) (by kernel_rfl) ?_)
              simp only [go_sem]
              repeat first | (with_reducible refine side_d ?_ ?_; exact byD) | (with_reducible refine side_q ?_ ?_; exact byQ)
              refine cwE_m (IsIn2_c (l.getD i default).path c.path (by omega) (by omega)) byW byT ?_
              simp only [go_sem]
              intro t137 e137
              subst e137
              refine cx_if _ rfl (fun h137 => ?_) (fun h137 => ?_)
              ·
               (try simp only [go_sem] at h137)
               refine cx_region ?_
               simp only [go_sem]
               repeat first | (with_reducible refine side_d ?_ ?_; exact byD) | (with_reducible refine side_q ?_ ?_; exact byQ)
               refine cx_region ?_
               simp only [go_sem]
               intro t128 e128
               (try replace e128 := w64 e128 (by omega) (by omega))
               have hn : outB c.path (l.getD i default) = true := by simpa [outB] using h137
               have hf : (l.take (i + 1)).filter (outB c.path) = (l.take i).filter (outB c.path) ++ [l.getD i default] := by rw [filter_snoc (by omega), if_pos hn]
               refine rnd_nextr (i + 1) [0, 3] (by omega) (by first | omega | (dsimp only; omega)) ⟨rfl, rfl, ?_, ?_⟩
               · (try rw [hf]); exact byC
               · rw [hf]; skip
                 simp only [go_sem, wk, wks, wkB, wkH, List.length_append, List.length_cons, List.length_nil]
                 first | exact fun q hq => wks_mp_snoc (fun x => rnVs_no _ rfl) (by rfl) hq | (and_intros <;> first | trivial | rfl | omega | (exact fun q hq => wks_mp_snoc (fun x => rnVs_no _ rfl) (by rfl) hq) | exact wks_refl _ | exact byC)
              ·
               (try simp only [go_sem] at h137)
               refine cx_skip ?_
               (try simp only [go_sem])
               refine cx_region ?_
               simp only [go_sem]
               intro t128 e128
               (try replace e128 := w64 e128 (by omega) (by omega))
               have hn : ¬ outB c.path (l.getD i default) = true := by simpa [outB] using h137
               have hf : (l.take (i + 1)).filter (outB c.path) = (l.take i).filter (outB c.path) := by rw [filter_snoc (by omega), if_neg hn]
               refine rnd_next (i + 1) (by omega) (by first | omega | (dsimp only; omega)) ?_
               rw [hf]
               exact byC
             ·
              (try simp only [go_sem] at h126)
              have hi : l.take i = l := List.take_of_length_le (by omega)
              rw [hi]
              refine cx_exit ?_
              simp only [go_sem]
              refine cx_sr ?_
              simp only [go_sem]
              refine cx_block ?_
              refine cx_loopk (σ := Nat) (fun i => i ≤ l.length ∧ (c.kind = 3 → greatG (l.take i) c v = false) ∧ (¬ c.kind = 3 → i = 0)) (fun i => [⟨14, 0, [], .int .i64 (i : Nat)⟩, ⟨12, 0, [], .own none 1 4 0 ((goesP (l.take i) c v).foldl putE (l.filter (outB c.path))).length .loose⟩]) [0, 2, 4] (fun i => [.box c.enc, .arr 4 ((goesP (l.take i) c v).foldl putE (l.filter (outB c.path))).length (En Entry.enc default ((goesP (l.take i) c v).foldl putE (l.filter (outB c.path))))]) (fun i => l.length - i) 0 ⟨Nat.zero_le _, fun _ => rfl, fun _ => rfl⟩ (fun _ => (Nat.zero_le _)) byC (fun i hI3 => ?_)
              simp only [go_sem]
              have hfs := foldl_put_sorted (goesP (l.take i) c v) (filter_sorted hs (outB c.path))
              have hfl := foldl_put_len (goesP (l.take i) c v) (l.filter (outB c.path))
              have hfl2 := List.length_filter_le (outB c.path) l
              have hgl3 := goes_len (l.take i) c v
              have hgl4 : (l.take i).length ≤ i := by simp; omega
              refine cx_seq ?_
              refine cx_sr ?_
              simp only [go_sem]
              repeat first | (with_reducible refine side_d ?_ ?_; exact byD) | (with_reducible refine side_q ?_ ?_; exact byQ)
              intro t148 e148
              intro t152 e152
              intro t153 e153
              rw [bsel_and] at e153
              subst e148 e152 e153
              refine cx_if _ rfl (fun h153 => ?_) (fun h153 => ?_)
              ·
               (try simp only [go_sem] at h153)
               have hk : c.kind = 3 ∧ i < l.length := by grind
               have hck := form_ok hF
               have hxp1 := g.paths.2 (l.getD i default) (getD_mem (by omega))
               have hxp := checkP_len hxp1
               have htp := checkP_len (hck.2 hk.1)
               refine cx_skip ?_
               (try simp only [go_sem])
               refine cx_seq (cx_block ?_)
               refine cx_seq ?_
               refine cx_seq (cx_draw mixed [] (.first 0 (.first 1 (.first 2 (.first 3 (.first 4 (.first 5 (.first 6 (.one 7 (.first 8 (.done)))))))))) (by kernel_rfl) ?_)
               simp only [go_sem]
               repeat first | (with_reducible refine side_d ?_ ?_; exact byD) | (with_reducible refine side_q ?_ ?_; exact byQ)
               refine cwE_m (IsIn2_c (l.getD i default).path c.path (by omega) (by omega)) byW byT ?_
               simp only [go_sem]
               intro t164 e164
               subst e164
               refine cx_if _ rfl (fun h164 => ?_) (fun h164 => ?_)
               ·
                (try simp only [go_sem] at h164)
                refine cx_exit ?_
                simp only [go_sem]
                refine cx_region ?_
                simp only [go_sem]
                intro t155 e155
                (try replace e155 := w64 e155 (by omega) (by omega))
                have hn : ¬ inB c.path (l.getD i default) = true := by simpa [inB] using h164
                have hg : goesP (l.take (i + 1)) c v = goesP (l.take i) c v := by rw [goes_snoc (by omega), if_neg hn]
                refine rnd_next (i + 1) ⟨by omega, fun hk3 => by rw [greatG, hg]; exact hI3.2.1 hk3, fun hk3 => absurd hk.1 hk3⟩ (by first | omega | (dsimp only; omega)) ?_
                rw [hg]
                exact byC
               ·
                (try simp only [go_sem] at h164)
                have hin : isIn (l.getD i default).path c.path = true := by simpa using h164
                have hb : inB c.path (l.getD i default) = true := hin
                have hinp : inP (pcs (l.getD i default).path) (pcs c.path) = true := by rw [← isIn_pcs]; exact hin
                have hpl : (pcs c.path).length ≤ (pcs (l.getD i default).path).length := by have h := hinp; unfold inP at h; rw [Bool.and_eq_true, decide_eq_true_eq] at h; exact h.1
                have hpl2 : (pcs (l.getD i default).path).length ≤ 81 := by rw [pcs_cnt]; have := List.count_le_length (a := (47 : UInt8)) (l := (l.getD i default).path); omega
                have hdl : (c.to ++ (l.getD i default).path.drop c.path.length).length ≤ 160 := by rw [List.length_append, List.length_drop]; omega
                have hpl3 : (pcs c.to).length ≤ 81 := by rw [pcs_cnt]; have := List.count_le_length (a := (47 : UInt8)) (l := c.to); omega
                refine cx_skip ?_
                (try simp only [go_sem])
                refine cx_sr ?_
                simp only [go_sem]
                repeat first | (with_reducible refine side_d ?_ ?_; exact byD) | (with_reducible refine side_q ?_ ?_; exact byQ)
                refine cx_seq ?_
                refine cx_sr ?_
                simp only [go_sem]
                intro t173 e173
                subst e173
                refine cx_meet (σ := Unit) (fun u3 => True) (fun u3 => []) [0, 2, 4, 12, 14, 15] (fun u3 => [.box c.enc, .arr 4 ((goesP (l.take i) c v).foldl putE (l.filter (outB c.path))).length (En Entry.enc default ((goesP (l.take i) c v).foldl putE (l.filter (outB c.path)))), .box [.str (l.getD i default).path, .bool (l.getD i default).folder, .str (l.getD i default).text, .int .i64 (if (l.getD i default).path = c.path then v else (l.getD i default).version)]]) (fun _ => (Nat.zero_le _)) ?_ (fun u3 hIM3 => ?_)
                ·
                 refine cx_if _ rfl (fun h173 => ?_) (fun h173 => ?_)
                 ·
                  (try simp only [go_sem] at h173)
                  refine cx_region ?_
                  simp only [go_sem]
                  have hk : (l.getD i default).path = c.path := by simpa using h173
                  refine mt_next () trivial ?_
                  rw [if_pos hk]
                  exact byC
                 ·
                  (try simp only [go_sem] at h173)
                  refine cx_skip ?_
                  (try simp only [go_sem])
                  have hk : ¬ (l.getD i default).path = c.path := by simpa using h173
                  refine mt_next () trivial ?_
                  rw [if_neg hk]
                  exact byC
                simp only [go_sem]
                refine cx_seq (cx_draw mixed [13, 16] (.first 1 (.first 2 (.first 5 (.first 6 (.first 8 (.first 9 (.alt 0 (.one 3 (.one 4 (.one 7 (.one 10 (.first 11 (.first 12 (.one 13 (.one 14 (.first 15 (.one 16 (.done))))))))))) (.one 3 (.one 0 (.one 4 (.one 7 (.one 10 (.first 11 (.first 12 (.one 13 (.one 14 (.first 15 (.one 16 (.done))))))))))))))))))) (by kernel_rfl) ?_)
                simp only [go_sem]
                repeat first | (with_reducible refine side_d ?_ ?_; exact byD) | (with_reducible refine side_q ?_ ?_; exact byQ)
                refine ⟨?_, ?_⟩
                ·
                 refine cwE_m (NamesOf_c c.to (by omega)) byW byT ?_
                 simp only [go_sem]
                 repeat first | (with_reducible refine side_d ?_ ?_; exact byD) | (with_reducible refine side_q ?_ ?_; exact byQ)
                 refine cwE_m (NamesOf_c (l.getD i default).path (by omega)) byW byT ?_
                 simp only [go_sem]
                 refine cwE_m (NamesOf_c c.path (by omega)) byW byT ?_
                 simp only [go_sem]
                 repeat ((with_reducible first | refine side_d ?_ ?_ | refine side_q ?_ ?_); focus (first | exact byD | exact byQ | ((refine Sd.mk ?_; omega))))
                 repeat first | (with_reducible refine side_d ?_ ?_; exact byD) | (with_reducible refine side_q ?_ ?_; exact byQ)
                 refine cwE_v 2 (PathOfM_c c.to hin (by omega) (by omega)) byV byC rfl ?_
                 simp only [go_sem]
                 refine cx_seq ?_
                 refine cx_sr ?_
                 simp only [go_sem]
                 refine cw_m (TooGreat_c (c.to ++ (l.getD i default).path.drop c.path.length) (by omega)) byW byT ?_
                 simp only [go_sem]
                 refine cx_if _ rfl (fun h194 => ?_) (fun h194 => ?_)
                 ·
                  (try simp only [go_sem] at h194)
                  refine cx_sr ?_
                  simp only [go_sem]
                  refine cx_virt 6 4 (En Entry.enc default []) rfl ?_
                  simp only [go_sem]
                  refine cx_ret ?_
                  simp only [go_sem]
                  have hd : doneErr l c v = 2 := by rw [doneErr, if_pos ⟨hk.1, great_at hk.2 hb h194⟩]
                  have he : rawErr l c v = 2 := by rw [rawErr, if_neg (by simpa using hF), if_neg (by simpa using hM), hd]
                  have hp : rawP l c v = [] := by rw [rawP, he, if_neg (by decide)]
                  rw [he, hp]
                  exact finx_of 1 [6] rfl byC byC byC byC
                 ·
                  (try simp only [go_sem] at h194)
                  refine cx_skip ?_
                  (try simp only [go_sem])
                  refine cx_region ?_
                  simp only [go_sem]
                  refine cw_n 2 (PutEntry_c ((goesP (l.take i) c v).foldl putE (l.filter (outB c.path))) (mvE c v (l.getD i default)) (by omega) hfs) byV byC rfl byN ?_
                  simp only [go_sem]
                  refine cx_region ?_
                  simp only [go_sem]
                  intro t155 e155
                  (try replace e155 := w64 e155 (by omega) (by omega))
                  have hg : goesP (l.take (i + 1)) c v = goesP (l.take i) c v ++ [mvE c v (l.getD i default)] := by rw [goes_snoc hk.2, if_pos hb]
                  have hgg : greatG (l.take (i + 1)) c v = false := by
                    rw [greatG, hg, List.any_append]
                    have := hI3.2.1 hk.1
                    rw [greatG] at this
                    rw [this]
                    simpa [mvE] using h194
                  have hsn : (goesP (l.take (i + 1)) c v).foldl putE (l.filter (outB c.path)) = putE ((goesP (l.take i) c v).foldl putE (l.filter (outB c.path))) (mvE c v (l.getD i default)) := by rw [hg, List.foldl_append]; rfl
                  refine rnd_nextr (i + 1) [0, 6] ⟨by omega, fun _ => hgg, fun hk3 => absurd hk.1 hk3⟩ (by first | omega | (dsimp only; omega)) ⟨rfl, rfl, ?_, ?_⟩
                  · rw [hsn]; exact byC
                  · rw [hsn]; exact byC
                ·
                 refine cwE_m (NamesOf_c c.to (by omega)) byW byT ?_
                 simp only [go_sem]
                 repeat first | (with_reducible refine side_d ?_ ?_; exact byD) | (with_reducible refine side_q ?_ ?_; exact byQ)
                 refine cwE_m (NamesOf_c (l.getD i default).path (by omega)) byW byT ?_
                 simp only [go_sem]
                 refine cwE_m (NamesOf_c c.path (by omega)) byW byT ?_
                 simp only [go_sem]
                 repeat ((with_reducible first | refine side_d ?_ ?_ | refine side_q ?_ ?_); focus (first | exact byD | exact byQ | ((refine Sd.mk ?_; omega))))
                 repeat first | (with_reducible refine side_d ?_ ?_; exact byD) | (with_reducible refine side_q ?_ ?_; exact byQ)
                 refine cwE_v 2 (PathOfM_c c.to hin (by omega) (by omega)) byV byC rfl ?_
                 simp only [go_sem]
                 refine cx_seq ?_
                 refine cx_sr ?_
                 simp only [go_sem]
                 refine cw_m (TooGreat_c (c.to ++ (l.getD i default).path.drop c.path.length) (by omega)) byW byT ?_
                 simp only [go_sem]
                 refine cx_if _ rfl (fun h194 => ?_) (fun h194 => ?_)
                 ·
                  (try simp only [go_sem] at h194)
                  refine cx_sr ?_
                  simp only [go_sem]
                  refine cx_virt 6 4 (En Entry.enc default []) rfl ?_
                  simp only [go_sem]
                  refine cx_ret ?_
                  simp only [go_sem]
                  have hd : doneErr l c v = 2 := by rw [doneErr, if_pos ⟨hk.1, great_at hk.2 hb h194⟩]
                  have he : rawErr l c v = 2 := by rw [rawErr, if_neg (by simpa using hF), if_neg (by simpa using hM), hd]
                  have hp : rawP l c v = [] := by rw [rawP, he, if_neg (by decide)]
                  rw [he, hp]
                  exact finx_of 1 [6] rfl byC byC byC byC
                 ·
                  (try simp only [go_sem] at h194)
                  refine cx_skip ?_
                  (try simp only [go_sem])
                  refine cx_region ?_
                  simp only [go_sem]
                  refine cw_n 2 (PutEntry_c ((goesP (l.take i) c v).foldl putE (l.filter (outB c.path))) (mvE c v (l.getD i default)) (by omega) hfs) byV byC rfl byN ?_
                  simp only [go_sem]
                  refine cx_region ?_
                  simp only [go_sem]
                  intro t155 e155
                  (try replace e155 := w64 e155 (by omega) (by omega))
                  have hg : goesP (l.take (i + 1)) c v = goesP (l.take i) c v ++ [mvE c v (l.getD i default)] := by rw [goes_snoc hk.2, if_pos hb]
                  have hgg : greatG (l.take (i + 1)) c v = false := by
                    rw [greatG, hg, List.any_append]
                    have := hI3.2.1 hk.1
                    rw [greatG] at this
                    rw [this]
                    simpa [mvE] using h194
                  have hsn : (goesP (l.take (i + 1)) c v).foldl putE (l.filter (outB c.path)) = putE ((goesP (l.take i) c v).foldl putE (l.filter (outB c.path))) (mvE c v (l.getD i default)) := by rw [hg, List.foldl_append]; rfl
                  refine rnd_nextr (i + 1) [0, 6] ⟨by omega, fun _ => hgg, fun hk3 => absurd hk.1 hk3⟩ (by first | omega | (dsimp only; omega)) ⟨rfl, rfl, ?_, ?_⟩
                  · rw [hsn]; exact byC
                  · rw [hsn]; exact byC
              ·
               (try simp only [go_sem] at h153)
               refine cx_exit ?_
               simp only [go_sem]
               have hfk := form_kind hF
               have hm : madeP l c v = (goesP (l.take i) c v).foldl putE (l.filter (outB c.path)) := by
                 have h1 : ¬ c.kind = 1 := by simpa using h198
                 have h2 : ¬ c.kind = 2 := by simpa using h206
                 rw [madeP, if_neg h1, if_neg h2]
                 by_cases h3 : c.kind = 3
                 · rw [if_neg (by omega), if_pos h3, movedL, List.take_of_length_le (by grind)]
                 · rw [if_pos (by omega), hI3.2.2 h3]
                   rfl
               have hgr : c.kind = 3 → greatG l c v = false := by
                 intro h3
                 have := hI3.2.1 h3
                 rwa [List.take_of_length_le (by grind)] at this
               refine mt_next () hgr ?_
               rw [hm]
               exact byC
          simp only [go_sem]
          refine cx_seq ?_
          refine cx_sr ?_
          simp only [go_sem]
          repeat first | (with_reducible refine side_d ?_ ?_; exact byD) | (with_reducible refine side_q ?_ ?_; exact byQ)
          intro t218 e218
          subst e218
          refine cx_if _ rfl (fun h218 => ?_) (fun h218 => ?_)
          ·
           (try simp only [go_sem] at h218)
           refine cx_sr ?_
           simp only [go_sem]
           refine cx_virt 6 4 (En Entry.enc default []) rfl ?_
           simp only [go_sem]
           refine cx_ret ?_
           simp only [go_sem]
           have hd : doneErr l c v = 2 := by rw [doneErr]; split <;> first | rfl | (rw [if_pos (by omega)])
           have he : rawErr l c v = 2 := by rw [rawErr, if_neg (by simpa using hF), if_neg (by simpa using hM), hd]
           have hp : rawP l c v = [] := by rw [rawP, he, if_neg (by decide)]
           rw [he, hp]
           exact finx_of 1 [2] rfl byC byC byC byC
          ·
           (try simp only [go_sem] at h218)
           refine cx_skip ?_
           (try simp only [go_sem])
           refine cx_sr ?_
           simp only [go_sem]
           refine cx_ret ?_
           simp only [go_sem]
           have hd : doneErr l c v = 0 := by rw [doneErr, if_neg (by rintro ⟨h1, h2⟩; rw [hIM2 h1] at h2; cases h2), if_neg (by omega)]
           have he : rawErr l c v = 0 := by rw [rawErr, if_neg (by simpa using hF), if_neg (by simpa using hM), hd]
           have hp : rawP l c v = madeP l c v := by rw [rawP, if_pos he]
           rw [he, hp]
           exact finx_of 1 [1] rfl byC byC byC byC
end Go.VM.Tryz
end
section
set_option maxHeartbeats 4000000
set_option linter.unusedVariables false
set_option linter.unusedSimpArgs false
open Go Go.VM Go.Proofs Tether
namespace Go.VM.Tryz
set_option maxRecDepth 100000
/-- the same, of a tree that nobody writes any more -/
theorem ChangeOfF_c (l : List Entry) (c : Change) (v : Int) (g : GoodT l) (ok : okC c) : Meets Tryz.prog 41 [esV l, .agg c.enc, .int .i64 v] (.tup [esV (rawP l c v), .int .i64 (rawErr l c v)]) [] :=
  ((ChangeOf_c l c v g ok).freeze 1 byC).wk (wks_refl _) byC byC
end Go.VM.Tryz
end
section
set_option maxHeartbeats 4000000
set_option linter.unusedVariables false
set_option linter.unusedSimpArgs false
open Go Go.VM Go.Proofs Tether
namespace Go.VM.Tryz
set_option maxRecDepth 100000
end Go.VM.Tryz
end
section
set_option maxHeartbeats 4000000
set_option linter.unusedVariables false
set_option linter.unusedSimpArgs false
open Go Go.VM Go.Proofs Tether
namespace Go.VM.Tryz
structure FullT (l : List Entry) : Prop where
  len : l.length ≤ 60
  ents : ∀ x ∈ l, entErr x = 0
  sorted : SortedE l
  par : ∀ x ∈ l, headOf x.path = [] ∨ ∃ y ∈ l, y.path = headOf x.path ∧ y.folder = true
theorem parE_in {l : List Entry} (hs : SortedE l) {p : Str} : ((parE l p).2 = true ∧ (parE l p).1.folder = true) ↔ (headOf p = [] ∨ ∃ y ∈ l, y.path = headOf p ∧ y.folder = true) := by
  unfold parE
  by_cases h : headOf p = []
  · simp [h, topE]
  · rw [if_neg h]
    by_cases hh : hasE l (headOf p) = true
    · rw [if_pos hh]
      have hf := findE_eq hs (headOf p)
      rw [if_pos hh] at hf
      obtain ⟨h1, h2⟩ := findE_some hf
      constructor
      · rintro ⟨_, h3⟩
        exact .inr ⟨_, h1, h2, h3⟩
      · rintro (h3 | ⟨y, h3, h4, h5⟩)
        · exact absurd h3 h
        · have := sorted_mem_inj hs h3 h1 (h4.trans h2.symm)
          exact ⟨rfl, by rw [← this]; exact h5⟩
    · rw [if_neg hh]
      constructor
      · rintro ⟨h1, _⟩
        cases h1
      · rintro (h3 | ⟨y, h3, h4, h5⟩)
        · exact absurd h3 h
        · exact absurd ((hasE_iff hs).2 ⟨y, h3, h4⟩) hh
theorem checkT_iff {l : List Entry} : checkT l = 0 ↔ FullT l := by
  constructor
  · intro h
    unfold checkT at h
    have h1 : (l.length : Int) ≤ 60 := by grind
    have h2 : firstErr entErr l = 0 := by grind
    have h3 : sortedB l = true := by grind
    have h4 : parsB l = true := by grind
    have h5 : parfB l = true := by grind
    have hs := sortedB_iff.1 h3
    exact ⟨by omega, firstErr_0.1 h2, hs, fun x hx => (parE_in hs).1 ⟨List.all_eq_true.1 h4 x hx, List.all_eq_true.1 h5 x hx⟩⟩
  · rintro ⟨h1, h2, h3, h4⟩
    have e2 : firstErr entErr l = 0 := firstErr_0.2 h2
    have e3 : sortedB l = true := sortedB_iff.2 h3
    have e4 : parsB l = true := List.all_eq_true.2 fun x hx => ((parE_in h3).2 (h4 x hx)).1
    have e5 : parfB l = true := List.all_eq_true.2 fun x hx => ((parE_in h3).2 (h4 x hx)).2
    rw [checkT, if_neg (by omega), if_neg (by simpa using e2), if_neg (by simp [e3]), if_neg (by simp [e4]), if_neg (by simp [e5])]
theorem FullT.path {l : List Entry} (h : FullT l) {x : Entry} (hx : x ∈ l) : checkP [x.path] = 0 := entErr_path (h.ents x hx)
theorem FullT.ok {l : List Entry} (h : FullT l) : okE l := by
  refine ⟨by have := h.len; omega, fun x hx => ⟨by have := checkP_len (h.path hx); omega, ?_⟩⟩
  have := h.ents x hx
  unfold entErr at this
  grind
theorem FullT.good {l : List Entry} (h : FullT l) : GoodT l := checkT_good h.ok (checkT_iff.2 h)
theorem isIn_refl (p : Str) : isIn p p = true := (isIn_iff p p).2 (.inl rfl)
theorem isIn_trans {a b c : Str} (h : isIn a b = true) (k : isIn b c = true) : isIn a c = true := by
  rw [isIn_iff] at *
  rcases h with rfl | ⟨t, rfl⟩
  · exact k
  · rcases k with rfl | ⟨u, rfl⟩
    · exact .inr ⟨t, rfl⟩
    · exact .inr ⟨u ++ 47 :: t, by simp⟩
/-- a path that is not of one name is its front, a slash and its last name -/
theorem front_eq {p : Str} (h : headOf p ≠ []) : p = headOf p ++ 47 :: tailOf p := by
  rcases cut_last p with hp | ⟨f, x, rfl, hx⟩
  · exact absurd (headOf_no hp) h
  · rw [headOf_join hx, tailOf_join hx]
theorem in_front {p : Str} (h : headOf p ≠ []) : isIn p (headOf p) = true := by
  rw [isIn_iff]
  exact .inr ⟨tailOf p, front_eq h⟩
theorem front_lt {p : Str} (h : headOf p ≠ []) : (headOf p).length < p.length := by
  have := congrArg List.length (front_eq h)
  simp at this
  omega
/-- what is properly within something has its front in it -/
theorem front_in {p q : Str} (h : isIn p q = true) (hne : p ≠ q) (hp : 47 ∉ tailOf p) : isIn (headOf p) q = true ∧ headOf p = q ++ (headOf p).drop q.length := by
  rw [isIn_iff] at h
  rcases h with h | ⟨t, rfl⟩
  · exact absurd h hne
  · rcases cut_last t with ht | ⟨f, x, rfl, hx⟩
    · rw [headOf_join ht]
      exact ⟨isIn_refl q, by simp⟩
    · rw [show q ++ 47 :: (f ++ 47 :: x) = (q ++ 47 :: f) ++ 47 :: x by simp, headOf_join hx]
      exact ⟨(isIn_iff _ _).2 (.inr ⟨f, rfl⟩), by simp⟩
theorem tail_no (p : Str) : 47 ∉ tailOf p := by
  rcases cut_last p with hp | ⟨f, x, rfl, hx⟩
  · rw [tailOf_no hp]; exact hp
  · rw [tailOf_join hx]; exact hx
theorem front_in' {p q : Str} (h : isIn p q = true) (hne : p ≠ q) : isIn (headOf p) q = true := (front_in h hne (tail_no p)).1
theorem front_ne_nil {p q : Str} (hq : q ≠ []) (h : isIn p q = true) (hne : p ≠ q) : headOf p ≠ [] := fun e => by
  have := isIn_len (front_in' h hne)
  rw [e] at this
  have : q.length = 0 := by simpa using this
  exact hq (List.length_eq_zero_iff.1 this)
theorem FullT.anc {l : List Entry} (g : FullT l) {q : Str} (hq : q ≠ []) : ∀ (n : Nat) (x : Entry), x.path.length ≤ n → x ∈ l → isIn x.path q = true → ∃ y ∈ l, y.path = q ∧ (x.path ≠ q → y.folder = true)
  | 0, x, hn, hx, h => by
    have := isIn_len h
    have : q.length = 0 := by omega
    exact absurd (List.length_eq_zero_iff.1 this) hq
  | n + 1, x, hn, hx, h => by
    by_cases he : x.path = q
    · exact ⟨x, hx, he, fun hne => absurd he hne⟩
    · have h1 := front_in' h he
      have h2 := front_ne_nil hq h he
      rcases g.par x hx with h3 | ⟨y, hy, hy2, hy3⟩
      · exact absurd h3 h2
      · obtain ⟨z, hz, hz2, hz3⟩ := FullT.anc g hq n y (by rw [hy2]; have := front_lt h2; omega) hy (by rw [hy2]; exact h1)
        refine ⟨z, hz, hz2, fun _ => ?_⟩
        by_cases hyq : y.path = q
        · have := sorted_mem_inj g.sorted hz hy (hz2.trans hyq.symm)
          rw [this]; exact hy3
        · exact hz3 hyq
theorem FullT.above {l : List Entry} (g : FullT l) {q : Str} (hq : q ≠ []) {x : Entry} (hx : x ∈ l) (h : isIn x.path q = true) : ∃ y ∈ l, y.path = q ∧ (x.path ≠ q → y.folder = true) :=
  g.anc hq _ x (Nat.le_refl _) hx h
theorem pass_ne {p : Str} (h : checkP [p] = 0) : p ≠ [] := by
  rintro rfl
  have := ((checkP_iff []).1 h).1 [] (by simp [pcs])
  exact isName_ne this rfl
end Go.VM.Tryz
end
section
set_option maxHeartbeats 4000000
set_option linter.unusedVariables false
set_option linter.unusedSimpArgs false
open Go Go.VM Go.Proofs Tether
namespace Go.VM.Tryz
structure MayT (l : List Entry) (c : Change) : Prop where
  par : headOf (goalP c) = [] ∨ ∃ y ∈ l, y.path = headOf (goalP c) ∧ y.folder = true
  new : c.kind = 1 → ∀ x ∈ l, x.path ≠ c.path
  file : c.kind = 2 → ∀ x ∈ l, x.path = c.path → x.folder = false
  is : c.kind ≠ 1 → c.kind ≠ 2 → ∃ x ∈ l, x.path = c.path
  apart : c.kind = 3 → isIn c.to c.path = false
  free : c.kind = 3 → ∀ x ∈ l, x.path ≠ c.to
theorem may_of {l : List Entry} (hs : SortedE l) {c : Change} (hk : 1 ≤ c.kind ∧ c.kind ≤ 4) (m : MayT l c) (hst : c.base ≠ -1 → ∀ x ∈ l, staleB c x = false) : mayP l c = 0 := by
  obtain ⟨h1, h2⟩ := (parE_in hs).2 m.par
  have h3 : c.kind = 1 → hasE l c.path = false := fun k => by
    cases hh : hasE l c.path with
    | false => rfl
    | true => obtain ⟨x, hx, e⟩ := (hasE_iff hs).1 hh; exact absurd e (m.new k x hx)
  have h4 : c.kind = 2 → hasE l c.path = true → (l.getD (eIx l c.path) default).folder = false := fun k hh => by
    have hf := findE_eq hs c.path
    rw [if_pos hh] at hf
    obtain ⟨q1, q2⟩ := findE_some hf
    exact m.file k _ q1 q2
  have h5 : c.kind ≠ 1 → c.kind ≠ 2 → hasE l c.path = true := fun k1 k2 => (hasE_iff hs).2 (m.is k1 k2)
  have h6 := m.apart
  have h7 : c.kind = 3 → hasE l c.to = false := fun k => by
    cases hh : hasE l c.to with
    | false => rfl
    | true => obtain ⟨x, hx, e⟩ := (hasE_iff hs).1 hh; exact absurd e (m.free k x hx)
  have h8 : c.base ≠ -1 → l.any (staleB c) = false := fun hb => by
    rw [List.any_eq_false]
    intro x hx
    simp [hst hb x hx]
  unfold mayP
  grind
/-- nothing is where nothing may be -/
theorem FullT.clear {l : List Entry} (g : FullT l) {q : Str} (hq : checkP [q] = 0) (h : ∀ x ∈ l, x.path ≠ q) : ∀ x ∈ l, isIn x.path q = false := by
  intro x hx
  cases hi : isIn x.path q with
  | false => rfl
  | true =>
    obtain ⟨y, hy, e, _⟩ := g.above (pass_ne hq) hx hi
    exact absurd e (h y hy)
theorem entErr_iff {x : Entry} : entErr x = 0 ↔ checkP [x.path] = 0 ∧ ¬ (x.folder = true ∧ x.text ≠ []) ∧ x.text.length ≤ 300 ∧ 1 ≤ x.version ∧ x.version ≤ 1000000 := by
  unfold entErr
  grind
/-- nothing is within something that is a file -/
theorem out_front {p q : Str} (h : isIn p q = false) (hp : headOf p ≠ []) : isIn (headOf p) q = false := by
  cases hi : isIn (headOf p) q with
  | false => rfl
  | true => rw [isIn_trans (in_front hp) hi] at h; cases h
end Go.VM.Tryz
end
section
set_option maxHeartbeats 4000000
set_option linter.unusedVariables false
set_option linter.unusedSimpArgs false
open Go Go.VM Go.Proofs Tether
namespace Go.VM.Tryz
set_option maxRecDepth 100000
def shapeE (x : Entry) : Str × Bool × Str := (x.path, x.folder, x.text)
end Go.VM.Tryz
end
section
set_option maxHeartbeats 4000000
set_option linter.unusedVariables false
set_option linter.unusedSimpArgs false
open Go Go.VM Go.Proofs Tether
namespace Go.VM.Tryz
set_option maxRecDepth 100000
theorem IndexFunc_string (f : Nat) (caps : List V) (hc : ltrs 0 caps = true) (p : Str → Bool) (l : List Str) (hp : ∀ x ∈ l, Meets Tryz.prog f (.str x :: caps) (.bool (p x)) []) (hl : l.length < 4611686018427387904) :
    Meets Tryz.prog 84 [lstV 1 strE' [] l, .fn f [] caps] (.int .i64 (idxF p l)) [] := by
  refine meets_x (fn := Tryz.f84) Tryz.func84 rfl fb84 (by kernel_rfl) (Nat.le_of_ble_eq_true rfl) ?_
  refine cx_sr ?_
  simp only [go_sem]
  repeat first | (with_reducible refine side_d ?_ ?_; exact byD) | (with_reducible refine side_q ?_ ?_; exact byQ)
  refine cx_seq ?_
  refine cx_sr ?_
  simp only [go_sem]
  refine cx_block ?_
  refine cx_loop0 (σ := Nat) (fun i => i ≤ l.length ∧ ∀ j, j < i → p (l.getD j []) = false) (fun i => [⟨8, 0, [], .int .i64 (i : Nat)⟩]) [0, 1, 7] (fun i => l.length - i) 0 ⟨Nat.zero_le _, fun j hj => absurd hj (Nat.not_lt_zero j)⟩ (Nat.zero_le _) byC (fun i hI1 => ?_)
  simp only [go_sem]
  refine cx_sr ?_
  simp only [go_sem]
  repeat first | (with_reducible refine side_d ?_ ?_; exact byD) | (with_reducible refine side_q ?_ ?_; exact byQ)
  intro t9 e9
  subst e9
  refine cx_seq ?_
  refine cx_if _ rfl (fun h9 => ?_) (fun h9 => ?_)
  ·
   (try simp only [go_sem] at h9)
   refine cx_skip ?_
   (try simp only [go_sem])
   refine cx_seq (cx_block ?_)
   refine cx_sr ?_
   simp only [go_sem]
   refine cx_sr ?_
   simp only [go_sem]
   repeat first | (with_reducible refine side_d ?_ ?_; exact byD) | (with_reducible refine side_q ?_ ?_; exact byQ)
   refine cw_m (hp (l.getD i []) (getD_mem (by omega))) byW byT ?_
   simp only [go_sem]
   refine cx_if _ rfl (fun h16 => ?_) (fun h16 => ?_)
   ·
    (try simp only [go_sem] at h16)
    refine cx_sr ?_
    simp only [go_sem]
    refine cx_ret ?_
    simp only [go_sem]
    refine finw_int ?_
    rw [idxF_at (by omega) hI1.2 h16]
   ·
    (try simp only [go_sem] at h16)
    refine cx_skip ?_
    (try simp only [go_sem])
    refine cx_region ?_
    simp only [go_sem]
    intro t18 e18
    (try replace e18 := w64 e18 (by omega) (by omega))
    refine rnd_next (i + 1) ⟨by omega, all_next hI1.2 h16⟩ (by first | omega | (dsimp only; omega)) byC
  ·
   (try simp only [go_sem] at h9)
   refine cx_exit ?_
   simp only [go_sem]
   refine cx_sr ?_
   simp only [go_sem]
   refine cx_ret ?_
   simp only [go_sem]
   refine finw_int ?_
   rw [idxF_none fun j hj => hI1.2 j (by omega)]
theorem ContainsFunc_string (f : Nat) (caps : List V) (hc : ltrs 0 caps = true) (p : Str → Bool) (l : List Str) (hp : ∀ x ∈ l, Meets Tryz.prog f (.str x :: caps) (.bool (p x)) []) (hl : l.length < 4611686018427387904) :
    Meets Tryz.prog 58 [lstV 1 strE' [] l, .fn f [] caps] (.bool (l.any p)) [] := by
  refine meets_x (fn := Tryz.f58) Tryz.func58 rfl fb58 (by kernel_rfl) (Nat.le_of_ble_eq_true rfl) ?_
  refine cx_sr ?_
  simp only [go_sem]
  repeat first | (with_reducible refine side_d ?_ ?_; exact byD) | (with_reducible refine side_q ?_ ?_; exact byQ)
  refine cx_sr ?_
  simp only [go_sem]
  refine cw_m (IndexFunc_string f caps hc p l hp hl) byW byT ?_
  simp only [go_sem]
  intro t8 e8
  subst e8
  refine cx_ret ?_
  simp only [go_sem]
  refine finw_bool ?_
  rw [← idxF_any]
def likeB (a b : Entry) : Bool := decide (shapeE a = shapeE b)
theorem like_c (a b : Entry) : Meets Tryz.prog 62 [.agg a.enc, .agg b.enc] (.bool (likeB a b)) [] := by
  refine meets_x (fn := Tryz.f62) Tryz.func62 rfl fb62 (by kernel_rfl) (Nat.le_of_ble_eq_true rfl) ?_
  refine cx_sr ?_
  simp only [go_sem]
  repeat first | (with_reducible refine side_d ?_ ?_; exact byD) | (with_reducible refine side_q ?_ ?_; exact byQ)
  refine cx_sr ?_
  simp only [go_sem]
  intro t9 e9
  intro t15 e15
  intro t16 e16
  rw [bsel_and] at e16
  intro t22 e22
  intro t23 e23
  rw [bsel_and] at e23
  subst e9 e15 e16 e22 e23
  refine cx_ret ?_
  simp only [go_sem]
  refine finw_bool ?_
  unfold likeB shapeE
  grind
end Go.VM.Tryz
end
section
set_option maxHeartbeats 4000000
set_option linter.unusedVariables false
set_option linter.unusedSimpArgs false
open Go Go.VM Go.Proofs Tether
namespace Go.VM.Tryz
set_option maxRecDepth 100000
def badE (b : List Entry) (x : Entry) : Bool := match findE b x.path with | some y => y.folder != x.folder | none => true
def delC (x : Entry) : Change := ⟨4, x.path, [], [], -1⟩
def addC (x : Entry) : Change := ⟨if x.folder = true then 1 else 2, x.path, [], x.text, -1⟩
def stepD (b : List Entry) (s : List Change × List Str) (x : Entry) : List Change × List Str :=
  if (s.2.any fun p => isIn x.path p) = true then s else if badE b x = true then (s.1 ++ [delC x], s.2 ++ [x.path]) else s
def delsP (a b : List Entry) (i : Nat) : List Change × List Str := (a.take i).foldl (stepD b) ([], [])
def hasLike (a : List Entry) (x : Entry) : Bool := match findE a x.path with | some y => likeB y x | none => false
def addsP (a b : List Entry) (i : Nat) : List Change := ((b.take i).filter fun x => !hasLike a x).map addC
def diffP (a b : List Entry) : List Change := (delsP a b a.length).1 ++ addsP a b b.length
theorem dels_next {a b : List Entry} {i : Nat} (h : i < a.length) : delsP a b (i + 1) = stepD b (delsP a b i) (a.getD i default) := foldl_take _ _ _ _ h
theorem dels_len (a b : List Entry) : ∀ i, i ≤ a.length → (delsP a b i).1.length ≤ i ∧ (delsP a b i).2.length ≤ i
  | 0, _ => by simp [delsP]
  | i + 1, h => by
    have ih := dels_len a b i (by omega)
    rw [dels_next (by omega)]
    unfold stepD
    split
    · omega
    · split
      · simp; omega
      · omega
theorem dels_path (a b : List Entry) : ∀ i, i ≤ a.length → ∀ p ∈ (delsP a b i).2, ∃ x ∈ a, x.path = p
  | 0, _, p, hp => by simp [delsP] at hp
  | i + 1, h, p, hp => by
    have ih := dels_path a b i (by omega)
    rw [dels_next (by omega)] at hp
    unfold stepD at hp
    split at hp
    · exact ih p hp
    · split at hp
      · rcases List.mem_append.1 hp with hp | hp
        · exact ih p hp
        · exact ⟨a.getD i default, getD_mem (by omega), (List.mem_singleton.1 hp).symm⟩
      · exact ih p hp
theorem adds_next {a b : List Entry} {i : Nat} (h : i < b.length) : addsP a b (i + 1) = if hasLike a (b.getD i default) = true then addsP a b i else addsP a b i ++ [addC (b.getD i default)] := by
  unfold addsP
  rw [filter_snoc h]
  by_cases hl : hasLike a (b.getD i default) = true
  · rw [if_neg (by rw [hl]; decide), if_pos hl]
  · rw [if_pos (by rw [Bool.not_eq_true] at hl; rw [hl]; rfl), if_neg hl]
    simp
theorem adds_len (a b : List Entry) (i : Nat) : (addsP a b i).length ≤ i := by
  unfold addsP
  rw [List.length_map]
  have := List.length_filter_le (fun x => !hasLike a x) (b.take i)
  simp at this
  omega
def outD (a b : List Entry) (i : Nat) : List Change := (delsP a b a.length).1 ++ addsP a b i
theorem outD_len (a b : List Entry) (i : Nat) : (outD a b i).length ≤ a.length + i := by
  have h1 := adds_len a b i
  have h2 := (dels_len a b a.length (Nat.le_refl _)).1
  rw [outD, List.length_append]
  omega
theorem rawIn_c (p : Str) (x : Entry) (hp : p.length < 4611686018427387904) (hx : x.path.length < 4611686018427387904) : Meets Tryz.prog 59 [.str p, .iptr x.enc 0] (.bool (isIn x.path p)) [] := by
  refine meets_x (fn := Tryz.f59) Tryz.func59 rfl fb59 (by kernel_rfl) (Nat.le_of_ble_eq_true rfl) ?_
  refine cx_sr ?_
  simp only [go_sem]
  repeat first | (with_reducible refine side_d ?_ ?_; exact byD) | (with_reducible refine side_q ?_ ?_; exact byQ)
  refine cx_sr ?_
  simp only [go_sem]
  refine cw_m (In_c x.path p hx hp) byW byT ?_
  simp only [go_sem]
  refine cx_ret ?_
  simp only [go_sem]
  exact finw_bool rfl
theorem DRaw_c (a b : List Entry) (ha : SortedE a) (hb : SortedE b) (oka : okE a) (okb : okE b) : Meets Tryz.prog 34 [esV a, esV b] (.own none 0 5 0 (diffP a b).length .loose) [.arr 5 (diffP a b).length (En Change.enc default (diffP a b))] := by
  refine meets_x (fn := Tryz.f34) Tryz.func34 rfl fb34 (by kernel_rfl) (Nat.le_of_ble_eq_true rfl) ?_
  have hal := oka.1
  have hbl := okb.1
  have hix : ∀ (l : List Entry) p, hasE l p = true → eIx l p < l.length := fun l p h => by simp [hasE] at h; exact h.1
  refine cx_sr ?_
  simp only [go_sem]
  repeat first | (with_reducible refine side_d ?_ ?_; exact byD) | (with_reducible refine side_q ?_ ?_; exact byQ)
  refine cx_sr ?_
  simp only [go_sem]
  refine cx_sr ?_
  simp only [go_sem]
  refine cx_virt 5 5 (En Change.enc default []) rfl ?_
  refine cx_virt 6 1 (En strE' [] []) rfl ?_
  refine cx_seq ?_
  refine cx_sr ?_
  simp only [go_sem]
  refine cx_block ?_
  refine cx_loopk (σ := Nat) (fun i => i ≤ a.length) (fun i => [⟨18, 0, [], .int .i64 (i : Nat)⟩, ⟨5, 0, [], .own none 0 5 0 (delsP a b i).1.length .loose⟩, ⟨6, 0, [], .own none 1 1 0 (delsP a b i).2.length .loose⟩]) [0, 1, 4, 16, 17] (fun i => [.arr 5 (delsP a b i).1.length (En Change.enc default (delsP a b i).1), .arr 1 (delsP a b i).2.length (En strE' [] (delsP a b i).2)]) (fun i => a.length - i) 0 (by first | trivial | omega | simp) (fun _ => (Nat.zero_le _)) byC (fun i hI1 => ?_)
  simp only [go_sem]
  have hdl := dels_len a b i hI1
  refine cx_sr ?_
  simp only [go_sem]
  repeat first | (with_reducible refine side_d ?_ ?_; exact byD) | (with_reducible refine side_q ?_ ?_; exact byQ)
  intro t19 e19
  subst e19
  refine cx_seq ?_
  refine cx_if _ rfl (fun h19 => ?_) (fun h19 => ?_)
  ·
   (try simp only [go_sem] at h19)
   have hxl := oka.at (i := i) (by omega)
   have hpl : ∀ p ∈ (delsP a b i).2, p.length < 4611686018427387904 := fun p hp => by
     obtain ⟨x, hx, e⟩ := dels_path a b i hI1 p hp
     have := (oka.2 x hx).1
     rw [e] at this
     omega
   have hdn := dels_next (a := a) (b := b) (i := i) (by omega)
   refine cx_skip ?_
   (try simp only [go_sem])
   refine cx_seq (cx_block ?_)
   refine cx_sr ?_
   simp only [go_sem]
   repeat first | (with_reducible refine side_d ?_ ?_; exact byD) | (with_reducible refine side_q ?_ ?_; exact byQ)
   refine cx_seq ?_
   refine cx_sr ?_
   simp only [go_sem]
   refine cw_v 2 (ContainsFunc_string 59 [.iptr (a.getD i default).enc 0] rfl (fun p => isIn (a.getD i default).path p) (delsP a b i).2 (fun p hp => rawIn_c p _ (hpl p hp) (by omega)) (by omega)) byV byC rfl ?_
   simp only [go_sem]
   refine cx_if _ rfl (fun h24 => ?_) (fun h24 => ?_)
   ·
    (try simp only [go_sem] at h24)
    refine cx_exit ?_
    simp only [go_sem]
    refine cx_region ?_
    simp only [go_sem]
    intro t55 e55
    (try replace e55 := w64 e55 (by omega) (by omega))
    have hd : delsP a b (i + 1) = delsP a b i := by rw [hdn, stepD, if_pos h24]
    refine rnd_next (i + 1) (by omega) (by first | omega | (dsimp only; omega)) ?_
    rw [hd]
    exact byC
   ·
    (try simp only [go_sem] at h24)
    refine cx_skip ?_
    (try simp only [go_sem])
    refine cx_sr ?_
    simp only [go_sem]
    refine cw_m (At_c b (a.getD i default).path hb (by omega)) byW byT ?_
    simp only [go_sem]
    refine cx_seq (cx_draw mixed [] (.first 0 (.first 1 (.first 2 (.first 3 (.first 4 (.first 5 (.first 6 (.first 7 (.first 8 (.first 9 (.first 10 (.first 11 (.done))))))))))))) (by kernel_rfl) ?_)
    simp only [go_sem]
    intro t33 e33
    repeat ((with_reducible first | refine side_d ?_ ?_ | refine side_q ?_ ?_); focus (first | exact byD | exact byQ | ((refine Sd.of fun hp => ?_; simp only [pc, and_true] at hp; (have hq := hix b (a.getD i default).path (by rw [e33] at hp; simpa using hp)); omega))))
    repeat first | (with_reducible refine side_d ?_ ?_; exact byD) | (with_reducible refine side_q ?_ ?_; exact byQ)
    intro t42 e42
    intro t43 e43
    rw [bsel_or] at e43
    subst e33 e42 e43
    refine cx_if _ rfl (fun h43 => ?_) (fun h43 => ?_)
    ·
     (try simp only [go_sem] at h43)
     refine cx_sr ?_
     simp only [go_sem]
     repeat first | (with_reducible refine side_d ?_ ?_; exact byD) | (with_reducible refine side_q ?_ ?_; exact byQ)
     refine cx_region ?_
     simp only [go_sem]
     repeat first | (with_reducible refine side_d ?_ ?_; exact byD) | (with_reducible refine side_q ?_ ?_; exact byQ)
     refine cx_region ?_
     simp only [go_sem]
     intro t55 e55
     (try replace e55 := w64 e55 (by omega) (by omega))
     have hb1 : badE b (a.getD i default) = true := by unfold badE; rw [findE_eq hb]; grind
     have hd : delsP a b (i + 1) = ((delsP a b i).1 ++ [delC (a.getD i default)], (delsP a b i).2 ++ [(a.getD i default).path]) := by rw [hdn, stepD, if_neg (by rw [h24]; decide), if_pos hb1]
     refine rnd_nextr (i + 1) [4, 6] (by omega) (by first | omega | (dsimp only; omega)) ⟨rfl, rfl, ?_, ?_⟩
     · rw [hd]; exact byC
     · rw [hd]
       simp only [go_sem, wk, wks, wkB, wkH, List.length_append, List.length_cons, List.length_nil]
       exact ⟨fun q hq => wks_mp_snoc (x := delC (a.getD i default)) (fun x => rnVs_no _ rfl) rfl hq, fun q hq => wks_mp_snoc (x := (a.getD i default).path) (fun x => rnVs_no _ rfl) rfl hq⟩
    ·
     (try simp only [go_sem] at h43)
     refine cx_skip ?_
     (try simp only [go_sem])
     refine cx_region ?_
     simp only [go_sem]
     intro t55 e55
     (try replace e55 := w64 e55 (by omega) (by omega))
     have hb1 : ¬ badE b (a.getD i default) = true := by unfold badE; rw [findE_eq hb]; grind
     have hd : delsP a b (i + 1) = delsP a b i := by rw [hdn, stepD, if_neg (by rw [h24]; decide), if_neg hb1]
     refine rnd_next (i + 1) (by omega) (by first | omega | (dsimp only; omega)) ?_
     rw [hd]
     exact byC
  ·
   (try simp only [go_sem] at h19)
   obtain rfl : i = a.length := by omega
   have e0 : (delsP a b a.length).1 = outD a b 0 := by simp [outD, addsP]
   rw [e0]
   refine cx_exit ?_
   simp only [go_sem]
   refine cx_seq ?_
   refine cx_sr ?_
   simp only [go_sem]
   refine cx_block ?_
   refine cx_loopk (σ := Nat) (fun i => i ≤ b.length) (fun i => [⟨58, 0, [], .int .i64 (i : Nat)⟩, ⟨5, 0, [], .own none 0 5 0 (outD a b i).length .loose⟩]) [0, 4, 56, 57] (fun i => [.arr 5 (outD a b i).length (En Change.enc default (outD a b i)), .dead]) (fun i => b.length - i) 0 (by first | trivial | omega | simp) (fun _ => (Nat.zero_le _)) byC (fun i hI2 => ?_)
   simp only [go_sem]
   have hll := outD_len a b i
   refine cx_sr ?_
   simp only [go_sem]
   repeat first | (with_reducible refine side_d ?_ ?_; exact byD) | (with_reducible refine side_q ?_ ?_; exact byQ)
   intro t59 e59
   subst e59
   refine cx_seq ?_
   refine cx_if _ rfl (fun h59 => ?_) (fun h59 => ?_)
   ·
    (try simp only [go_sem] at h59)
    have hyl := okb.at (i := i) (by omega)
    have han := adds_next (a := a) (b := b) (i := i) (by omega)
    refine cx_skip ?_
    (try simp only [go_sem])
    refine cx_seq (cx_block ?_)
    refine cx_sr ?_
    simp only [go_sem]
    repeat first | (with_reducible refine side_d ?_ ?_; exact byD) | (with_reducible refine side_q ?_ ?_; exact byQ)
    refine cx_sr ?_
    simp only [go_sem]
    refine cw_m (At_c a (b.getD i default).path ha (by omega)) byW byT ?_
    simp only [go_sem]
    refine cx_seq ?_
    refine cx_seq (cx_draw mixed [] (.first 0 (.first 1 (.first 2 (.first 3 (.first 4 (.first 5 (.first 6 (.one 7 (.first 8 (.done)))))))))) (by kernel_rfl) ?_)
    simp only [go_sem]
    repeat ((with_reducible first | refine side_d ?_ ?_ | refine side_q ?_ ?_); focus (first | exact byD | exact byQ | ((refine Sd.of fun hp => ?_; simp only [pc, and_true] at hp; (have hq := hix a (b.getD i default).path (by simpa using hp)); omega))))
    repeat first | (with_reducible refine side_d ?_ ?_; exact byD) | (with_reducible refine side_q ?_ ?_; exact byQ)
    refine ⟨_, fun hp => cwE_m (like_c (a.getD (eIx a (b.getD i default).path) default) (b.getD i default)) byW byT ⟨rfl, rfl⟩, ?_⟩
    simp only [go_sem]
    intro t77 e77
    rw [bsel_and] at e77
    subst e77
    refine cx_if _ rfl (fun h77 => ?_) (fun h77 => ?_)
    ·
     (try simp only [go_sem] at h77)
     refine cx_exit ?_
     simp only [go_sem]
     refine cx_region ?_
     simp only [go_sem]
     intro t90 e90
     (try replace e90 := w64 e90 (by omega) (by omega))
     have hl1 : hasLike a (b.getD i default) = true := by unfold hasLike; rw [findE_eq ha]; grind
     have hd : outD a b (i + 1) = outD a b i := by rw [outD, han, if_pos hl1, outD]
     refine rnd_next (i + 1) (by omega) (by first | omega | (dsimp only; omega)) ?_
     rw [hd]
     exact byC
    ·
     (try simp only [go_sem] at h77)
     refine cx_skip ?_
     (try simp only [go_sem])
     refine cx_sr ?_
     simp only [go_sem]
     refine cx_seq ?_
     refine cx_sr ?_
     simp only [go_sem]
     refine cx_meet (σ := Unit) (fun u => True) (fun u => []) [0, 4, 5, 15, 56, 57, 58] (fun u => [.arr 5 (outD a b i).length (En Change.enc default (outD a b i)), .dead, .box (b.getD i default).enc, .box [.int .i64 (if (b.getD i default).folder = true then 1 else 2), .str (b.getD i default).path, .str [], .str (b.getD i default).text, .int .i64 (-1)]]) (fun _ => (Nat.zero_le _)) ?_ (fun u hIM1 => ?_)
     ·
      refine cx_if _ rfl (fun h84 => ?_) (fun h84 => ?_)
      ·
       (try simp only [go_sem] at h84)
       refine cx_region ?_
       simp only [go_sem]
       refine mt_next () trivial ?_
       rw [if_pos h84]
       exact byC
      ·
       (try simp only [go_sem] at h84)
       refine cx_skip ?_
       (try simp only [go_sem])
       refine mt_next () trivial ?_
       rw [if_neg (by simpa using h84)]
       exact byC
     simp only [go_sem]
     refine cx_region ?_
     simp only [go_sem]
     repeat first | (with_reducible refine side_d ?_ ?_; exact byD) | (with_reducible refine side_q ?_ ?_; exact byQ)
     refine cx_region ?_
     simp only [go_sem]
     intro t90 e90
     (try replace e90 := w64 e90 (by omega) (by omega))
     have hl1 : ¬ hasLike a (b.getD i default) = true := by unfold hasLike; rw [findE_eq ha]; grind
     have hd : outD a b (i + 1) = outD a b i ++ [addC (b.getD i default)] := by rw [outD, han, if_neg hl1, ← List.append_assoc, outD]
     refine rnd_nextr (i + 1) [5, 1] (by omega) (by first | omega | (dsimp only; omega)) ⟨rfl, rfl, ?_, ?_⟩
     · (try rw [hd]); exact byC
     · rw [hd]; skip
       simp only [go_sem, wk, wks, wkB, wkH, List.length_append, List.length_cons, List.length_nil]
       first | exact fun q hq => wks_mp_snoc (fun x => rnVs_no _ rfl) (by rfl) hq | (and_intros <;> first | trivial | rfl | omega | (exact fun q hq => wks_mp_snoc (fun x => rnVs_no _ rfl) (by rfl) hq) | exact wks_refl _ | exact byC)
   ·
    (try simp only [go_sem] at h59)
    refine cx_exit ?_
    simp only [go_sem]
    refine cx_sr ?_
    simp only [go_sem]
    refine cx_ret ?_
    simp only [go_sem]
    obtain rfl : i = b.length := by omega
    have hd : diffP a b = outD a b b.length := rfl
    rw [hd]
    exact finx_of 1 [0] rfl byC byC byC byC
end Go.VM.Tryz
end
section
set_option maxHeartbeats 4000000
set_option linter.unusedVariables false
set_option linter.unusedSimpArgs false
open Go Go.VM Go.Proofs Tether
namespace Go.VM.Tryz
set_option maxRecDepth 100000
theorem filter_full {l : List Entry} (g : FullT l) {p : Entry → Bool} (h : ∀ x ∈ l, ∀ y ∈ l, headOf x.path ≠ [] → y.path = headOf x.path → p x = true → p y = true) : FullT (l.filter p) := by
  refine ⟨Nat.le_trans (List.length_filter_le p l) g.len, fun x hx => g.ents x (List.mem_filter.1 hx).1, filter_sorted g.sorted p, fun x hx => ?_⟩
  obtain ⟨h1, h2⟩ := List.mem_filter.1 hx
  by_cases h0 : headOf x.path = []
  · exact .inl h0
  · rcases g.par x h1 with h3 | ⟨y, hy, h3, h4⟩
    · exact .inl h3
    · exact .inr ⟨y, List.mem_filter.2 ⟨hy, h x h1 y hy h0 h3 h2⟩, h3, h4⟩
def goneB (a b : List Entry) (i : Nat) (x : Entry) : Bool := (delsP a b i).2.any fun p => isIn x.path p
def leftP (a b : List Entry) (i : Nat) : List Entry := a.filter fun x => !goneB a b i x
theorem left_full {a b : List Entry} (g : FullT a) (i : Nat) : FullT (leftP a b i) := by
  refine filter_full g fun x _ y _ h0 h1 h2 => ?_
  simp only [goneB, Bool.not_eq_true', List.any_eq_false] at h2 ⊢
  intro p hp
  have := h2 p hp
  rw [h1]
  have h3 : isIn x.path p = false := by simpa using this
  simp [out_front h3 h0]
theorem left_mem {a b : List Entry} {i : Nat} {x : Entry} : x ∈ leftP a b i ↔ x ∈ a ∧ goneB a b i x = false := by
  unfold leftP
  rw [List.mem_filter]
  simp
theorem dels_bad (a b : List Entry) : ∀ i, i ≤ a.length → ∀ p ∈ (delsP a b i).2, ∃ x ∈ a, x.path = p ∧ badE b x = true
  | 0, _, p, hp => by simp [delsP] at hp
  | i + 1, h, p, hp => by
    have ih := dels_bad a b i (by omega)
    rw [dels_next (by omega)] at hp
    unfold stepD at hp
    split at hp
    · exact ih p hp
    · split at hp
      · rename_i hb
        rcases List.mem_append.1 hp with hp | hp
        · exact ih p hp
        · exact ⟨a.getD i default, getD_mem (by omega), (List.mem_singleton.1 hp).symm, hb⟩
      · exact ih p hp
theorem gone_mono (a b : List Entry) {i : Nat} (h : i < a.length) {x : Entry} (hx : goneB a b i x = true) : goneB a b (i + 1) x = true := by
  unfold goneB at hx ⊢
  rw [dels_next h]
  unfold stepD
  split
  · exact hx
  · split
    · rw [List.any_append, hx]; rfl
    · exact hx
theorem bad_gone (a b : List Entry) : ∀ i, i ≤ a.length → ∀ j, j < i → badE b (a.getD j default) = true → goneB a b i (a.getD j default) = true
  | 0, _, j, hj, _ => by omega
  | i + 1, h, j, hj, hb => by
    rcases Nat.lt_or_ge j i with h1 | h1
    · exact gone_mono a b (by omega) (bad_gone a b i (by omega) j h1 hb)
    · obtain rfl : j = i := by omega
      unfold goneB
      rw [dels_next (by omega)]
      unfold stepD
      split
      · rename_i h2; exact h2
      · first
          | (rw [if_pos hb, List.any_append]; simp [isIn_refl])
          | (show ((delsP a b j).2 ++ [(a.getD j default).path]).any _ = true; rw [List.any_append]; simp [isIn_refl])
theorem left_next {a b : List Entry} {i : Nat} (h : i < a.length) (h1 : goneB a b i (a.getD i default) = false) (h2 : badE b (a.getD i default) = true) : leftP a b (i + 1) = (leftP a b i).filter (outB (a.getD i default).path) := by
  have hd : delsP a b (i + 1) = ((delsP a b i).1 ++ [delC (a.getD i default)], (delsP a b i).2 ++ [(a.getD i default).path]) := by
    unfold goneB at h1
    rw [dels_next h, stepD, if_neg (by rw [h1]; decide), if_pos h2]
  unfold leftP
  rw [List.filter_filter]
  refine List.filter_congr fun x _ => ?_
  unfold goneB outB
  rw [hd]
  simp only [List.any_append, List.any_cons, List.any_nil, Bool.or_false, Bool.not_or]
  rw [Bool.and_comm]
theorem left_same {a b : List Entry} {i : Nat} (h : i < a.length) (h1 : goneB a b i (a.getD i default) = true ∨ badE b (a.getD i default) = false) : leftP a b (i + 1) = leftP a b i ∧ delsP a b (i + 1) = delsP a b i := by
  have hd : delsP a b (i + 1) = delsP a b i := by
    rw [dels_next h, stepD]
    rcases h1 with h1 | h1
    · unfold goneB at h1
      rw [if_pos h1]
    · split
      · rfl
      · rw [if_neg (by rw [h1]; decide)]
  refine ⟨?_, hd⟩
  unfold leftP goneB
  rw [hd]
theorem left_find {a b : List Entry} (g : FullT a) {i : Nat} {x : Entry} (hx : x ∈ a) : (findE (leftP a b i) x.path = none ↔ goneB a b i x = true) := by
  rw [findE_none]
  constructor
  · intro h
    cases hg : goneB a b i x with
    | true => rfl
    | false => exact absurd rfl (h x (left_mem.2 ⟨hx, hg⟩))
  · intro h y hy e
    obtain ⟨h1, h2⟩ := left_mem.1 hy
    rw [sorted_mem_inj g.sorted h1 hx e, h] at h2
    cases h2
/-- a deletion that is due may be made -/
theorem del_may {t : List Entry} (g : FullT t) {x : Entry} (hx : x ∈ t) {v : Int} : rawErr t (delC x) v = 0 := by
  have hp := g.path hx
  have hf : formP (delC x) = 0 := by simp [formP, delC, hp]
  have m : MayT t (delC x) := by
    refine ⟨?_, (fun k => absurd k (by show ¬ (4 : Int) = 1; decide)), (fun k => absurd k (by show ¬ (4 : Int) = 2; decide)), fun _ _ => ⟨x, hx, rfl⟩, (fun k => absurd k (by show ¬ (4 : Int) = 3; decide)), (fun k => absurd k (by show ¬ (4 : Int) = 3; decide))⟩
    exact g.par x hx
  have hm : mayP t (delC x) = 0 := may_of g.sorted ⟨by show (1 : Int) ≤ 4; decide, by show (4 : Int) ≤ 4; decide⟩ m fun hb => absurd rfl hb
  have hd : doneErr t (delC x) v = 0 := by
    unfold doneErr
    rw [if_neg (by rintro ⟨h, _⟩; exact absurd h (by show ¬ (4 : Int) = 3; decide)), if_neg]
    have : (madeP t (delC x) v).length ≤ t.length := List.length_filter_le (outB x.path) t
    have := g.len
    omega
  rw [rawErr, if_neg (by simp [hf]), if_neg (by simp [hm]), hd]
theorem badE_iff {b : List Entry} (g : FullT b) {x : Entry} : badE b x = false ↔ ∃ y ∈ b, y.path = x.path ∧ y.folder = x.folder := by
  unfold badE
  cases hf : findE b x.path with
  | none =>
    constructor
    · intro h; cases h
    · rintro ⟨y, hy, h1, _⟩
      exact absurd h1 (findE_none.1 hf y hy)
  | some z =>
    obtain ⟨h1, h2⟩ := findE_some hf
    constructor
    · intro h
      exact ⟨z, h1, h2, by simpa using h⟩
    · rintro ⟨y, hy, h3, h4⟩
      have e := sorted_mem_inj g.sorted h1 hy (h2.trans h3.symm)
      subst e
      show (z.folder != x.folder) = false
      rw [h4]
      simp
theorem left_bad {a b : List Entry} {y : Entry} (h : y ∈ leftP a b a.length) : badE b y = false := by
  obtain ⟨h1, h2⟩ := left_mem.1 h
  obtain ⟨j, hj, rfl⟩ := List.getElem_of_mem h1
  cases hb : badE b a[j] with
  | false => rfl
  | true =>
    have e : a.getD j default = a[j] := by simp [List.getD, hj]
    have := bad_gone a b a.length (Nat.le_refl _) j hj (by rw [e]; exact hb)
    rw [e, h2] at this
    cases this
theorem folder_text {x : Entry} (h : entErr x = 0) (hf : x.folder = true) : x.text = [] := by
  have := (entErr_iff.1 h).2.1
  rw [hf] at this
  simpa using this
/-- whether something must be written, by what is left -/
theorem hasLike_left {a b : List Entry} (ga : FullT a) (gb : FullT b) {x : Entry} (hx : x ∈ b) :
    hasLike a x = match findE (leftP a b a.length) x.path with | some y => x.folder || decide (y.text = x.text) | none => false := by
  have gl := left_full (b := b) ga a.length
  cases hf : findE (leftP a b a.length) x.path with
  | some y =>
    obtain ⟨h1, h2⟩ := findE_some hf
    have hya := (left_mem.1 h1).1
    obtain ⟨z, hz, h3, h4⟩ := (badE_iff gb).1 (left_bad h1)
    have hzx := sorted_mem_inj gb.sorted hz hx (h3.trans h2)
    subst hzx
    have hfa : findE a z.path = some y := by rw [← h2]; exact findE_mem ga.sorted hya
    rw [hasLike, hfa]
    show likeB y z = (z.folder || decide (y.text = z.text))
    unfold likeB shapeE
    rw [h2, ← h4]
    by_cases hfo : z.folder = true
    · have t1 := folder_text (gb.ents z hz) hfo
      have t2 := folder_text (ga.ents y hya) (by rw [← h4]; exact hfo)
      rw [t1, t2, hfo]
      simp
    · have hfo : z.folder = false := by simpa using hfo
      rw [hfo]
      simp
  | none =>
    show hasLike a x = false
    rw [hasLike]
    cases hfa : findE a x.path with
    | none => rfl
    | some y =>
      obtain ⟨h1, h2⟩ := findE_some hfa
      have hg : goneB a b a.length y = true := by
        rw [← left_find ga h1, h2]
        exact hf
      show likeB y x = false
      unfold goneB at hg
      obtain ⟨p, hp, hin⟩ := List.any_eq_true.1 hg
      obtain ⟨z, hz, hzp, hzb⟩ := dels_bad a b a.length (Nat.le_refl _) p hp
      have hpne : p ≠ [] := by rw [← hzp]; exact pass_ne (ga.path hz)
      by_cases hyp : y.path = p
      · have hyz := sorted_mem_inj ga.sorted h1 hz (hyp.trans hzp.symm)
        rw [← hyz] at hzb
        unfold badE at hzb
        rw [h2, findE_mem gb.sorted hx] at hzb
        unfold likeB shapeE
        refine decide_eq_false fun e => ?_
        simp only [Prod.mk.injEq] at e
        have : x.folder ≠ y.folder := by simpa using hzb
        exact this e.2.1.symm
      · exfalso
        obtain ⟨z', hz', h3, h4⟩ := ga.above hpne h1 hin
        have hzz := sorted_mem_inj ga.sorted hz' hz (h3.trans hzp.symm)
        have hzf : z.folder = true := by rw [← hzz]; exact h4 hyp
        obtain ⟨w, hw, h5, h6⟩ := gb.above hpne hx (by rw [← h2]; exact hin)
        have hwf : w.folder = true := h6 (by rw [← h2]; exact hyp)
        have : badE b z = false := (badE_iff gb).2 ⟨w, hw, h5.trans hzp.symm, by rw [hwf, hzf]⟩
        rw [this] at hzb
        cases hzb
end Go.VM.Tryz
end
section
set_option maxHeartbeats 4000000
set_option linter.unusedVariables false
set_option linter.unusedSimpArgs false
open Go Go.VM Go.Proofs Tether
namespace Go.VM.Tryz
set_option maxRecDepth 100000
set_option maxHeartbeats 4000000
theorem left_0 (a b : List Entry) : leftP a b 0 = a := by
  unfold leftP goneB delsP
  simp
attribute [go_sem] left_0
theorem DiffOf_c (a b : List Entry) (ga : FullT a) (gb : FullT b) : Meets Tryz.prog 37 [esV a, esV b] (.own none 0 5 0 (diffP a b).length .loose) [.arr 5 (diffP a b).length (En Change.enc default (diffP a b))] := by
  refine meets_x (fn := Tryz.f37) Tryz.func37 rfl fb37 (by kernel_rfl) (Nat.le_of_ble_eq_true rfl) ?_
  have hal := ga.len
  have hbl := gb.len
  refine cx_sr ?_
  simp only [go_sem]
  repeat first | (with_reducible refine side_d ?_ ?_; exact byD) | (with_reducible refine side_q ?_ ?_; exact byQ)
  refine cx_sr ?_
  simp only [go_sem]
  refine cx_virt 5 5 (En Change.enc default []) rfl ?_
  simp only [go_sem]
  refine cx_sr ?_
  simp only [go_sem]
  refine cx_seq ?_
  refine cx_sr ?_
  simp only [go_sem]
  refine cx_block ?_
  refine cx_loopk (σ := Nat) (fun i => i ≤ a.length) (fun i => [⟨7, 0, [], .int .i64 (i : Nat)⟩, ⟨5, 0, [], .own none 0 5 0 (delsP a b i).1.length .loose⟩, ⟨6, 0, [], esV (leftP a b i)⟩]) [0, 1, 4] (fun i => [.arr 5 (delsP a b i).1.length (En Change.enc default (delsP a b i).1)]) (fun i => a.length - i) 0 (by first | trivial | omega | simp) (fun _ => (Nat.zero_le _)) byC (fun i hI1 => ?_)
  simp only [go_sem]
  have hdl := dels_len a b i hI1
  have gl := left_full (b := b) ga i
  have gll := gl.len
  refine cx_seq ?_
  refine cx_sr ?_
  simp only [go_sem]
  repeat first | (with_reducible refine side_d ?_ ?_; exact byD) | (with_reducible refine side_q ?_ ?_; exact byQ)
  intro t17 e17
  subst e17
  refine cx_if _ rfl (fun h17 => ?_) (fun h17 => ?_)
  ·
   (try simp only [go_sem] at h17)
   have hxm : a.getD i default ∈ a := getD_mem (by omega)
   have hlf := left_find (b := b) ga (i := i) hxm
   refine cx_skip ?_
   (try simp only [go_sem])
   refine cx_seq (cx_block ?_)
   refine cx_seq ?_
   refine cx_sr ?_
   simp only [go_sem]
   repeat first | (with_reducible refine side_d ?_ ?_; exact byD) | (with_reducible refine side_q ?_ ?_; exact byQ)
   refine cw_m (EntryAt_c (leftP a b i) (a.getD i default).path (by omega)) byW byT ?_
   simp only [go_sem]
   intro t27 e27
   subst e27
   refine cx_if _ rfl (fun h27 => ?_) (fun h27 => ?_)
   ·
    (try simp only [go_sem] at h27)
    refine cx_exit ?_
    simp only [go_sem]
    refine cx_region ?_
    simp only [go_sem]
    intro t19 e19
    (try replace e19 := w64 e19 (by omega) (by omega))
    have hg : goneB a b i (a.getD i default) = true := by
      rw [← hlf]
      rcases find_idx (leftP a b i) (a.getD i default).path with ⟨_, h2⟩ | ⟨k, h1, _⟩
      · exact h2
      · omega
    obtain ⟨e1, e2⟩ := left_same (a := a) (b := b) (by omega) (.inl hg)
    refine rnd_next (i + 1) (by omega) (by first | omega | (dsimp only; omega)) ?_
    rw [e1, e2]
    exact byC
   ·
    (try simp only [go_sem] at h27)
    have hng : goneB a b i (a.getD i default) = false := by
      cases hg : goneB a b i (a.getD i default) with
      | false => rfl
      | true =>
        rw [← hlf] at hg
        rcases find_idx (leftP a b i) (a.getD i default).path with ⟨h1, _⟩ | ⟨k, _, _, h3⟩
        · omega
        · rw [hg] at h3; cases h3
    have hxl : a.getD i default ∈ leftP a b i := left_mem.2 ⟨hxm, hng⟩
    refine cx_skip ?_
    (try simp only [go_sem])
    refine cx_sr ?_
    simp only [go_sem]
    repeat first | (with_reducible refine side_d ?_ ?_; exact byD) | (with_reducible refine side_q ?_ ?_; exact byQ)
    refine cw_m (EntryAt_c b (a.getD i default).path (by omega)) byW byT ?_
    simp only [go_sem]
    refine cx_seq (cx_draw mixed [] (.first 0 (.first 1 (.first 2 (.first 3 (.first 4 (.first 5 (.first 6 (.first 7 (.first 8 (.first 9 (.first 10 (.first 11 (.first 12 (.first 13 (.first 14 (.done)))))))))))))))) (by kernel_rfl) ?_)
    simp only [go_sem]
    intro t36 e36
    repeat ((with_reducible first | refine side_d ?_ ?_ | refine side_q ?_ ?_); focus (first | exact byD | exact byQ | ((refine Sd.of fun hp => ?_; simp only [pc, and_true] at hp; (have q := find_idx b (a.getD i default).path); grind))))
    repeat first | (with_reducible refine side_d ?_ ?_; exact byD) | (with_reducible refine side_q ?_ ?_; exact byQ)
    intro t48 e48
    intro t49 e49
    rw [bsel_or] at e49
    subst e36 e48 e49
    refine cx_if _ rfl (fun h49 => ?_) (fun h49 => ?_)
    ·
     (try simp only [go_sem] at h49)
     refine cx_sr ?_
     simp only [go_sem]
     repeat first | (with_reducible refine side_d ?_ ?_; exact byD) | (with_reducible refine side_q ?_ ?_; exact byQ)
     refine cx_sr ?_
     simp only [go_sem]
     repeat first | (with_reducible refine side_d ?_ ?_; exact byD) | (with_reducible refine side_q ?_ ?_; exact byQ)
     refine cx_region ?_
     simp only [go_sem]
     refine cw_m (ChangeOfF_c (leftP a b i) (delC (a.getD i default)) 1 gl.good ⟨by show (a.getD i default).path.length ≤ 1048576; have := checkP_len (ga.path hxm); omega, by simp [delC], by simp [delC]⟩) byW byT ?_
     simp only [go_sem]
     refine cx_region ?_
     simp only [go_sem]
     intro t19 e19
     (try replace e19 := w64 e19 (by omega) (by omega))
     have hb1 : badE b (a.getD i default) = true := by
       unfold badE
       rcases find_idx b (a.getD i default).path with ⟨h1, h2⟩ | ⟨k, h1, h2, h3⟩
       · rw [h2]
       · rw [h3]
         rw [h1] at h49
         rcases h49 with h | h
         · omega
         · simp only [Int.toNat_natCast] at h
           simpa using h
     have hn := left_next (by omega) hng hb1
     have hr : rawP (leftP a b i) (delC (a.getD i default)) 1 = leftP a b (i + 1) := by
       rw [rawP, if_pos (del_may gl hxl), hn]
       rfl
     have hd : (delsP a b (i + 1)).1 = (delsP a b i).1 ++ [delC (a.getD i default)] := by
       have hng' := hng
       unfold goneB at hng'
       rw [dels_next (by omega), stepD, if_neg (by rw [hng']; decide), if_pos hb1]
     refine rnd_nextr (i + 1) [3] (by omega) (by first | omega | (dsimp only; omega)) ⟨rfl, rfl, ?_, ?_⟩
     · rw [hd, ← hr]; exact byC
     · rw [hd]
       simp only [go_sem, wk, wks, wkB, wkH, List.length_append, List.length_cons, List.length_nil]
       exact fun q hq => wks_mp_snoc (x := delC (a.getD i default)) (fun x => rnVs_no _ rfl) rfl hq
    ·
     (try simp only [go_sem] at h49)
     refine cx_skip ?_
     (try simp only [go_sem])
     refine cx_region ?_
     simp only [go_sem]
     intro t19 e19
     (try replace e19 := w64 e19 (by omega) (by omega))
     have hb1 : badE b (a.getD i default) = false := by
       unfold badE
       rcases find_idx b (a.getD i default).path with ⟨h1, h2⟩ | ⟨k, h1, h2, h3⟩
       · exfalso
         rw [h1] at h49
         simp at h49
       · rw [h3]
         rw [h1] at h49
         simp only [Int.toNat_natCast] at h49
         simpa using h49.2
     obtain ⟨e1, e2⟩ := left_same (a := a) (b := b) (by omega) (.inr hb1)
     refine rnd_next (i + 1) (by omega) (by first | omega | (dsimp only; omega)) ?_
     rw [e1, e2]
     exact byC
  ·
   (try simp only [go_sem] at h17)
   obtain rfl : i = a.length := by omega
   have e0 : (delsP a b a.length).1 = outD a b 0 := by simp [outD, addsP]
   rw [e0]
   refine cx_exit ?_
   simp only [go_sem]
   refine cx_seq ?_
   refine cx_sr ?_
   simp only [go_sem]
   refine cx_block ?_
   refine cx_loopk (σ := Nat) (fun i => i ≤ b.length) (fun i => [⟨10, 0, [], .int .i64 (i : Nat)⟩, ⟨5, 0, [], .own none 0 5 0 (outD a b i).length .loose⟩]) [1, 4, 6] (fun i => [.arr 5 (outD a b i).length (En Change.enc default (outD a b i))]) (fun i => b.length - i) 0 (by first | trivial | omega | simp) (fun _ => (Nat.zero_le _)) byC (fun i hI2 => ?_)
   simp only [go_sem]
   have hll := outD_len a b i
   refine cx_seq ?_
   refine cx_sr ?_
   simp only [go_sem]
   repeat first | (with_reducible refine side_d ?_ ?_; exact byD) | (with_reducible refine side_q ?_ ?_; exact byQ)
   intro t69 e69
   subst e69
   refine cx_if _ rfl (fun h69 => ?_) (fun h69 => ?_)
   ·
    (try simp only [go_sem] at h69)
    have hym : b.getD i default ∈ b := getD_mem (by omega)
    have hlk := hasLike_left ga gb hym
    have han := adds_next (a := a) (b := b) (i := i) (by omega)
    refine cx_skip ?_
    (try simp only [go_sem])
    refine cx_seq (cx_block ?_)
    refine cx_sr ?_
    simp only [go_sem]
    repeat first | (with_reducible refine side_d ?_ ?_; exact byD) | (with_reducible refine side_q ?_ ?_; exact byQ)
    refine cw_m (EntryAt_c (leftP a b a.length) (b.getD i default).path (by have := (left_full (b := b) ga a.length).len; omega)) byW byT ?_
    simp only [go_sem]
    refine cx_seq ?_
    refine cx_seq (cx_draw mixed [] (.first 0 (.first 1 (.first 2 (.first 3 (.first 4 (.first 5 (.first 6 (.first 7 (.first 8 (.first 9 (.first 10 (.first 11 (.first 12 (.first 13 (.first 14 (.first 15 (.first 16 (.first 17 (.first 18 (.first 19 (.first 20 (.first 21 (.done))))))))))))))))))))))) (by kernel_rfl) ?_)
    simp only [go_sem]
    intro t80 e80
    repeat ((with_reducible first | refine side_d ?_ ?_ | refine side_q ?_ ?_); focus (first | exact byD | exact byQ | ((refine Sd.of fun hp => ?_; simp only [pc, and_true] at hp; (have q := find_idx (leftP a b a.length) (b.getD i default).path); grind))))
    repeat first | (with_reducible refine side_d ?_ ?_; exact byD) | (with_reducible refine side_q ?_ ?_; exact byQ)
    intro t98 e98
    intro t99 e99
    rw [bsel_or] at e99
    intro t100 e100
    rw [bsel_and] at e100
    subst e80 e98 e99 e100
    refine cx_if _ rfl (fun h100 => ?_) (fun h100 => ?_)
    ·
     (try simp only [go_sem] at h100)
     refine cx_exit ?_
     simp only [go_sem]
     refine cx_region ?_
     simp only [go_sem]
     intro t71 e71
     (try replace e71 := w64 e71 (by omega) (by omega))
     have hl1 : hasLike a (b.getD i default) = true := by
       rw [hlk]
       rcases find_idx (leftP a b a.length) (b.getD i default).path with ⟨h1, h2⟩ | ⟨k, h1, h2, h3⟩
       · rw [h1] at h100
         exact absurd h100.1 (by decide)
       · rw [h3]
         rw [h1] at h100
         simp only [Int.toNat_natCast] at h100
         simpa using h100.2
     have hd : outD a b (i + 1) = outD a b i := by rw [outD, han, if_pos hl1, outD]
     refine rnd_next (i + 1) (by omega) (by first | omega | (dsimp only; omega)) ?_
     rw [hd]
     exact byC
    ·
     (try simp only [go_sem] at h100)
     refine cx_skip ?_
     (try simp only [go_sem])
     refine cx_seq (cx_draw mixed [12] (.first 0 (.first 1 (.first 2 (.first 3 (.first 4 (.first 5 (.first 6 (.first 7 (.first 8 (.first 9 (.first 10 (.one 11 (.one 12 (.done)))))))))))))) (by kernel_rfl) ?_)
     simp only [go_sem]
     repeat first | (with_reducible refine side_d ?_ ?_; exact byD) | (with_reducible refine side_q ?_ ?_; exact byQ)
     refine cx_seq ?_
     refine cx_sr ?_
     simp only [go_sem]
     repeat first | (with_reducible refine side_d ?_ ?_; exact byD) | (with_reducible refine side_q ?_ ?_; exact byQ)
     refine cx_meet (σ := Unit) (fun u => True) (fun u => []) [1, 4, 5, 6, 10, 12] (fun u => [.arr 5 (outD a b i).length (En Change.enc default (outD a b i)), .box [.int .i64 (if (b.getD i default).folder = true then 1 else 2), .str (b.getD i default).path, .str [], .str (b.getD i default).text, .int .i64 (-1)]]) (fun _ => (Nat.zero_le _)) ?_ (fun u hIM1 => ?_)
     ·
      refine cx_if _ rfl (fun h116 => ?_) (fun h116 => ?_)
      ·
       (try simp only [go_sem] at h116)
       refine cx_region ?_
       simp only [go_sem]
       refine mt_next () trivial ?_
       rw [if_pos h116]
       exact byC
      ·
       (try simp only [go_sem] at h116)
       refine cx_skip ?_
       (try simp only [go_sem])
       refine mt_next () trivial ?_
       rw [if_neg (by simpa using h116)]
       exact byC
     simp only [go_sem]
     refine cx_region ?_
     simp only [go_sem]
     repeat first | (with_reducible refine side_d ?_ ?_; exact byD) | (with_reducible refine side_q ?_ ?_; exact byQ)
     refine cx_region ?_
     simp only [go_sem]
     intro t71 e71
     (try replace e71 := w64 e71 (by omega) (by omega))
     have hl1 : ¬ hasLike a (b.getD i default) = true := by
       rw [hlk]
       rcases find_idx (leftP a b a.length) (b.getD i default).path with ⟨h1, h2⟩ | ⟨k, h1, h2, h3⟩
       · rw [h2]; simp
       · rw [h3]
         rw [h1] at h100
         simp only [Int.toNat_natCast] at h100
         simp only [Bool.or_eq_true, decide_eq_true_eq]
         intro h
         grind
     have hd : outD a b (i + 1) = outD a b i ++ [addC (b.getD i default)] := by rw [outD, han, if_neg hl1, ← List.append_assoc, outD]
     refine rnd_nextr (i + 1) [3] (by omega) (by first | omega | (dsimp only; omega)) ⟨rfl, rfl, ?_, ?_⟩
     · (try rw [hd]); exact byC
     · rw [hd]; skip
       simp only [go_sem, wk, wks, wkB, wkH, List.length_append, List.length_cons, List.length_nil]
       first | exact fun q hq => wks_mp_snoc (fun x => rnVs_no _ rfl) (by rfl) hq | (and_intros <;> first | trivial | rfl | omega | (exact fun q hq => wks_mp_snoc (fun x => rnVs_no _ rfl) (by rfl) hq) | exact wks_refl _ | exact byC)
   ·
    (try simp only [go_sem] at h69)
    refine cx_exit ?_
    simp only [go_sem]
    refine cx_sr ?_
    simp only [go_sem]
    refine cx_ret ?_
    simp only [go_sem]
    obtain rfl : i = b.length := by omega
    have hd : diffP a b = outD a b b.length := rfl
    rw [hd]
    exact finx_of 1 [0] rfl byC byC byC byC
end Go.VM.Tryz
end
section
set_option maxHeartbeats 4000000
set_option linter.unusedVariables false
set_option linter.unusedSimpArgs false
open Go Go.VM Go.Proofs Tether
namespace Go.VM.Tryz
set_option maxRecDepth 100000
theorem diffP_len (a b : List Entry) : (diffP a b).length ≤ a.length + b.length := outD_len a b b.length
end Go.VM.Tryz
end
section
set_option maxHeartbeats 4000000
set_option linter.unusedVariables false
set_option linter.unusedSimpArgs false
open Go Go.VM Go.Proofs Tether
namespace Go.VM.Tryz
set_option maxRecDepth 100000
end Go.VM.Tryz
end
section
set_option maxHeartbeats 4000000
set_option linter.unusedVariables false
set_option linter.unusedSimpArgs false
open Go Go.VM Go.Proofs Tether
namespace Go.VM.Tryz
set_option maxRecDepth 100000
end Go.VM.Tryz
end
section
set_option maxHeartbeats 4000000
set_option linter.unusedVariables false
set_option linter.unusedSimpArgs false
open Go Go.VM Go.Proofs Tether
namespace Go.VM.Tryz
set_option maxRecDepth 100000
theorem dels_ok {a b : List Entry} (ga : FullT a) : ∀ i, i ≤ a.length → ∀ c ∈ (delsP a b i).1, okC c
  | 0, _, c, hc => by simp [delsP] at hc
  | i + 1, h, c, hc => by
    have ih := dels_ok (b := b) ga i (by omega)
    rw [dels_next (by omega)] at hc
    unfold stepD at hc
    split at hc
    · exact ih c hc
    · split at hc
      · rcases List.mem_append.1 hc with hc | hc
        · exact ih c hc
        · obtain rfl := List.mem_singleton.1 hc
          have := (ga.ok.2 _ (getD_mem (d := default) (show i < a.length by omega))).1
          exact ⟨this, by simp [delC], by simp [delC]⟩
      · exact ih c hc
theorem diff_ok {a b : List Entry} (ga : FullT a) (gb : FullT b) : okCs (diffP a b) := by
  refine ⟨by have := diffP_len a b; have := ga.len; have := gb.len; omega, fun c hc => ?_⟩
  rcases List.mem_append.1 hc with hc | hc
  · exact dels_ok ga _ (Nat.le_refl _) c hc
  · obtain ⟨x, hx, rfl⟩ := List.mem_map.1 hc
    have hxb : x ∈ b := by have := (List.mem_filter.1 hx).1; rwa [List.take_length] at this
    have := gb.ok.2 x hxb
    exact ⟨this.1, by simp [addC], this.2⟩
end Go.VM.Tryz
end
section
set_option maxHeartbeats 4000000
set_option linter.unusedVariables false
set_option linter.unusedSimpArgs false
open Go Go.VM Go.Proofs Tether
namespace Tether
structure Commit where
  number : Int
  key : Str
  changes : List Change
  deriving Inhabited, DecidableEq
structure Page where
  whole : Bool
  tree : List Entry
  commits : List Commit
  cursor : Int
  more : Bool
  deriving Inhabited, DecidableEq
end Tether
namespace Go.VM.Tryz
set_option maxRecDepth 100000
def cmE (c : Commit) : List V := [.int .i64 c.number, .str c.key, csV c.changes]
theorem cmE_eq (c : Commit) : cmE c = [.int .i64 c.number, .str c.key, csV c.changes] := rfl
attribute [go_sem] cmE_eq
abbrev cmsV (l : List Commit) : V := lstV 3 cmE default l
def pgE (p : Page) : List V := [.bool p.whole, esV p.tree, cmsV p.commits, .int .i64 p.cursor, .bool p.more]
theorem pgE_eq (p : Page) : pgE p = [.bool p.whole, esV p.tree, cmsV p.commits, .int .i64 p.cursor, .bool p.more] := rfl
attribute [go_sem] pgE_eq
def isCur (n : Int) : Bool := decide (0 ≤ n) && decide (n ≤ 1000000)
theorem RIsCursor_c (n : Int) : Meets Tryz.prog 28 [.int .i64 n] (.bool (isCur n)) [] := by
  refine meets_x (fn := Tryz.f28) Tryz.func28 rfl fb28 (by kernel_rfl) (Nat.le_of_ble_eq_true rfl) ?_
  refine cx_sr ?_
  simp only [go_sem]
  repeat first | (with_reducible refine side_d ?_ ?_; exact byD) | (with_reducible refine side_q ?_ ?_; exact byQ)
  refine cx_sr ?_
  simp only [go_sem]
  intro t4 e4
  intro t7 e7
  intro t8 e8
  rw [bsel_and] at e8
  subst e4 e7 e8
  refine cx_ret ?_
  simp only [go_sem]
  exact finw_bool (by simp [isCur])
end Go.VM.Tryz
end
section
set_option maxHeartbeats 4000000
set_option linter.unusedVariables false
set_option linter.unusedSimpArgs false
open Go Go.VM Go.Proofs Tether
namespace Go.VM.Tryz
set_option maxRecDepth 100000
end Go.VM.Tryz
end
section
set_option maxHeartbeats 4000000
set_option linter.unusedVariables false
set_option linter.unusedSimpArgs false
open Go Go.VM Go.Proofs Tether
namespace Go.VM.Tryz
set_option maxRecDepth 100000
end Go.VM.Tryz
end
