import Derived.Test.YtbeimhhhgjaaaaaDoorWW3
import Derived.Test.YtbeimhhhgjaaaaaDoorWW4
import Derived.Test.YtbeimhhhgjaaaaaDoorWV7
section
set_option maxHeartbeats 4000000
set_option linter.unusedVariables false
set_option linter.unusedSimpArgs false
open Go Go.VM Go.Proofs Tether
namespace Tether
structure Client where
  who : Str
  folder : Str
  base : List Entry
  cursor : Int
  mine : List Entry
  key : Str
  asked : List Change
  keys : Int
  deriving Inhabited, DecidableEq
structure Request where
  kind : Int
  who : Str
  folder : Str
  name : Str
  key : Str
  text : Str
  number : Int
  offset : Int
  base : Int
  changes : List Change
  deriving Inhabited, DecidableEq
end Tether
namespace Go.VM.Tryd
set_option maxRecDepth 100000
def clE (c : Client) : List V := [.str c.who, .str c.folder, esV c.base, .int .i64 c.cursor, esV c.mine, .str c.key, csV c.asked, .int .i64 c.keys]
theorem clE_eq (c : Client) : clE c = [.str c.who, .str c.folder, esV c.base, .int .i64 c.cursor, esV c.mine, .str c.key, csV c.asked, .int .i64 c.keys] := rfl
def rqE (r : Request) : List V := [.int .i64 r.kind, .str r.who, .str r.folder, .str r.name, .str r.key, .str r.text, .int .i64 r.number, .int .i64 r.offset, .int .i64 r.base, csV r.changes]
theorem rqE_eq (r : Request) : rqE r = [.int .i64 r.kind, .str r.who, .str r.folder, .str r.name, .str r.key, .str r.text, .int .i64 r.number, .int .i64 r.offset, .int .i64 r.base, csV r.changes] := rfl
attribute [go_sem] clE_eq rqE_eq
def okCl (c : Client) : Prop := c.who.length ≤ 1048576 ∧ c.folder.length ≤ 1048576 ∧ okE c.base ∧ okE c.mine ∧ c.key.length ≤ 1048576 ∧ okCs c.asked
def noCl : Client := ⟨[], [], [], 0, [], [], [], 0⟩
def noRq : Request := ⟨0, [], [], [], [], [], 0, 0, 0, []⟩
theorem okM_noCl : okCl noCl := ⟨by simp [noCl], by simp [noCl], ⟨by simp [noCl], by simp [noCl]⟩, ⟨by simp [noCl], by simp [noCl]⟩, by simp [noCl], ⟨by simp [noCl], by simp [noCl]⟩⟩
def nameErr (c : Client) : Bool := !isName c.who || !isName c.folder || !isKey c.who || decide (10 < c.who.length)
def checkCl (c : Client) : Int :=
  if nameErr c = true then 1 else if checkT c.base ≠ 0 then checkT c.base else if checkT c.mine ≠ 0 then checkT c.mine
  else if isCur c.cursor = false ∨ isCur c.keys = false then 3 else if c.key ≠ [] ∧ isKey c.key = false then 1
  else if ¬ (c.key = [] ↔ c.asked = []) then 4 else if 20 < c.asked.length then 2 else 0
theorem within_c (n a b : Int) : Meets Tryd.prog 34 [.int .i64 n, .int .i64 a, .int .i64 b] (.bool (decide (a ≤ n) && decide (n ≤ b))) [] := by
  refine meets_x (fn := Tryd.f34) Tryd.func34 rfl fb34 (by kernel_rfl) (Nat.le_of_ble_eq_true rfl) ?_
  refine cx_sr ?_
  simp only [go_sem]
  repeat first | (with_reducible refine side_d ?_ ?_; exact byD) | (with_reducible refine side_q ?_ ?_; exact byQ)
  refine cx_sr ?_
  simp only [go_sem]
  intro t9 e9
  intro t13 e13
  intro t14 e14
  rw [bsel_and] at e14
  subst e9 e13 e14
  refine cx_ret ?_
  simp only [go_sem]
  exact finw_bool (by simp)
theorem nil_len {α : Type} (l : List α) : l = [] ↔ l.length = 0 := List.length_eq_zero_iff.symm
theorem CCheck_c (c : Client) (ok : okCl c) : Meets Tryd.prog 15 [.agg (clE c)] (.int .i64 (checkCl c)) [] := by
  refine meets_x (fn := Tryd.f15) Tryd.func15 rfl fb15 (by kernel_rfl) (Nat.le_of_ble_eq_true rfl) ?_
  obtain ⟨o1, o2, o3, o4, o5, o6⟩ := ok
  have hbl := o3.1
  have hml := o4.1
  have hal := o6.1
  refine cx_sr ?_
  simp only [go_sem]
  repeat first | (with_reducible refine side_d ?_ ?_; exact byD) | (with_reducible refine side_q ?_ ?_; exact byQ)
  refine cx_seq ?_
  refine cx_sr ?_
  simp only [go_sem]
  refine cw_m (IsName_c c.who (by omega)) byW byT ?_
  simp only [go_sem]
  intro t9 e9
  refine ⟨_, fun hp => cw_m (IsName_c c.folder (by omega)) byW byT ⟨rfl, rfl⟩, ?_⟩
  simp only [go_sem]
  intro t14 e14
  intro t15 e15
  rw [bsel_or] at e15
  refine ⟨_, fun hp => cw_m (IsKey_c c.who (by omega)) byW byT ⟨rfl, rfl⟩, ?_⟩
  simp only [go_sem]
  intro t20 e20
  intro t21 e21
  rw [bsel_or] at e21
  intro t26 e26
  intro t27 e27
  rw [bsel_or] at e27
  subst e9 e14 e15 e20 e21 e26 e27
  refine cx_if _ rfl (fun h27 => ?_) (fun h27 => ?_)
  ·
   (try simp only [go_sem] at h27)
   have hn : nameErr c = true := by
     unfold nameErr
     grind
   refine cx_sr ?_
   simp only [go_sem]
   refine cx_ret ?_
   simp only [go_sem]
   refine finw_int ?_
   rw [checkCl, if_pos hn]
  ·
   (try simp only [go_sem] at h27)
   have hn : ¬ nameErr c = true := by
     unfold nameErr
     grind
   refine cx_skip ?_
   (try simp only [go_sem])
   refine cx_seq ?_
   refine cx_sr ?_
   simp only [go_sem]
   refine cx_block ?_
   refine cx_loopk (σ := Nat) (fun i => i ≤ 2 ∧ ∀ a, a < i → checkT ([c.base, c.mine].getD a []) = 0) (fun i => [⟨34, 0, [], .int .i64 (i : Nat)⟩, ⟨32, 0, [], .own none 1 1 0 2 .loose⟩]) [1, 33] (fun i => [.box (clE c), .arr 1 2 (En treeE [] [c.base, c.mine])]) (fun i => 2 - i) 0 ⟨Nat.zero_le _, fun b hb => absurd hb (Nat.not_lt_zero b)⟩ (fun _ => (Nat.zero_le _)) (by simp only [go_sem, wk, wks, wkB, wkH, subw, subEw, hprew, ltb, subr, subEr]; refine ⟨rfl, fun i hi => ?_⟩; rcases (by omega : i = 0 ∨ i = 1) with rfl | rfl <;> exact ⟨⟨rfl, rfl, .inr rfl, .inr rfl, fun i hi => wks_refl _⟩, rfl⟩) (fun i hI1 => ?_)
   simp only [go_sem]
   refine cx_sr ?_
   simp only [go_sem]
   repeat first | (with_reducible refine side_d ?_ ?_; exact byD) | (with_reducible refine side_q ?_ ?_; exact byQ)
   intro t35 e35
   subst e35
   refine cx_seq ?_
   refine cx_if _ rfl (fun h35 => ?_) (fun h35 => ?_)
   ·
    (try simp only [go_sem] at h35)
    have hok : okE ([c.base, c.mine].getD i []) := by
      rcases (by omega : i = 0 ∨ i = 1) with rfl | rfl
      · exact o3
      · exact o4
    refine cx_skip ?_
    (try simp only [go_sem])
    refine cx_seq (cx_block ?_)
    refine cx_sr ?_
    simp only [go_sem]
    repeat first | (with_reducible refine side_d ?_ ?_; exact byD) | (with_reducible refine side_q ?_ ?_; exact byQ)
    refine cx_sr ?_
    simp only [go_sem]
    refine cw_m (TCheck_c ([c.base, c.mine].getD i []) hok) byW byT ?_
    simp only [go_sem]
    refine cx_sr ?_
    simp only [go_sem]
    intro t41 e41
    subst e41
    refine cx_if _ rfl (fun h41 => ?_) (fun h41 => ?_)
    ·
     (try simp only [go_sem] at h41)
     refine cx_sr ?_
     simp only [go_sem]
     refine cx_ret ?_
     simp only [go_sem]
     refine finw_int ?_
     have hne : checkT ([c.base, c.mine].getD i []) ≠ 0 := by simpa using h41
     rcases (by omega : i = 0 ∨ i = 1) with rfl | rfl
     · replace hne : checkT c.base ≠ 0 := hne
       rw [checkCl, if_neg hn, if_pos hne]; rfl
     · have h0 : checkT c.base = 0 := hI1.2 0 (by omega)
       replace hne : checkT c.mine ≠ 0 := hne
       rw [checkCl, if_neg hn, if_neg (by simpa using h0), if_pos hne]; rfl
    ·
     (try simp only [go_sem] at h41)
     refine cx_skip ?_
     (try simp only [go_sem])
     refine cx_region ?_
     simp only [go_sem]
     intro t43 e43
     (try replace e43 := w64 e43 (by omega) (by omega))
     refine rnd_next (i + 1) ⟨by omega, all_next hI1.2 (by simpa using h41)⟩ (by first | omega | (dsimp only; omega)) byC
   ·
    (try simp only [go_sem] at h35)
    have h0 : checkT c.base = 0 := hI1.2 0 (by omega)
    have h1 : checkT c.mine = 0 := hI1.2 1 (by omega)
    have hC : checkCl c = if isCur c.cursor = false ∨ isCur c.keys = false then 3 else if c.key ≠ [] ∧ isKey c.key = false then 1
        else if ¬ (c.key = [] ↔ c.asked = []) then 4 else if 20 < c.asked.length then 2 else 0 := by
      rw [checkCl, if_neg hn, if_neg (by simpa using h0), if_neg (by simpa using h1)]
    refine cx_exit ?_
    simp only [go_sem]
    refine cx_seq (cx_block ?_)
    refine cx_sr ?_
    simp only [go_sem]
    refine cw_m (within_c c.cursor 0 1000000) byW byT ?_
    simp only [go_sem]
    intro t48 e48
    refine ⟨_, fun hp => cw_m (within_c c.keys 0 1000000) byW byT ⟨rfl, rfl⟩, ?_⟩
    simp only [go_sem]
    intro t53 e53
    intro t54 e54
    rw [bsel_or] at e54
    subst e48 e53 e54
    refine cx_if _ rfl (fun h44 => ?_) (fun h44 => ?_)
    ·
     (try simp only [go_sem] at h44)
     refine cx_sr ?_
     simp only [go_sem]
     refine cx_ret ?_
     simp only [go_sem]
     refine finw_int ?_
     rw [hC]
     have e1 := nil_len c.asked
     unfold isCur
     grind
    ·
     (try simp only [go_sem] at h44)
     refine cx_sr ?_
     simp only [go_sem]
     intro t58 e58
     refine ⟨_, fun hp => cw_m (IsKey_c c.key (by omega)) byW byT ⟨rfl, rfl⟩, ?_⟩
     simp only [go_sem]
     intro t63 e63
     intro t64 e64
     rw [bsel_and] at e64
     subst e58 e63 e64
     refine cx_if _ rfl (fun h55 => ?_) (fun h55 => ?_)
     ·
      (try simp only [go_sem] at h55)
      refine cx_sr ?_
      simp only [go_sem]
      refine cx_ret ?_
      simp only [go_sem]
      refine finw_int ?_
      rw [hC]
      have e1 := nil_len c.asked
      unfold isCur
      grind
     ·
      (try simp only [go_sem] at h55)
      refine cx_sr ?_
      simp only [go_sem]
      intro t68 e68
      intro t72 e72
      intro t73 e73
      subst e68 e72 e73
      refine cx_if _ rfl (fun h65 => ?_) (fun h65 => ?_)
      ·
       (try simp only [go_sem] at h65)
       refine cx_sr ?_
       simp only [go_sem]
       refine cx_ret ?_
       simp only [go_sem]
       refine finw_int ?_
       rw [hC]
       have e1 := nil_len c.asked
       unfold isCur
       grind
      ·
       (try simp only [go_sem] at h65)
       refine cx_sr ?_
       simp only [go_sem]
       intro t78 e78
       subst e78
       refine cx_if _ rfl (fun h74 => ?_) (fun h74 => ?_)
       ·
        (try simp only [go_sem] at h74)
        refine cx_sr ?_
        simp only [go_sem]
        refine cx_ret ?_
        simp only [go_sem]
        refine finw_int ?_
        rw [hC]
        have e1 := nil_len c.asked
        unfold isCur
        grind
       ·
        (try simp only [go_sem] at h74)
        refine cx_skip ?_
        (try simp only [go_sem])
        refine cx_sr ?_
        simp only [go_sem]
        refine cx_ret ?_
        simp only [go_sem]
        refine finw_int ?_
        rw [hC]
        have e1 := nil_len c.asked
        unfold isCur
        grind
end Go.VM.Tryd
end
section
set_option maxHeartbeats 4000000
set_option linter.unusedVariables false
set_option linter.unusedSimpArgs false
open Go Go.VM Go.Proofs Tether
namespace Go.VM.Tryd
set_option maxRecDepth 100000
theorem SameClient_c (a b : Client) (oka : okCl a) (okb : okCl b) : Meets Tryd.prog 8 [.agg (clE a), .agg (clE b)] (.bool (decide (a = b))) [] := by
  refine meets_x (fn := Tryd.f8) Tryd.func8 rfl fb8 (by kernel_rfl) (Nat.le_of_ble_eq_true rfl) ?_
  obtain ⟨o1, o2, o3, o4, o5, o6⟩ := oka
  obtain ⟨q1, q2, q3, q4, q5, q6⟩ := okb
  have h1 := o3.1
  have h2 := o4.1
  have h3 := o6.1
  have k1 := q3.1
  have k2 := q4.1
  have k3 := q6.1
  refine cx_sr ?_
  simp only [go_sem]
  repeat first | (with_reducible refine side_d ?_ ?_; exact byD) | (with_reducible refine side_q ?_ ?_; exact byQ)
  refine cx_sr ?_
  simp only [go_sem]
  intro t9 e9
  intro t15 e15
  intro t16 e16
  rw [bsel_and] at e16
  refine ⟨_, fun hp => cw_m (SameEntries_c a.base b.base (by omega) (by omega)) byW byT ⟨rfl, rfl⟩, ?_⟩
  simp only [go_sem]
  intro t23 e23
  rw [bsel_and] at e23
  intro t29 e29
  intro t30 e30
  rw [bsel_and] at e30
  refine ⟨_, fun hp => cw_m (SameEntries_c a.mine b.mine (by omega) (by omega)) byW byT ⟨rfl, rfl⟩, ?_⟩
  simp only [go_sem]
  intro t37 e37
  rw [bsel_and] at e37
  intro t43 e43
  intro t44 e44
  rw [bsel_and] at e44
  refine ⟨_, fun hp => cw_m (SameChanges_c a.asked b.asked (by omega) (by omega)) byW byT ⟨rfl, rfl⟩, ?_⟩
  simp only [go_sem]
  intro t51 e51
  rw [bsel_and] at e51
  intro t57 e57
  intro t58 e58
  rw [bsel_and] at e58
  subst e9 e15 e16 e23 e29 e30 e37 e43 e44 e51 e57 e58
  refine cx_ret ?_
  simp only [go_sem]
  refine finw_bool ?_
  rcases a with ⟨a1, a2, a3, a4, a5, a6, a7, a8⟩
  rcases b with ⟨b1, b2, b3, b4, b5, b6, b7, b8⟩
  simp [sameL, Bool.and_assoc]
theorem SameRequest_c (a b : Request) (oka : a.changes.length ≤ 1048576) (okb : b.changes.length ≤ 1048576) : Meets Tryd.prog 7 [.agg (rqE a), .agg (rqE b)] (.bool (decide (a = b))) [] := by
  refine meets_x (fn := Tryd.f7) Tryd.func7 rfl fb7 (by kernel_rfl) (Nat.le_of_ble_eq_true rfl) ?_
  refine cx_sr ?_
  simp only [go_sem]
  repeat first | (with_reducible refine side_d ?_ ?_; exact byD) | (with_reducible refine side_q ?_ ?_; exact byQ)
  refine cx_sr ?_
  simp only [go_sem]
  intro t9 e9
  intro t15 e15
  intro t16 e16
  rw [bsel_and] at e16
  intro t22 e22
  intro t23 e23
  rw [bsel_and] at e23
  intro t29 e29
  intro t30 e30
  rw [bsel_and] at e30
  intro t36 e36
  intro t37 e37
  rw [bsel_and] at e37
  intro t43 e43
  intro t44 e44
  rw [bsel_and] at e44
  intro t50 e50
  intro t51 e51
  rw [bsel_and] at e51
  intro t57 e57
  intro t58 e58
  rw [bsel_and] at e58
  intro t64 e64
  intro t65 e65
  rw [bsel_and] at e65
  refine ⟨_, fun hp => cw_m (SameChanges_c a.changes b.changes (by omega) (by omega)) byW byT ⟨rfl, rfl⟩, ?_⟩
  simp only [go_sem]
  intro t72 e72
  rw [bsel_and] at e72
  subst e9 e15 e16 e22 e23 e29 e30 e36 e37 e43 e44 e50 e51 e57 e58 e64 e65 e72
  refine cx_ret ?_
  simp only [go_sem]
  refine finw_bool ?_
  rcases a with ⟨a1, a2, a3, a4, a5, a6, a7, a8, a9, a10⟩
  rcases b with ⟨b1, b2, b3, b4, b5, b6, b7, b8, b9, b10⟩
  simp [sameL, Bool.and_assoc]
def newCl (who folder : Str) : Client := ⟨who, folder, [], 0, [], [], [], 0⟩
theorem newCl_ok {who folder : Str} (h1 : who.length ≤ 1048576) (h2 : folder.length ≤ 1048576) : okCl (newCl who folder) := ⟨h1, h2, ⟨by simp [newCl], by simp [newCl]⟩, ⟨by simp [newCl], by simp [newCl]⟩, by simp [newCl], ⟨by simp [newCl], by simp [newCl]⟩⟩
def newP (who folder : Str) : Client := if checkCl (newCl who folder) = 0 then newCl who folder else noCl
theorem CNew_c (who folder : Str) (h1 : who.length ≤ 1048576) (h2 : folder.length ≤ 1048576) : Meets Tryd.prog 13 [.str who, .str folder] (.tup [.agg (clE (newP who folder)), .int .i64 (checkCl (newCl who folder))]) [] := by
  refine meets_x (fn := Tryd.f13) Tryd.func13 rfl fb13 (by kernel_rfl) (Nat.le_of_ble_eq_true rfl) ?_
  refine cx_sr ?_
  simp only [go_sem]
  repeat first | (with_reducible refine side_d ?_ ?_; exact byD) | (with_reducible refine side_q ?_ ?_; exact byQ)
  refine cx_sr ?_
  simp only [go_sem]
  refine cx_seq ?_
  refine cx_sr ?_
  simp only [go_sem]
  refine cw_m (CCheck_c (newCl who folder) (newCl_ok h1 h2)) byW byT ?_
  simp only [go_sem]
  refine cx_sr ?_
  simp only [go_sem]
  intro t14 e14
  subst e14
  refine cx_if _ rfl (fun h14 => ?_) (fun h14 => ?_)
  ·
   (try simp only [go_sem] at h14)
   refine cx_sr ?_
   simp only [go_sem]
   refine cx_ret ?_
   simp only [go_sem]
   have h : ¬ checkCl (newCl who folder) = 0 := by simpa using h14
   rw [newP, if_neg h]
   exact finx_of 2 [] rfl byC byC byC byC
  ·
   (try simp only [go_sem] at h14)
   refine cx_skip ?_
   (try simp only [go_sem])
   refine cx_sr ?_
   simp only [go_sem]
   refine cx_ret ?_
   simp only [go_sem]
   have h : checkCl (newCl who folder) = 0 := by simpa using h14
   rw [newP, if_pos h, h]
   exact finx_of 2 [] rfl byC byC byC byC
end Go.VM.Tryd
end
section
set_option maxHeartbeats 4000000
set_option linter.unusedVariables false
set_option linter.unusedSimpArgs false
open Go Go.VM Go.Proofs Tether
namespace Go.VM.Tryd
set_option maxRecDepth 100000
end Go.VM.Tryd
end
section
set_option maxHeartbeats 4000000
set_option linter.unusedVariables false
set_option linter.unusedSimpArgs false
open Go Go.VM Go.Proofs Tether
namespace Go.VM.Tryd
set_option maxRecDepth 100000
theorem Clone_Change (l : List Change) (hl : l.length * 64 ≤ 140737488355328) : Meets Tryd.prog 19 [lstV 5 Change.enc default l] (.own none 0 5 0 l.length .loose) [.arr 5 l.length (En Change.enc default l)] := by
  refine meets_x (fn := Tryd.f19) Tryd.func19 rfl fb19 (by kernel_rfl) (Nat.le_of_ble_eq_true rfl) ?_
  refine cx_nil 0 rfl fun b hb => ?_
  refine cx_sr ?_
  simp only [go_sem]
  repeat first | (with_reducible refine side_d ?_ ?_; exact byD) | (with_reducible refine side_q ?_ ?_; exact byQ)
  refine cx_seq ?_
  refine cx_sr ?_
  simp only [go_sem]
  intro t4 e4
  subst e4
  refine cx_if _ rfl (fun h4 => ?_) (fun h4 => ?_)
  ·
   (try simp only [go_sem] at h4)
   have hb := hb h4
   refine cx_sr ?_
   simp only [go_sem]
   refine cx_virt 2 5 (En Change.enc default l) rfl ?_
   simp only [go_sem]
   refine cx_ret ?_
   simp only [go_sem]
   exact finx_of 1 [0] rfl byC byC byC byC
  ·
   (try simp only [go_sem] at h4)
   refine cx_skip ?_
   (try simp only [go_sem])
   refine cx_sr ?_
   simp only [go_sem]
   repeat first | (with_reducible refine side_d ?_ ?_; exact byD) | (with_reducible refine side_q ?_ ?_; exact byQ)
   refine cx_ret ?_
   simp only [go_sem]
   exact finx_of 1 [1] rfl byC byC byC byC
theorem Clone_Change_v (l : List Change) (hl : l.length * 64 ≤ 140737488355328) : Meets Tryd.prog 19 [csV l] (csV l) [] :=
  ((Clone_Change l hl).freeze 1 byC).wk (wks_refl _) byC rfl
end Go.VM.Tryd
end
section
set_option maxHeartbeats 4000000
set_option linter.unusedVariables false
set_option linter.unusedSimpArgs false
open Go Go.VM Go.Proofs Tether
namespace Go.VM.Tryd
set_option maxRecDepth 100000
theorem checkCl_ok {c : Client} (h : checkCl c = 0) : FullT c.base ∧ FullT c.mine ∧ 0 ≤ c.cursor ∧ c.cursor ≤ 1000000 ∧ 0 ≤ c.keys ∧ c.keys ≤ 1000000 := by
  have h1 : checkT c.base = 0 := by unfold checkCl at h; grind
  have h2 : checkT c.mine = 0 := by unfold checkCl at h; grind
  have h3 : isCur c.cursor = true := by unfold checkCl at h; grind
  have h4 : isCur c.keys = true := by unfold checkCl at h; grind
  simp [isCur] at h3 h4
  exact ⟨checkT_iff.1 h1, checkT_iff.1 h2, h3.1, h3.2, h4.1, h4.2⟩
theorem Clone_Entry_w (l : List Entry) (hl : l.length * 48 ≤ 140737488355328) : Meets Tryd.prog 26 [esV l] (esV l) [] :=
  ((Clone_Entry l hl).freeze 1 byC).wk (wks_refl _) byC rfl
theorem clonedC_c (c : Client) (ok : okCl c) : Meets Tryd.prog 16 [.agg (clE c)] (.agg (clE c)) [] := by
  refine meets_x (fn := Tryd.f16) Tryd.func16 rfl fb16 (by kernel_rfl) (Nat.le_of_ble_eq_true rfl) ?_
  obtain ⟨o1, o2, o3, o4, o5, o6⟩ := ok
  have hbl := o3.1
  have hml := o4.1
  have hal := o6.1
  refine cx_sr ?_
  simp only [go_sem]
  repeat first | (with_reducible refine side_d ?_ ?_; exact byD) | (with_reducible refine side_q ?_ ?_; exact byQ)
  refine cx_seq (cx_draw mixed [10, 12, 14] (.first 0 (.first 1 (.first 3 (.first 4 (.first 6 (.first 7 (.one 2 (.first 9 (.one 5 (.one 8 (.one 10 (.first 11 (.one 12 (.first 13 (.one 14 (.done)))))))))))))))) (by kernel_rfl) ?_)
  simp only [go_sem]
  refine cwE_m (Clone_Entry_w c.base (by omega)) byW byT ?_
  simp only [go_sem]
  refine cwE_m (Clone_Entry_w c.mine (by omega)) byW byT ?_
  simp only [go_sem]
  refine cwE_m (Clone_Change_v c.asked (by omega)) byW byT ?_
  simp only [go_sem]
  refine cx_sr ?_
  simp only [go_sem]
  refine cx_ret ?_
  simp only [go_sem]
  exact finx_of 1 [] rfl byC byC byC byC
def editP (c : Client) (x : Change) : Client × Int :=
  if checkCl c ≠ 0 then (noCl, checkCl c) else if x.base ≠ -1 then (noCl, 3) else if rawErr c.mine x 1 ≠ 0 then (noCl, rawErr c.mine x 1) else ({ c with mine := madeP c.mine x 1 }, 0)
theorem apply_rawC {l : List Entry} (h : FullT l) (x : Change) : applyErr l x 1 = rawErr l x 1 ∧ applyP l x 1 = rawP l x 1 := by
  have h1 : checkT l = 0 := checkT_iff.2 h
  have h2 : applyErr l x 1 = rawErr l x 1 := by
    rw [applyErr, if_neg (by simpa using h1), if_neg (by decide)]
  exact ⟨h2, by rw [applyP, rawP, h2]⟩
theorem Apply_v (l : List Entry) (c : Change) (v : Int) (okl : okE l) (ok : okC c) : Meets Tryd.prog 22 [esV l, .agg c.enc, .int .i64 v] (.tup [esV (applyP l c v), .int .i64 (applyErr l c v)]) [] :=
  ((Apply_c l c v okl ok).freeze 1 byC).wk (wks_refl _) byC rfl
theorem Edit_c (c : Client) (x : Change) (ok : okCl c) (okx : okC x) : Meets Tryd.prog 14 [.agg (clE c), .agg x.enc] (.tup [.agg (clE (editP c x).1), .int .i64 (editP c x).2]) [] := by
  refine meets_x (fn := Tryd.f14) Tryd.func14 rfl fb14 (by kernel_rfl) (Nat.le_of_ble_eq_true rfl) ?_
  refine cx_sr ?_
  simp only [go_sem]
  repeat first | (with_reducible refine side_d ?_ ?_; exact byD) | (with_reducible refine side_q ?_ ?_; exact byQ)
  refine cx_seq ?_
  refine cx_sr ?_
  simp only [go_sem]
  refine cw_m (CCheck_c c ok) byW byT ?_
  simp only [go_sem]
  refine cx_sr ?_
  simp only [go_sem]
  intro t12 e12
  subst e12
  refine cx_if _ rfl (fun h12 => ?_) (fun h12 => ?_)
  ·
   (try simp only [go_sem] at h12)
   refine cx_sr ?_
   simp only [go_sem]
   refine cx_ret ?_
   simp only [go_sem]
   have h : checkCl c ≠ 0 := by simpa using h12
   have he : editP c x = (noCl, checkCl c) := by rw [editP, if_pos h]
   rw [he]
   exact finx_of 2 [] rfl byC byC byC byC
  ·
   (try simp only [go_sem] at h12)
   have h0 : checkCl c = 0 := by simpa using h12
   have hf := (checkCl_ok h0).2.1
   obtain ⟨ha1, ha2⟩ := apply_rawC hf x
   have hA := Apply_v c.mine x 1 ok.2.2.2.1 okx
   rw [ha1, ha2] at hA
   refine cx_skip ?_
   (try simp only [go_sem])
   refine cx_seq ?_
   refine cx_sr ?_
   simp only [go_sem]
   intro t17 e17
   subst e17
   refine cx_if _ rfl (fun h17 => ?_) (fun h17 => ?_)
   ·
    (try simp only [go_sem] at h17)
    refine cx_sr ?_
    simp only [go_sem]
    refine cx_ret ?_
    simp only [go_sem]
    have h : x.base ≠ -1 := by simpa using h17
    have he : editP c x = (noCl, 3) := by rw [editP, if_neg (by simpa using h0), if_pos h]
    rw [he]
    exact finx_of 2 [] rfl byC byC byC byC
   ·
    (try simp only [go_sem] at h17)
    refine cx_skip ?_
    (try simp only [go_sem])
    refine cx_sr ?_
    simp only [go_sem]
    refine cw_m (hA) byW byT ?_
    simp only [go_sem]
    refine cx_seq ?_
    refine cx_sr ?_
    simp only [go_sem]
    intro t27 e27
    subst e27
    refine cx_if _ rfl (fun h27 => ?_) (fun h27 => ?_)
    ·
     (try simp only [go_sem] at h27)
     refine cx_sr ?_
     simp only [go_sem]
     refine cx_ret ?_
     simp only [go_sem]
     have h : ¬ x.base ≠ -1 := by simpa using h17
     have h1 : rawErr c.mine x 1 ≠ 0 := by simpa using h27
     have he : editP c x = (noCl, rawErr c.mine x 1) := by rw [editP, if_neg (by simpa using h0), if_neg h, if_pos h1]
     rw [he]
     exact finx_of 2 [] rfl byC byC byC byC
    ·
     (try simp only [go_sem] at h27)
     refine cx_skip ?_
     (try simp only [go_sem])
     refine cx_sr ?_
     simp only [go_sem]
     refine cw_m (clonedC_c c ok) byW byT ?_
     simp only [go_sem]
     refine cx_sr ?_
     simp only [go_sem]
     refine cx_sr ?_
     simp only [go_sem]
     refine cx_ret ?_
     simp only [go_sem]
     have h : ¬ x.base ≠ -1 := by simpa using h17
     have h1 : ¬ rawErr c.mine x 1 ≠ 0 := by simpa using h27
     have he : editP c x = ({ c with mine := madeP c.mine x 1 }, 0) := by rw [editP, if_neg (by simpa using h0), if_neg h, if_neg h1]
     have hr : rawP c.mine x 1 = madeP c.mine x 1 := by rw [rawP, if_pos (Classical.not_not.1 h1)]
     rw [he, hr]
     exact finx_of 2 [] rfl byC byC byC byC
end Go.VM.Tryd
end
