import Derived.Test.YtbeimhhhgjaaaaaDoorWW1
import Derived.Test.YtbeimhhhgjaaaaaDoorWV8
import Derived.Test.YtbeimhhhgjaaaaaDoorWW5
import Derived.Test.YtbeimhhhgjaaaaaDoorWW3
import Derived.Test.YtbeimhhhgjaaaaaDoorWV7
import Derived.Lib.ItoaLen
import Derived.Shelf.Lay
section
set_option maxHeartbeats 4000000
set_option linter.unusedVariables false
set_option linter.unusedSimpArgs false
open Go Go.VM Go.Proofs
namespace Go.Proofs
open Go.Shelf
shelf_lay LaysM.n171 Nm 171 at Tryd as Tryd.laysItoa
end Go.Proofs
namespace Go.VM.Tryd
set_option maxRecDepth 100000
/-- strconv.Itoa, whatever the number -/
theorem ItoaF_c (n : Int) (h0 : -9223372036854775808 ≤ n) (h1 : n ≤ 9223372036854775807) : Meets Tryd.prog 18 [.int .i64 n] (.str (Lib.itoa n)) [] :=
  meets_grow (us0 := #[.int .i64 n]) (u0 := .string ⟨(Lib.itoa n).toArray⟩) (by kernel_rfl) (fun c us hsz h => args1 hsz h fun u hu => by simpa only [VR] using hu) (fun c => by simp [VR])
    fun w gt => Any.strconv_Itoa Go.Proofs.Tryd.laysItoa n h0 h1 w (tabIs_of gt (g := (Tryd.prog.globalNamed "internal/strconv.uint64pow10").getD 0) (by kernel_rfl))
end Go.VM.Tryd
end
section
set_option maxHeartbeats 4000000
set_option linter.unusedVariables false
set_option linter.unusedSimpArgs false
open Go Go.VM Go.Proofs Tether
namespace Go.VM.Tryd
set_option maxRecDepth 100000
def rebC (b : Int) (c : Change) : Change := ⟨c.kind, c.path, c.to, c.text, b⟩
def sentL (c : Client) : List Change := ((diffP c.base c.mine).take 20).map (rebC c.cursor)
def reqOf (c : Client) : Request := ⟨1, c.who, c.folder, [], c.key, [], 0, 0, 0, c.asked⟩
def keyOf (c : Client) : Str := c.who ++ [45] ++ Lib.itoa (c.keys + 1)
def sentC (c : Client) : Client := ⟨c.who, c.folder, c.base, c.cursor, c.mine, keyOf c, sentL c, c.keys + 1⟩
def sendP (c : Client) : Client × Request × Bool × Int :=
  if checkCl c ≠ 0 then (noCl, noRq, false, checkCl c) else if c.key = [] then
    if sentL c = [] then (c, noRq, false, 0) else if c.keys = 1000000 then (noCl, noRq, false, 3) else (sentC c, reqOf (sentC c), true, 0)
  else (c, reqOf c, true, 0)
def rebL (b : Int) (l : List Change) (i : Nat) : List Change := (l.take i).map (rebC b) ++ l.drop i
theorem rebL_len (b : Int) (l : List Change) {i : Nat} (hi : i ≤ l.length) : (rebL b l i).length = l.length := by
  simp [rebL]; omega
theorem rebL_zero (b : Int) (l : List Change) : rebL b l 0 = l := by simp [rebL]
theorem rebL_at {b : Int} {l : List Change} {i : Nat} (hi : i < l.length) : (rebL b l i).getD i default = l.getD i default := by
  simp only [rebL, List.getD_eq_getElem?_getD]
  rw [List.getElem?_append_right (by simp; omega)]
  simp [show min i l.length = i by omega, List.getElem?_drop]
theorem rebL_next {b : Int} {l : List Change} {i : Nat} (hi : i < l.length) : rebL b l (i + 1) = (rebL b l i).set i (rebC b (l.getD i default)) := by
  have hd : l.getD i default = l[i] := by simp [List.getD, hi]
  have hl : ((l.take i).map (rebC b)).length = i := by simp; omega
  rw [rebL, rebL, List.set_append_right _ _ (by omega), hl, Nat.sub_self, List.drop_eq_getElem_cons hi, List.set_cons_zero, hd, List.take_add_one, List.getElem?_eq_getElem hi]
  simp only [List.map_append, List.append_assoc, Option.toList, List.map_cons, List.map_nil, List.cons_append, List.nil_append]
attribute [go_sem] rebL_zero
theorem stF_set {α : Type} {enc : α → List V} {d x : α} {l : List α} {k o i : Nat} {vs : List V} (hk : k < l.length) (hx : spl (enc (l.getD k d)) o vs = enc x) : stF (En enc d l) k o vs i = En enc d (l.set k x) i := by
  unfold stF
  cases hb : Nat.beq i k with
  | true =>
    have e : i = k := Nat.eq_of_beq_eq_true hb
    subst e
    simp only [cond, En]
    rw [hx]
    simp [List.getD, hk]
  | false =>
    have hne : i ≠ k := Nat.ne_of_beq_eq_false hb
    simp only [cond, En]
    simp [List.getD, List.getElem?_set, Ne.symm hne]
set_option maxHeartbeats 4000000 in
theorem Send_c (c : Client) (ok : okCl c) : Meets Tryd.prog 6 [.agg (clE c)] (.tup [.agg (clE (sendP c).1), .agg (rqE (sendP c).2.1), .bool (sendP c).2.2.1, .int .i64 (sendP c).2.2.2]) [] := by
  refine meets_x (fn := Tryd.f6) Tryd.func6 rfl fb6 (by kernel_rfl) (Nat.le_of_ble_eq_true rfl) ?_
  obtain ⟨o1, o2, o3, o4, o5, o6⟩ := id ok
  have hbl := o3.1
  have hml := o4.1
  have hal := o6.1
  refine cx_sr ?_
  simp only [go_sem]
  repeat first | (with_reducible refine side_d ?_ ?_; exact byD) | (with_reducible refine side_q ?_ ?_; exact byQ)
  refine cx_seq ?_
  refine cx_sr ?_
  simp only [go_sem]
  refine cw_m (CCheck_c c ok) byW byT ?_
  simp only [go_sem]
  refine cx_sr ?_
  simp only [go_sem]
  intro t12 e12
  subst e12
  refine cx_if _ rfl (fun h12 => ?_) (fun h12 => ?_)
  ·
   (try simp only [go_sem] at h12)
   refine cx_sr ?_
   simp only [go_sem]
   refine cx_ret ?_
   simp only [go_sem]
   have h : checkCl c ≠ 0 := by simpa using h12
   have he : sendP c = (noCl, noRq, false, checkCl c) := by rw [sendP, if_pos h]
   rw [he]
   exact finx_of 2 [] rfl byC byC byC byC
  ·
   (try simp only [go_sem] at h12)
   have h0 : checkCl c = 0 := by simpa using h12
   obtain ⟨f1, f2, f3, f4, f5, f6⟩ := checkCl_ok h0
   have hdl := diffP_len c.base c.mine
   refine cx_skip ?_
   (try simp only [go_sem])
   refine cx_sr ?_
   simp only [go_sem]
   refine cw_m (clonedC_c c ok) byW byT ?_
   simp only [go_sem]
   refine cx_seq ?_
   refine cx_sr ?_
   simp only [go_sem]
   intro t20 e20
   subst e20
   refine cx_if _ rfl (fun h20 => ?_) (fun h20 => ?_)
   ·
    (try simp only [go_sem] at h20)
    have hkey : c.key = [] := by simpa using h20
    have hS : sendP c = if sentL c = [] then (c, noRq, false, 0) else if c.keys = 1000000 then (noCl, noRq, false, 3) else (sentC c, reqOf (sentC c), true, 0) := by
      rw [sendP, if_neg (by simpa using h0), if_pos hkey]
    refine cx_sr ?_
    simp only [go_sem]
    refine cw_m (DRaw_c c.base c.mine f1.sorted f2.sorted o3 o4) byW byT ?_
    simp only [go_sem]
    refine cx_sr ?_
    simp only [go_sem]
    repeat first | (with_reducible refine side_d ?_ ?_; exact byD) | (with_reducible refine side_q ?_ ?_; exact byQ)
    have hsl : (sentL c).length = min 20 (diffP c.base c.mine).length := by simp [sentL]
    have hm : (if (20 : Int) < ((diffP c.base c.mine).length : Int) then 20 else ((diffP c.base c.mine).length : Int)).toNat = (sentL c).length := by
      rw [hsl]
      split <;> omega
    rw [hm]
    refine cx_seq ?_
    refine cx_sr ?_
    simp only [go_sem]
    intro t33 e33
    subst e33
    refine cx_if _ rfl (fun h33 => ?_) (fun h33 => ?_)
    ·
     (try simp only [go_sem] at h33)
     refine cx_sr ?_
     simp only [go_sem]
     refine cx_ret ?_
     simp only [go_sem]
     have he : sendP c = (c, noRq, false, 0) := by rw [hS, if_pos (List.length_eq_zero_iff.1 (by omega))]
     rw [he]
     exact finx_of 2 [] rfl byC byC byC byC
    ·
     (try simp only [go_sem] at h33)
     have hne : ¬ sentL c = [] := by intro e; rw [e] at h33; simp at h33
     refine cx_skip ?_
     (try simp only [go_sem])
     refine cx_seq ?_
     refine cx_sr ?_
     simp only [go_sem]
     intro t38 e38
     subst e38
     refine cx_if _ rfl (fun h38 => ?_) (fun h38 => ?_)
     ·
      (try simp only [go_sem] at h38)
      refine cx_sr ?_
      simp only [go_sem]
      refine cx_ret ?_
      simp only [go_sem]
      have he : sendP c = (noCl, noRq, false, 3) := by rw [hS, if_neg hne, if_pos h38]
      rw [he]
      exact finx_of 2 [] rfl byC byC byC byC
     ·
      (try simp only [go_sem] at h38)
      refine cx_skip ?_
      (try simp only [go_sem])
      refine cx_seq ?_
      refine cx_sr ?_
      simp only [go_sem]
      refine cx_block ?_
      refine cx_loopk (σ := Nat) (fun i => i ≤ (sentL c).length) (fun i => [⟨43, 0, [], .int .i64 (i : Nat)⟩]) [1, 2, 3, 4, 5, 7, 42] (fun i => [.box (clE c), .box [.bad, .bad, .bad, .bad, .bad, .bad, .bad, .bad], .box [.bad, .bad, .bad, .bad, .bad, .bad, .bad, .bad, .bad, .bad], .arr 5 (diffP c.base c.mine).length (En Change.enc default (rebL c.cursor (diffP c.base c.mine) i))]) (fun i => (sentL c).length - i) 0 (by first | trivial | omega | simp) (fun _ => (Nat.zero_le _)) byC (fun i hI1 => ?_)
      simp only [go_sem]
      refine cx_sr ?_
      simp only [go_sem]
      repeat first | (with_reducible refine side_d ?_ ?_; exact byD) | (with_reducible refine side_q ?_ ?_; exact byQ)
      intro t44 e44
      subst e44
      refine cx_seq ?_
      refine cx_if _ rfl (fun h44 => ?_) (fun h44 => ?_)
      ·
       (try simp only [go_sem] at h44)
       refine cx_skip ?_
       (try simp only [go_sem])
       refine cx_seq (cx_block ?_)
       refine cx_sr ?_
       simp only [go_sem]
       refine cx_region ?_
       simp only [go_sem]
       repeat first | (with_reducible refine side_d ?_ ?_; exact byD) | (with_reducible refine side_q ?_ ?_; exact byQ)
       refine cx_region ?_
       simp only [go_sem]
       intro t52 e52
       (try replace e52 := w64 e52 (by omega) (by omega))
       have hrn := rebL_next (b := c.cursor) (l := diffP c.base c.mine) (i := i) (by omega)
       have hra := rebL_at (b := c.cursor) (l := diffP c.base c.mine) (i := i) (by omega)
       have hrl := rebL_len c.cursor (diffP c.base c.mine) (i := i) (by omega)
       refine rnd_nextr (i + 1) [0, 1, 2, 3] (by omega) (by first | omega | (dsimp only; omega)) ⟨rfl, rfl, ?_, ?_⟩
       · exact byC
       · rw [hrn]
         simp only [go_sem, wk, wks, wkB, wkH, List.length_set]
         exact fun q hq => wks_mp_of (fun _ => rfl) (stF_set (x := rebC c.cursor ((diffP c.base c.mine).getD i default)) (by omega) (by rw [hra]; rfl))
      ·
       (try simp only [go_sem] at h44)
       have hi20 : i = (sentL c).length := by omega
       have hsent : ∀ q, q < (sentL c).length → En Change.enc default (rebL c.cursor (diffP c.base c.mine) i) q = En Change.enc default (sentL c) q := by
         intro q hq
         rw [hi20]
         have e : sentL c = ((diffP c.base c.mine).take (sentL c).length).map (rebC c.cursor) := by
           conv => lhs; unfold sentL
           congr 1
           rw [hsl, ← List.take_take, List.take_of_length_le (l := diffP c.base c.mine) (Nat.le_refl _)]
         simp only [En, rebL, List.getD_eq_getElem?_getD]
         rw [List.getElem?_append_left (by simp; omega), ← e]
       refine cx_exit ?_
       simp only [go_sem]
       refine cx_sr ?_
       simp only [go_sem]
       intro t55 e55
       (try replace e55 := w64 e55 (by omega) (by omega))
       have hil := Lib.itoa_length_le (c.keys + 1) (by omega) (by omega)
       obtain rfl : t55 = c.keys + 1 := by omega
       refine cx_joinq ([⟨1, 0, [], .ptr 0 0⟩, ⟨2, 0, [], .ptr 1 0⟩, ⟨3, 0, [], .ptr 2 0⟩]) ([.box [.str c.who, .str c.folder, esV c.base, .int .i64 c.cursor, esV c.mine, .str (keyOf c), .own none 3 5 0 (sentL c).length .loose, .int .i64 (c.keys + 1)], .box [.bad, .bad, .bad, .bad, .bad, .bad, .bad, .bad], .box [.bad, .bad, .bad, .bad, .bad, .bad, .bad, .bad, .bad, .bad], .arr 5 (sentL c).length (En Change.enc default (sentL c))]) (cx_drawZ mixed [1] [9, 11] (.firstZ 0 (.firstZ 3 (.firstZ 7 (.first 1 (.firstZ 2 (.first 4 (.one 5 (.firstZ 6 (.firstZ 8 (.one 9 (.firstZ 10 (.one 11 (.done))))))))))))) (by kernel_rfl) ?_) ?_
       ·
        simp only [go_sem]
        repeat ((with_reducible first | refine side_d ?_ ?_ | refine side_q ?_ ?_); focus (first | exact byD | exact byQ | ((refine Sd.mk ?_; simp; omega))))
        repeat first | (with_reducible refine side_d ?_ ?_; exact byD) | (with_reducible refine side_q ?_ ?_; exact byQ)
        refine cwE_m (ItoaF_c (c.keys + 1) (by omega) (by omega)) byW byT ?_
        simp only [go_sem]
        repeat ((with_reducible first | refine side_d ?_ ?_ | refine side_q ?_ ?_); focus (first | exact byD | exact byQ | ((refine Sd.mk ?_; simp; omega))))
        repeat first | (with_reducible refine side_d ?_ ?_; exact byD) | (with_reducible refine side_q ?_ ?_; exact byQ)
        first | (refine ⟨[0, 1, 2, 3], rfl, rfl, ?_, ?_⟩ <;> (first | trivial | (simp only [go_sem, wk, wks, wkB, wkH, subw, subEw, hprew, ltb, subr, subEr]; done) | (simp only [go_sem, wk, wks, wkB, wkH, subw, subEw, hprew, ltb, subr, subEr]; and_intros <;> first | trivial | rfl | omega | assumption | exact Nat.le_refl _ | exact wks_refl _ | exact wk_refl _ | (intros; exact wks_refl _) | (subst_vars; intro q hq; refine wks_mp_snoc (fun x => ?_) ?_ ?_; exact rnVs_no _ rfl; rfl; simp at hq; omega) | ((intro q hq; rw [hsent q hq]; exact wks_refl _)) | (simp; done) | (simp; omega))))
       simp only [go_sem]
       refine cx_seq (cx_drawZ mixed [0] [11, 12] (.firstZ 0 (.firstZ 1 (.firstZ 2 (.firstZ 3 (.firstZ 4 (.firstZ 5 (.firstZ 6 (.firstZ 7 (.firstZ 8 (.one 9 (.firstZ 10 (.one 11 (.one 12 (.firstZ 13 (.firstZ 14 (.done)))))))))))))))) (by kernel_rfl) ?_)
       simp only [go_sem]
       first | (refine cwE_m (Clone_Change_v c.asked (by omega)) byW byT ?_) | (refine cwE_n 2 (Clone_Change (sentL c) (by omega)) byV byC rfl byN ?_)
       simp only [go_sem]
       refine cx_ret ?_
       simp only [go_sem]
       have he : sendP c = (sentC c, reqOf (sentC c), true, 0) := by rw [hS, if_neg hne, if_neg h38]
       rw [he]
       exact finx_of 2 [] rfl byC byC byC byC
   ·
    (try simp only [go_sem] at h20)
    refine cx_skip ?_
    (try simp only [go_sem])
    refine cx_seq (cx_drawZ mixed [0] [11, 12] (.firstZ 0 (.firstZ 1 (.firstZ 2 (.firstZ 3 (.firstZ 4 (.firstZ 5 (.firstZ 6 (.firstZ 7 (.firstZ 8 (.one 9 (.firstZ 10 (.one 11 (.one 12 (.firstZ 13 (.firstZ 14 (.done)))))))))))))))) (by kernel_rfl) ?_)
    simp only [go_sem]
    first | (refine cwE_m (Clone_Change_v c.asked (by omega)) byW byT ?_) | (refine cwE_n 2 (Clone_Change (sentL c) (by omega)) byV byC rfl byN ?_)
    simp only [go_sem]
    refine cx_ret ?_
    simp only [go_sem]
    have hkey : ¬ c.key = [] := by simpa using h20
    have he : sendP c = (c, reqOf c, true, 0) := by rw [sendP, if_neg (by simpa using h0), if_neg hkey]
    rw [he]
    exact finx_of 2 [] rfl byC byC byC byC
end Go.VM.Tryd
end
section
set_option maxHeartbeats 4000000
set_option linter.unusedVariables false
set_option linter.unusedSimpArgs false
open Go Go.VM Go.Proofs Tether
namespace Go.VM.Tryd
set_option maxRecDepth 100000
theorem clientBegun_c : Meets Tryd.prog 5 [] (.bool true) [] := by
  refine meets_x (fn := Tryd.f5) Tryd.func5 rfl fb5 (by kernel_rfl) (Nat.le_of_ble_eq_true rfl) ?_
  have h1 : newP [97] [102] = newCl [97] [102] ∧ checkCl (newCl [97] [102]) = 0 := by decide +kernel
  have h2 : editP (newCl [97] [102]) ⟨2, [120], [], [49], -1⟩ = (⟨[97], [102], [], 0, [⟨[120], false, [49], 1⟩], [], [], 0⟩, 0) := by decide +kernel
  have hi1 : Lib.itoa (0 + 1) = [49] := by simp [Lib.itoa, Lib.decDigits]
  have h3 : sendP ⟨[97], [102], [], 0, [⟨[120], false, [49], 1⟩], [], [], 0⟩ = (⟨[97], [102], [], 0, [⟨[120], false, [49], 1⟩], [97, 45, 49], [⟨2, [120], [], [49], 0⟩], 1⟩, ⟨1, [97], [102], [], [97, 45, 49], [], 0, 0, 0, [⟨2, [120], [], [49], 0⟩]⟩, true, 0) := by
    have h4 : checkCl ⟨[97], [102], [], 0, [⟨[120], false, [49], 1⟩], [], [], 0⟩ = 0 := by decide +kernel
    have h5 : sentL ⟨[97], [102], [], 0, [⟨[120], false, [49], 1⟩], [], [], 0⟩ = [⟨2, [120], [], [49], 0⟩] := by decide +kernel
    rw [sendP, if_neg (by simpa using h4), if_pos rfl, if_neg (by rw [h5]; simp), if_neg (by decide)]
    simp only [sentC, reqOf, keyOf, h5, hi1, List.cons_append, List.nil_append]
    rfl
  have hA := CNew_c [97] [102] (by simp) (by simp)
  rw [h1.1, h1.2] at hA
  have hB := Edit_c (newCl [97] [102]) ⟨2, [120], [], [49], -1⟩ (newCl_ok (by simp) (by simp)) (by simp [okC])
  rw [h2] at hB
  have hC := Send_c ⟨[97], [102], [], 0, [⟨[120], false, [49], 1⟩], [], [], 0⟩ (by simp [okCl, okE, okCs])
  rw [h3] at hC
  dsimp only at hA hB hC
  refine cx_sr ?_
  simp only [go_sem]
  repeat first | (with_reducible refine side_d ?_ ?_; exact byD) | (with_reducible refine side_q ?_ ?_; exact byQ)
  refine cx_sr ?_
  simp only [go_sem]
  refine cw_m (hA) byW byT ?_
  simp only [go_sem]
  refine cx_sr ?_
  simp only [go_sem]
  refine cw_m (hB) byW byT ?_
  simp only [go_sem]
  refine cx_sr ?_
  simp only [go_sem]
  refine cw_m (hC) byW byT ?_
  simp only [go_sem]
  refine cx_sr ?_
  simp only [go_sem]
  intro t26 e26
  intro t29 e29
  intro t30 e30
  rw [bsel_and] at e30
  intro t33 e33
  intro t34 e34
  rw [bsel_and] at e34
  intro t37 e37
  rw [bsel_and] at e37
  intro t41 e41
  intro t42 e42
  rw [bsel_and] at e42
  intro t47 e47
  intro t48 e48
  rw [bsel_and] at e48
  repeat ((with_reducible first | refine side_d ?_ ?_ | refine side_q ?_ ?_); focus (first | exact byD | exact byQ | ((refine Sd.mk ?_; simp))))
  repeat first | (with_reducible refine side_d ?_ ?_; exact byD) | (with_reducible refine side_q ?_ ?_; exact byQ)
  intro t55 e55
  intro t56 e56
  rw [bsel_and] at e56
  subst e26 e29 e30 e33 e34 e37 e41 e42 e47 e48 e55 e56
  refine cx_ret ?_
  simp only [go_sem]
  exact finw_bool (by simp)
end Go.VM.Tryd
end
section
set_option maxHeartbeats 4000000
set_option linter.unusedVariables false
set_option linter.unusedSimpArgs false
open Go Go.VM Go.Proofs Tether
namespace Go.VM.Tryd
set_option maxRecDepth 100000
/-- a number's digits -/
def digs (n : Nat) : Str := if n < 10 then [(48 + n).toUInt8] else digs (n / 10) ++ [(48 + n % 10).toUInt8]
termination_by n
theorem digs_len : ∀ (k n : Nat), n < 10 ^ (k + 1) → (digs n).length ≤ k + 1
  | 0, n, h => by unfold digs; rw [if_pos (by simpa using h)]; simp
  | k + 1, n, h => by
    unfold digs
    split
    · simp
    · have := digs_len k (n / 10) (by rw [Nat.div_lt_iff_lt_mul (by decide)]; rw [Nat.pow_succ] at h; exact h)
      simp
      omega
end Go.VM.Tryd
end
section
set_option maxHeartbeats 4000000
set_option linter.unusedVariables false
set_option linter.unusedSimpArgs false
open Go Go.VM Go.Proofs Tether
namespace Go.VM.Tryd
set_option maxRecDepth 100000
theorem digs_dec (n : Nat) : digs n = Lib.decDigits n := by
  induction n using Nat.strongRecOn with
  | ind n ih =>
    rw [digs, Lib.decDigits]
    split
    · rfl
    · rename_i h
      rw [ih (n / 10) (by omega)]
theorem sendP_ok {c : Client} (ok : okCl c) : okCl (sendP c).1 ∧ (sendP c).2.1.changes.length ≤ 1048576 := by
  obtain ⟨o1, o2, o3, o4, o5, o6⟩ := id ok
  unfold sendP
  split
  · exact ⟨okM_noCl, by simp [noRq]⟩
  · rename_i h0
    have h0 : checkCl c = 0 := by simpa using h0
    obtain ⟨f1, f2, f3, f4, f5, f6⟩ := checkCl_ok h0
    split
    · split
      · exact ⟨ok, by simp [noRq]⟩
      · split
        · exact ⟨okM_noCl, by simp [noRq]⟩
        · have hil := Lib.itoa_length_le (c.keys + 1) (by omega) (by omega)
          have hsl : (sentL c).length ≤ 20 := by simp [sentL]; omega
          have hwho : c.who.length ≤ 10 := by
            unfold checkCl at h0
            have : nameErr c = false := by grind
            unfold nameErr at this
            simp at this
            omega
          refine ⟨⟨o1, o2, o3, o4, ?_, ?_⟩, ?_⟩
          · show (keyOf c).length ≤ 1048576
            simp [keyOf]
            omega
          · refine ⟨by show (sentL c).length ≤ 1048576; omega, fun x hx => ?_⟩
            have hx : x ∈ sentL c := hx
            unfold sentL at hx
            obtain ⟨y, hy, rfl⟩ := List.mem_map.1 hx
            exact (diff_ok f1 f2).2 y (List.mem_of_mem_take hy)
          · show (sentL c).length ≤ 1048576
            omega
    · exact ⟨ok, o6.1⟩
end Go.VM.Tryd
end
section
set_option maxHeartbeats 4000000
set_option linter.unusedVariables false
set_option linter.unusedSimpArgs false
open Go Go.VM Go.Proofs Tether
namespace Go.VM.Tryd
set_option maxRecDepth 100000
def apartC (c d : Change) : Prop := c.kind = 4 ∨ isIn c.path d.path = false
theorem made_mem3 {t : List Entry} {c : Change} {v : Int} (hs : SortedE t) (hk : c.kind = 1 ∨ c.kind = 2 ∨ c.kind = 4) {y : Entry} (hy : y ∈ madeP t c v) : y ∈ t ∨ (c.kind ≠ 4 ∧ y.path = c.path) := by
  unfold madeP at hy
  rcases hk with hk | hk | hk
  · rw [if_pos hk, putE_mem hs] at hy
    rcases hy with rfl | ⟨h, _⟩
    · exact .inr ⟨by omega, rfl⟩
    · exact .inl h
  · rw [if_neg (by omega), if_pos hk, putE_mem hs] at hy
    rcases hy with rfl | ⟨h, _⟩
    · exact .inr ⟨by omega, rfl⟩
    · exact .inl h
  · rw [if_neg (by omega), if_neg (by omega), if_pos hk] at hy
    exact .inl (List.mem_filter.1 hy).1
theorem made_reb (t : List Entry) (b : Int) (c : Change) (v : Int) : madeP t (rebC b c) v = madeP t c v := rfl
theorem raw_reb {t : List Entry} {c : Change} {b v : Int} (g : FullT t) (h0 : 0 ≤ b) (h1 : b ≤ 1000000) (h : rawErr t c v = 0) (hst : ∀ x ∈ t, isIn x.path c.path = true → x.version ≤ b) : rawErr t (rebC b c) v = 0 := by
  obtain ⟨e1, e2, e3⟩ := raw_0 h
  have hk := form_kind e1
  have m := may_iff g.sorted e2
  have f1 : formP (rebC b c) = 0 := by
    unfold formP at e1 ⊢
    dsimp only [rebC]
    grind
  have f2 : mayP t (rebC b c) = 0 := may_of g.sorted hk ⟨m.par, m.new, m.file, m.is, m.apart, m.free⟩ fun _ x hx => by
    unfold staleB
    dsimp only [rebC]
    cases hi : isIn x.path c.path with
    | false => simp
    | true =>
      have h5 := hst x hx hi
      rw [Bool.and_true]
      exact decide_eq_false (show ¬ b < x.version by omega)
  have f3 : doneErr t (rebC b c) v = 0 := e3
  rw [rawErr, if_neg (by simp [f1]), if_neg (by simp [f2]), f3]
theorem run_reb {b v : Int} (h0 : 0 ≤ b) (h1 : b ≤ 1000000) (hv : verB v = true) : ∀ (cs pre : List Change) (t : List Entry) (k : Int), FullT t → (patchRun v t cs).2 = 0 →
    (pre ++ cs).Pairwise apartC → (∀ c ∈ cs, c.kind = 1 ∨ c.kind = 2 ∨ c.kind = 4) → (∀ y ∈ t, y.version ≤ b ∨ ∃ c ∈ pre, c.kind ≠ 4 ∧ y.path = c.path) →
    allRun v t (cs.map (rebC b)) k = ((patchRun v t cs).1, k + cs.length, 0)
  | [], pre, t, k, g, h, hp, hk, ht => by simp [allRun, patchRun]
  | c :: cs, pre, t, k, g, h, hp, hk, ht => by
    have hc : applyErr t c v = 0 := by
      by_cases hc : applyErr t c v = 0
      · exact hc
      · rw [patchRun, if_pos hc] at h
        exact absurd h hc
    obtain ⟨_, _, hr, _⟩ := apply_0 hc
    have hkc := hk c (by simp)
    have hr2 : rawErr t (rebC b c) v = 0 := raw_reb g h0 h1 hr fun x hx hi => by
      rcases ht x hx with h2 | ⟨d, hd, h3, h4⟩
      · exact h2
      · exfalso
        rcases (List.pairwise_append.1 hp).2.2 d hd c (by simp) with h5 | h5
        · exact h3 h5
        · rw [h4, h5] at hi
          cases hi
    rw [patchRun, if_neg (by simp [hc])] at h ⊢
    rw [List.map_cons, allRun, if_neg (by simp [hr2]), made_reb]
    rw [run_reb h0 h1 hv cs (pre ++ [c]) (madeP t c v) (k + 1) (made_full g hv hr) h (by simpa using hp) (fun d hd => hk d (by simp [hd])) fun y hy => ?_]
    · congr 2
      simp
      omega
    · rcases made_mem3 g.sorted hkc hy with h2 | ⟨h2, h3⟩
      · rcases ht y h2 with h4 | ⟨d, hd, h5⟩
        · exact .inl h4
        · exact .inr ⟨d, by simp [hd], h5⟩
      · exact .inr ⟨c, by simp, h2, h3⟩
theorem patchRun_take : ∀ (n : Nat) (cs : List Change) (t : List Entry) (v : Int), (patchRun v t cs).2 = 0 → (patchRun v t (cs.take n)).2 = 0
  | 0, cs, t, v, h => by simp [patchRun]
  | n + 1, [], t, v, h => by simp [patchRun]
  | n + 1, c :: cs, t, v, h => by
    have hc : applyErr t c v = 0 := by
      by_cases hc : applyErr t c v = 0
      · exact hc
      · rw [patchRun, if_pos hc] at h
        exact absurd h hc
    rw [List.take_succ_cons, patchRun, if_neg (by simp [hc])]
    rw [patchRun, if_neg (by simp [hc])] at h
    exact patchRun_take n cs _ v h
theorem dels_kind (a b : List Entry) : ∀ i, i ≤ a.length → ∀ c ∈ (delsP a b i).1, c.kind = 4
  | 0, _, c, hc => by simp [delsP] at hc
  | i + 1, h, c, hc => by
    have ih := dels_kind a b i (by omega)
    rw [dels_next (by omega)] at hc
    unfold stepD at hc
    split at hc
    · exact ih c hc
    · split at hc
      · rcases List.mem_append.1 hc with hc | hc
        · exact ih c hc
        · rw [List.mem_singleton.1 hc]; rfl
      · exact ih c hc
theorem in_not_lt {p q : Str} (h : p < q) : isIn p q = false := by
  cases hi : isIn p q with
  | false => rfl
  | true =>
    exfalso
    rcases (isIn_iff _ _).1 hi with rfl | ⟨r, rfl⟩
    · exact lt_irrefl' _ h
    · exact lt_asymm' h (pre_lt _ _ _)
theorem adds_kind {a b : List Entry} {i : Nat} {c : Change} (h : c ∈ addsP a b i) : c.kind = 1 ∨ c.kind = 2 := by
  unfold addsP at h
  obtain ⟨x, _, rfl⟩ := List.mem_map.1 h
  unfold addC
  dsimp only
  split <;> simp
theorem diff_apart {a b : List Entry} (hb : SortedE b) : (diffP a b).Pairwise apartC := by
  unfold diffP
  refine List.pairwise_append.2 ⟨?_, ?_, fun c hc d hd => .inl (dels_kind a b a.length (Nat.le_refl _) c hc)⟩
  · exact List.pairwise_of_forall_mem_list fun c hc d hd => .inl (dels_kind a b a.length (Nat.le_refl _) c hc)
  · unfold addsP
    rw [List.pairwise_map]
    refine List.Pairwise.imp (R := fun x y : Entry => x.path < y.path) (fun {x y} h => .inr (in_not_lt h)) ?_
    exact (List.Pairwise.sublist (List.take_sublist _ _) hb).filter _
theorem diff_kinds {a b : List Entry} {c : Change} (h : c ∈ diffP a b) : c.kind = 1 ∨ c.kind = 2 ∨ c.kind = 4 := by
  unfold diffP at h
  rcases List.mem_append.1 h with h | h
  · exact .inr (.inr (dels_kind a b a.length (Nat.le_refl _) c h))
  · rcases adds_kind h with h | h
    · exact .inl h
    · exact .inr (.inl h)
/-- what is sent may be made, and comes to what is shown, if it is not cut -/
theorem sent_said {c : Client} (ga : FullT c.base) (gb : FullT c.mine) (h0 : 0 ≤ c.cursor) (h1 : c.cursor + 1 ≤ 1000000) (hv : ∀ x ∈ c.base, x.version ≤ c.cursor) :
    ∃ t, allP c.base (sentL c) (c.cursor + 1) = (t, ((sentL c).length : Int), 0) ∧ FullT t ∧ (likeL t c.mine = true ∨ (sentL c).length = 20) := by
  have hvb : verB (c.cursor + 1) = true := by simp [verB]; omega
  obtain ⟨t, p1, p2, p3⟩ := patch_diff ga gb hvb
  have q1 : (patchRun (c.cursor + 1) c.base ((diffP c.base c.mine).take 20)).2 = 0 := patchRun_take 20 _ _ _ (by rw [p1])
  have hr := run_reb (b := c.cursor) h0 (by omega) hvb ((diffP c.base c.mine).take 20) [] c.base 0 ga q1 (List.Pairwise.sublist (List.take_sublist _ _) (diff_apart gb.sorted)) (fun d hd => diff_kinds (List.mem_of_mem_take hd)) fun y hy => .inl (hv y hy)
  have hlen : (sentL c).length ≤ 20 := by simp [sentL]; omega
  refine ⟨(patchRun (c.cursor + 1) c.base ((diffP c.base c.mine).take 20)).1, ?_, patchRun_full _ _ _ ga q1, ?_⟩
  · rw [allP_full ga, allR, if_neg (by omega), if_neg (by rw [hvb]; simp)]
    have : sentL c = ((diffP c.base c.mine).take 20).map (rebC c.cursor) := rfl
    rw [this, hr]
    simp
  · rcases Nat.lt_or_ge (diffP c.base c.mine).length 20 with h | h
    · left
      rw [List.take_of_length_le (by omega), p1]
      exact p3
    · right
      simp [sentL]
      omega
end Go.VM.Tryd
end
section
set_option maxHeartbeats 4000000
set_option linter.unusedVariables false
set_option linter.unusedSimpArgs false
open Go Go.VM Go.Proofs Tether
namespace Go.VM.Tryd
set_option maxRecDepth 100000
end Go.VM.Tryd
end
section
set_option maxHeartbeats 4000000
set_option linter.unusedVariables false
set_option linter.unusedSimpArgs false
open Go Go.VM Go.Proofs Tether
namespace Go.VM.Tryd
set_option maxRecDepth 100000
end Go.VM.Tryd
end
section
set_option maxHeartbeats 4000000
set_option linter.unusedVariables false
set_option linter.unusedSimpArgs false
open Go Go.VM Go.Proofs Tether
namespace Go.VM.Tryd
set_option maxRecDepth 100000
end Go.VM.Tryd
end
section
set_option maxHeartbeats 4000000
set_option linter.unusedVariables false
set_option linter.unusedSimpArgs false
open Go Go.VM Go.Proofs Tether
namespace Go.VM.Tryd
set_option maxRecDepth 100000
def gotP (j : Journal) (cur : Int) (i : Nat) : List Commit := (j.commits.take i).drop (cur - j.first + 1).toNat
theorem got_zero (j : Journal) (cur : Int) : gotP j cur 0 = [] := by simp [gotP]
attribute [go_sem] got_zero
end Go.VM.Tryd
end
section
set_option maxHeartbeats 4000000
set_option linter.unusedVariables false
set_option linter.unusedSimpArgs false
open Go Go.VM Go.Proofs Tether
namespace Go.VM.Tryd
set_option maxRecDepth 100000
end Go.VM.Tryd
end
section
set_option maxHeartbeats 4000000
set_option linter.unusedVariables false
set_option linter.unusedSimpArgs false
open Go Go.VM Go.Proofs Tether
namespace Go.VM.Tryd
set_option maxRecDepth 100000
end Go.VM.Tryd
end
section
set_option maxHeartbeats 4000000
set_option linter.unusedVariables false
set_option linter.unusedSimpArgs false
open Go Go.VM Go.Proofs Tether
namespace Go.VM.Tryd
set_option maxRecDepth 100000
theorem cl_name {c : Client} (h : checkCl c = 0) : isKey c.who = true ∧ c.who.length ≤ 10 := by
  unfold checkCl at h
  have h1 : nameErr c = false := by grind
  unfold nameErr at h1
  simp at h1
  exact ⟨h1.1.2, by omega⟩
theorem dec_key (n : Nat) : (Lib.decDigits n).all keyC = true := by
  induction n using Nat.strongRecOn with
  | ind n ih =>
    rw [Lib.decDigits]
    have h10 : ∀ d : Nat, d < 10 → keyC (UInt8.ofNat (48 + d)) = true := by
      intro d hd
      have : (UInt8.ofNat (48 + d)).toNat = 48 + d := by simp; omega
      unfold keyC keyN
      rw [this]
      simp
      omega
    split
    · rename_i h
      simpa using h10 n h
    · rw [List.all_append, ih (n / 10) (by omega)]
      simpa using h10 (n % 10) (by omega)
theorem dec_len7 {n : Nat} (h : n < 10000000) : (Lib.decDigits n).length ≤ 7 := by
  have := digs_len 6 n (by simpa using h)
  rwa [digs_dec] at this
/-- who has asked passes as before, and asks for the same -/
theorem sent_check {c : Client} (h : checkCl c = 0) (hs : sentL c ≠ []) (hk : c.keys ≠ 1000000) : checkCl (sentC c) = 0 := by
  obtain ⟨f1, f2, f3, f4, f5, f6⟩ := checkCl_ok h
  obtain ⟨k1, k2⟩ := cl_name h
  have hn : nameErr (sentC c) = false := by
    have h1 : nameErr c = false := by unfold checkCl at h; grind
    exact h1
  have e1 : checkT (sentC c).base = 0 := checkT_iff.2 f1
  have e2 : checkT (sentC c).mine = 0 := checkT_iff.2 f2
  have e3 : isCur (sentC c).cursor = true := by
    show isCur c.cursor = true
    simp [isCur]; omega
  have e4 : isCur (sentC c).keys = true := by
    show isCur (c.keys + 1) = true
    simp [isCur]; omega
  have hi : Lib.itoa (c.keys + 1) = Lib.decDigits (c.keys + 1).toNat := by rw [Lib.itoa, if_neg (by omega)]
  have hl := dec_len7 (n := (c.keys + 1).toNat) (by omega)
  have e5 : isKey (sentC c).key = true := by
    show isKey (keyOf c) = true
    unfold isKey at k1 ⊢
    simp only [Bool.and_eq_true, decide_eq_true_eq] at k1 ⊢
    refine ⟨?_, ?_, ?_⟩
    · unfold keyOf
      rw [hi, List.all_append, List.all_append, k1.1, dec_key]
      rfl
    · simp [keyOf]; omega
    · simp [keyOf, hi]; omega
  have e6 : (sentC c).key ≠ [] := by show keyOf c ≠ []; simp [keyOf]
  have e7 : (sentC c).asked ≠ [] := hs
  have e8 : ¬ 20 < (sentC c).asked.length := by show ¬ 20 < (sentL c).length; simp [sentL]; omega
  rw [checkCl, if_neg (by simp [hn]), if_neg (by simp [e1]), if_neg (by simp [e2]), if_neg (by simp [e3, e4]), if_neg (by simp [e5]), if_neg (by simp [e6, e7]), if_neg e8]
theorem sendP_again {c : Client} (h : (sendP c).2.2.2 = 0) : sendP (sendP c).1 = sendP c := by
  by_cases h0 : checkCl c = 0
  · by_cases hk : c.key = []
    · by_cases hs : sentL c = []
      · have he : sendP c = (c, noRq, false, 0) := by rw [sendP, if_neg (by simpa using h0), if_pos hk, if_pos hs]
        rw [he, he]
      · by_cases hm : c.keys = 1000000
        · have he : sendP c = (noCl, noRq, false, 3) := by rw [sendP, if_neg (by simpa using h0), if_pos hk, if_neg hs, if_pos hm]
          rw [he] at h
          simp at h
        · have he : sendP c = (sentC c, reqOf (sentC c), true, 0) := by rw [sendP, if_neg (by simpa using h0), if_pos hk, if_neg hs, if_neg hm]
          rw [he]
          show sendP (sentC c) = _
          rw [sendP, if_neg (by simpa using sent_check h0 hs hm), if_neg (by show ¬ keyOf c = []; simp [keyOf])]
    · have he : sendP c = (c, reqOf c, true, 0) := by rw [sendP, if_neg (by simpa using h0), if_neg hk]
      rw [he, he]
  · have he : sendP c = (noCl, noRq, false, checkCl c) := by rw [sendP, if_pos h0]
    rw [he] at h
    exact absurd h h0
theorem ClientWaits_c (c : Client) (ok : okCl c) : Meets Tryd.prog 3 [.agg (clE c)] (.bool true) [] := by
  refine meets_x (fn := Tryd.f3) Tryd.func3 rfl fb3 (by kernel_rfl) (Nat.le_of_ble_eq_true rfl) ?_
  obtain ⟨k1, k2⟩ := sendP_ok ok
  refine cx_sr ?_
  simp only [go_sem]
  repeat first | (with_reducible refine side_d ?_ ?_; exact byD) | (with_reducible refine side_q ?_ ?_; exact byQ)
  refine cx_seq ?_
  refine cx_sr ?_
  simp only [go_sem]
  refine cw_m (clientBegun_c) byW byT ?_
  simp only [go_sem]
  intro t11 e11
  subst e11
  refine cx_if _ rfl (fun h11 => no_if h11) (fun h11 => ?_)
  refine cx_skip ?_
  (try simp only [go_sem])
  refine cx_sr ?_
  simp only [go_sem]
  refine cw_m (Send_c c ok) byW byT ?_
  simp only [go_sem]
  refine cx_seq ?_
  refine cx_sr ?_
  simp only [go_sem]
  intro t20 e20
  subst e20
  refine cx_if _ rfl (fun h20 => ?_) (fun h20 => ?_)
  ·
   (try simp only [go_sem] at h20)
   refine cx_sr ?_
   simp only [go_sem]
   refine cx_ret ?_
   simp only [go_sem]
   exact finw_bool rfl
  ·
   (try simp only [go_sem] at h20)
   have hz : (sendP c).2.2.2 = 0 := by simpa using h20
   have hS := Send_c (sendP c).1 k1
   rw [sendP_again hz] at hS
   refine cx_skip ?_
   (try simp only [go_sem])
   refine cx_sr ?_
   simp only [go_sem]
   refine cw_m (hS) byW byT ?_
   simp only [go_sem]
   refine cx_sr ?_
   simp only [go_sem]
   intro t29 e29
   intro t33 e33
   intro t34 e34
   rw [bsel_and] at e34
   refine ⟨_, fun hp => cw_m (SameRequest_c (sendP c).2.1 (sendP c).2.1 k2 k2) byW byT ⟨rfl, rfl⟩, ?_⟩
   simp only [go_sem]
   intro t39 e39
   rw [bsel_and] at e39
   refine ⟨_, fun hp => cw_m (SameClient_c (sendP c).1 (sendP c).1 k1 k1) byW byT ⟨rfl, rfl⟩, ?_⟩
   simp only [go_sem]
   intro t44 e44
   rw [bsel_and] at e44
   subst e29 e33 e34 e39 e44
   refine cx_ret ?_
   simp only [go_sem]
   exact finw_bool (by simp [hz])
theorem sendP_noErr {c : Client} (h : (sendP c).2.2.2 = 0) (hk : (sendP c).2.2.1 = true) (he : c.key = []) : checkCl c = 0 ∧ sentL c ≠ [] ∧ c.keys ≠ 1000000 ∧ sendP c = (sentC c, reqOf (sentC c), true, 0) := by
  by_cases h0 : checkCl c = 0
  · by_cases hs : sentL c = []
    · have e : sendP c = (c, noRq, false, 0) := by rw [sendP, if_neg (by simpa using h0), if_pos he, if_pos hs]
      rw [e] at hk; cases hk
    · by_cases hm : c.keys = 1000000
      · have e : sendP c = (noCl, noRq, false, 3) := by rw [sendP, if_neg (by simpa using h0), if_pos he, if_neg hs, if_pos hm]
        rw [e] at h; simp at h
      · exact ⟨h0, hs, hm, by rw [sendP, if_neg (by simpa using h0), if_pos he, if_neg hs, if_neg hm]⟩
  · have e : sendP c = (noCl, noRq, false, checkCl c) := by rw [sendP, if_pos h0]
    rw [e] at h; exact absurd h h0
theorem ClientSays_c (c : Client) (ok : okCl c) : Meets Tryd.prog 4 [.agg (clE c)] (.bool true) [] := by
  refine meets_x (fn := Tryd.f4) Tryd.func4 rfl fb4 (by kernel_rfl) (Nat.le_of_ble_eq_true rfl) ?_
  obtain ⟨k1, k2⟩ := sendP_ok ok
  obtain ⟨o1, o2, o3, o4, o5, o6⟩ := id ok
  have hbl := o3.1
  refine cx_sr ?_
  simp only [go_sem]
  repeat first | (with_reducible refine side_d ?_ ?_; exact byD) | (with_reducible refine side_q ?_ ?_; exact byQ)
  refine cx_seq ?_
  refine cx_sr ?_
  simp only [go_sem]
  refine cw_m (clientBegun_c) byW byT ?_
  simp only [go_sem]
  intro t12 e12
  refine ⟨_, fun hp => cw_m (treeBegun_c) byW byT ⟨rfl, rfl⟩, ?_⟩
  simp only [go_sem]
  intro t15 e15
  intro t16 e16
  rw [bsel_or] at e16
  refine ⟨_, fun hp => cw_m (deltaBegun_c) byW byT ⟨rfl, rfl⟩, ?_⟩
  simp only [go_sem]
  intro t19 e19
  intro t20 e20
  rw [bsel_or] at e20
  subst e12 e15 e16 e19 e20
  refine cx_if _ rfl (fun h20 => no_if h20) (fun h20 => ?_)
  refine cx_skip ?_
  (try simp only [go_sem])
  refine cx_sr ?_
  simp only [go_sem]
  refine cw_m (Send_c c ok) byW byT ?_
  simp only [go_sem]
  refine cx_seq ?_
  refine cx_sr ?_
  simp only [go_sem]
  intro t29 e29
  intro t32 e32
  intro t33 e33
  rw [bsel_or] at e33
  intro t37 e37
  intro t38 e38
  rw [bsel_or] at e38
  subst e29 e32 e33 e37 e38
  refine cx_if _ rfl (fun h38 => ?_) (fun h38 => ?_)
  ·
   (try simp only [go_sem] at h38)
   refine cx_sr ?_
   simp only [go_sem]
   refine cx_ret ?_
   simp only [go_sem]
   exact finw_bool rfl
  ·
   (try simp only [go_sem] at h38)
   obtain ⟨h0, hs, hm, he⟩ := sendP_noErr (c := c) (by grind) (by grind) (by grind)
   obtain ⟨f1, f2, f3, f4, f5, f6⟩ := checkCl_ok h0
   have hsl : okCs (sentL c) := by
     have h1 := sendP_ok ok
     rw [he] at h1
     exact h1.1.2.2.2.2.2
   rw [he]
   dsimp only
   refine cx_skip ?_
   (try simp only [go_sem])
   refine cx_seq ?_
   refine cx_sr ?_
   simp only [go_sem]
   refine cx_block ?_
   refine cx_loop0 (σ := Nat) (fun i => i ≤ c.base.length ∧ ∀ j, j < i → (c.base.getD j default).version ≤ c.cursor) (fun i => [⟨7, 0, [], .int .i64 (i : Nat)⟩]) [1, 3, 4] (fun i => c.base.length - i) 0 ⟨Nat.zero_le _, fun j hj => absurd hj (Nat.not_lt_zero j)⟩ (Nat.zero_le _) byC (fun i hI1 => ?_)
   simp only [go_sem]
   refine cx_seq ?_
   refine cx_sr ?_
   simp only [go_sem]
   repeat first | (with_reducible refine side_d ?_ ?_; exact byD) | (with_reducible refine side_q ?_ ?_; exact byQ)
   intro t43 e43
   subst e43
   refine cx_if _ rfl (fun h43 => ?_) (fun h43 => ?_)
   ·
    (try simp only [go_sem] at h43)
    refine cx_skip ?_
    (try simp only [go_sem])
    refine cx_seq (cx_block ?_)
    refine cx_seq (cx_draw mixed [] (.first 0 (.first 1 (.first 2 (.first 3 (.first 4 (.first 5 (.first 6 (.first 7 (.first 8 (.done)))))))))) (by kernel_rfl) ?_)
    simp only [go_sem]
    repeat first | (with_reducible refine side_d ?_ ?_; exact byD) | (with_reducible refine side_q ?_ ?_; exact byQ)
    intro t54 e54
    subst e54
    refine cx_if _ rfl (fun h54 => ?_) (fun h54 => ?_)
    ·
     (try simp only [go_sem] at h54)
     refine cx_sr ?_
     simp only [go_sem]
     refine cx_ret ?_
     simp only [go_sem]
     exact finw_bool rfl
    ·
     (try simp only [go_sem] at h54)
     refine cx_skip ?_
     (try simp only [go_sem])
     refine cx_region ?_
     simp only [go_sem]
     intro t45 e45
     (try replace e45 := w64 e45 (by omega) (by omega))
     refine rnd_next (i + 1) ⟨by omega, all_next hI1.2 (by omega)⟩ (by first | omega | (dsimp only; omega)) byC
   ·
    (try simp only [go_sem] at h43)
    have hver : ∀ x ∈ c.base, x.version ≤ c.cursor := fun x hx => by
      obtain ⟨j, hj, rfl⟩ := List.getElem_of_mem hx
      have := hI1.2 j (by omega)
      simpa [List.getD, hj] using this
    have hbig : c.cursor = 1000000 → (allP c.base (sentL c) (c.cursor + 1)).2.2 = 3 := fun hc => by
      have hlen : (sentL c).length ≤ 20 := by simp [sentL]; omega
      have hpos : 0 < (sentL c).length := List.length_pos_iff.2 hs
      rw [allP_full f1, allR, if_neg (by omega), if_pos ⟨by rw [hc]; decide, by omega⟩]
    have hsaid : c.cursor ≠ 1000000 → _ := fun hc => sent_said f1 f2 f3 (by omega) hver
    refine cx_exit ?_
    simp only [go_sem]
    refine cx_sr ?_
    simp only [go_sem]
    intro t62 e62
    (try replace e62 := w64 e62 (by omega) (by omega))
    refine cw_m (All_v c.base (sentL c) (c.cursor + 1) o3 hsl) byW byT ?_
    simp only [go_sem]
    refine cx_seq ?_
    refine cx_sr ?_
    simp only [go_sem]
    intro t69 e69
    subst e69
    refine cx_if _ rfl (fun h69 => ?_) (fun h69 => ?_)
    ·
     (try simp only [go_sem] at h69)
     refine cx_sr ?_
     simp only [go_sem]
     intro t71 e71
     subst e71
     refine cx_ret ?_
     simp only [go_sem]
     exact finw_bool (by simp [hbig (by simpa using h69)])
    ·
     (try simp only [go_sem] at h69)
     obtain ⟨t, q1, q2, q3⟩ := hsaid (by simpa using h69)
     rw [q1]
     dsimp only
     refine cx_skip ?_
     (try simp only [go_sem])
     refine cx_seq ?_
     refine cx_sr ?_
     simp only [go_sem]
     intro t73 e73
     intro t79 e79
     intro t80 e80
     rw [bsel_or] at e80
     intro t86 e86
     (try replace e86 := w64 e86 (by omega) (by omega))
     intro t87 e87
     intro t88 e88
     rw [bsel_or] at e88
     intro t94 e94
     intro t95 e95
     rw [bsel_or] at e95
     subst e73 e79 e80 e87 e88 e94 e95
     refine cx_if _ rfl (fun h95 => ?_) (fun h95 => ?_)
     ·
      (try simp only [go_sem] at h95)
      refine cx_sr ?_
      simp only [go_sem]
      refine cx_ret ?_
      simp only [go_sem]
      exfalso
      simp [sentC, reqOf] at h95
      omega
     ·
      (try simp only [go_sem] at h95)
      refine cx_skip ?_
      (try simp only [go_sem])
      refine cx_sr ?_
      simp only [go_sem]
      refine cw_m (Same_c t c.mine q2.ok o4) byW byT ?_
      simp only [go_sem]
      refine cx_sr ?_
      simp only [go_sem]
      intro t104 e104
      intro t111 e111
      intro t112 e112
      rw [bsel_or] at e112
      intro t113 e113
      rw [bsel_and] at e113
      subst e104 e111 e112 e113
      refine cx_ret ?_
      simp only [go_sem]
      refine finw_bool ?_
      have hc2 := check2_iff.2 ⟨q2, f2⟩
      simp only [hc2]
      rcases q3 with h | h
      · simp [h]
      · simp [reqOf, sentC, h]
end Go.VM.Tryd
end
