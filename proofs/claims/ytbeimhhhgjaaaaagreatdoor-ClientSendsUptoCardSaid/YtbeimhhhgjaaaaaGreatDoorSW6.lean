import Derived.Test.YtbeimhhhgjaaaaaGreatDoorSW1
import Derived.Test.YtbeimhhhgjaaaaaGreatDoorSV8
import Derived.Test.YtbeimhhhgjaaaaaGreatDoorSW5
import Derived.Test.YtbeimhhhgjaaaaaGreatDoorSW3
import Derived.Lib.ItoaLen
import Derived.Shelf.Lay
section
set_option maxHeartbeats 4000000
set_option linter.unusedVariables false
set_option linter.unusedSimpArgs false
open Go Go.VM Go.Proofs
namespace Go.Proofs
open Go.Shelf
shelf_lay LaysM.n171 Nm 171 at Tryz as Tryz.laysItoa
end Go.Proofs
namespace Go.VM.Tryz
set_option maxRecDepth 100000
/-- strconv.Itoa, whatever the number -/
theorem ItoaF_c (n : Int) (h0 : -9223372036854775808 ≤ n) (h1 : n ≤ 9223372036854775807) : Meets Tryz.prog 35 [.int .i64 n] (.str (Lib.itoa n)) [] :=
  meets_grow (us0 := #[.int .i64 n]) (u0 := .string ⟨(Lib.itoa n).toArray⟩) (by kernel_rfl) (fun c us hsz h => args1 hsz h fun u hu => by simpa only [VR] using hu) (fun c => by simp [VR])
    fun w gt => Any.strconv_Itoa Go.Proofs.Tryz.laysItoa n h0 h1 w (tabIs_of gt (g := (Tryz.prog.globalNamed "internal/strconv.uint64pow10").getD 0) (by kernel_rfl))
end Go.VM.Tryz
end
section
set_option maxHeartbeats 4000000
set_option linter.unusedVariables false
set_option linter.unusedSimpArgs false
open Go Go.VM Go.Proofs Tether
namespace Go.VM.Tryz
set_option maxRecDepth 100000
def rebC (b : Int) (c : Change) : Change := ⟨c.kind, c.path, c.to, c.text, b⟩
def sentL (c : Client) : List Change := ((diffP c.base c.mine).take 20).map (rebC c.cursor)
def reqOf (c : Client) : Request := ⟨1, c.who, c.folder, [], c.key, [], 0, 0, 0, c.asked⟩
def keyOf (c : Client) : Str := c.who ++ [45] ++ Lib.itoa (c.keys + 1)
def sentC (c : Client) : Client := ⟨c.who, c.folder, c.base, c.cursor, c.mine, keyOf c, sentL c, c.keys + 1⟩
def sendP (c : Client) : Client × Request × Bool × Int :=
  if checkCl c ≠ 0 then (noCl, noRq, false, checkCl c) else if c.key = [] then
    if sentL c = [] then (c, noRq, false, 0) else if c.keys = 1000000 then (noCl, noRq, false, 3) else (sentC c, reqOf (sentC c), true, 0)
  else (c, reqOf c, true, 0)
def rebL (b : Int) (l : List Change) (i : Nat) : List Change := (l.take i).map (rebC b) ++ l.drop i
theorem rebL_len (b : Int) (l : List Change) {i : Nat} (hi : i ≤ l.length) : (rebL b l i).length = l.length := by
  simp [rebL]; omega
theorem rebL_zero (b : Int) (l : List Change) : rebL b l 0 = l := by simp [rebL]
theorem rebL_at {b : Int} {l : List Change} {i : Nat} (hi : i < l.length) : (rebL b l i).getD i default = l.getD i default := by
  simp only [rebL, List.getD_eq_getElem?_getD]
  rw [List.getElem?_append_right (by simp; omega)]
  simp [show min i l.length = i by omega, List.getElem?_drop]
theorem rebL_next {b : Int} {l : List Change} {i : Nat} (hi : i < l.length) : rebL b l (i + 1) = (rebL b l i).set i (rebC b (l.getD i default)) := by
  have hd : l.getD i default = l[i] := by simp [List.getD, hi]
  have hl : ((l.take i).map (rebC b)).length = i := by simp; omega
  rw [rebL, rebL, List.set_append_right _ _ (by omega), hl, Nat.sub_self, List.drop_eq_getElem_cons hi, List.set_cons_zero, hd, List.take_add_one, List.getElem?_eq_getElem hi]
  simp only [List.map_append, List.append_assoc, Option.toList, List.map_cons, List.map_nil, List.cons_append, List.nil_append]
attribute [go_sem] rebL_zero
theorem stF_set {α : Type} {enc : α → List V} {d x : α} {l : List α} {k o i : Nat} {vs : List V} (hk : k < l.length) (hx : spl (enc (l.getD k d)) o vs = enc x) : stF (En enc d l) k o vs i = En enc d (l.set k x) i := by
  unfold stF
  cases hb : Nat.beq i k with
  | true =>
    have e : i = k := Nat.eq_of_beq_eq_true hb
    subst e
    simp only [cond, En]
    rw [hx]
    simp [List.getD, hk]
  | false =>
    have hne : i ≠ k := Nat.ne_of_beq_eq_false hb
    simp only [cond, En]
    simp [List.getD, List.getElem?_set, Ne.symm hne]
set_option maxHeartbeats 4000000 in
theorem Send_c (c : Client) (ok : okCl c) : Meets Tryz.prog 14 [.agg (clE c)] (.tup [.agg (clE (sendP c).1), .agg (rqE (sendP c).2.1), .bool (sendP c).2.2.1, .int .i64 (sendP c).2.2.2]) [] := by
  refine meets_x (fn := Tryz.f14) Tryz.func14 rfl fb14 (by kernel_rfl) (Nat.le_of_ble_eq_true rfl) ?_
  obtain ⟨o1, o2, o3, o4, o5, o6⟩ := id ok
  have hbl := o3.1
  have hml := o4.1
  have hal := o6.1
  refine cx_sr ?_
  simp only [go_sem]
  repeat first | (with_reducible refine side_d ?_ ?_; exact byD) | (with_reducible refine side_q ?_ ?_; exact byQ)
  refine cx_seq ?_
  refine cx_sr ?_
  simp only [go_sem]
  refine cw_m (CCheck_c c ok) byW byT ?_
  simp only [go_sem]
  refine cx_sr ?_
  simp only [go_sem]
  intro t12 e12
  subst e12
  refine cx_if _ rfl (fun h12 => ?_) (fun h12 => ?_)
  ·
   (try simp only [go_sem] at h12)
   refine cx_sr ?_
   simp only [go_sem]
   refine cx_ret ?_
   simp only [go_sem]
   have h : checkCl c ≠ 0 := by simpa using h12
   have he : sendP c = (noCl, noRq, false, checkCl c) := by rw [sendP, if_pos h]
   rw [he]
   exact finx_of 2 [] rfl byC byC byC byC
  ·
   (try simp only [go_sem] at h12)
   have h0 : checkCl c = 0 := by simpa using h12
   obtain ⟨f1, f2, f3, f4, f5, f6⟩ := checkCl_ok h0
   have hdl := diffP_len c.base c.mine
   refine cx_skip ?_
   (try simp only [go_sem])
   refine cx_sr ?_
   simp only [go_sem]
   refine cw_m (clonedC_c c ok) byW byT ?_
   simp only [go_sem]
   refine cx_seq ?_
   refine cx_sr ?_
   simp only [go_sem]
   intro t20 e20
   subst e20
   refine cx_if _ rfl (fun h20 => ?_) (fun h20 => ?_)
   ·
    (try simp only [go_sem] at h20)
    have hkey : c.key = [] := by simpa using h20
    have hS : sendP c = if sentL c = [] then (c, noRq, false, 0) else if c.keys = 1000000 then (noCl, noRq, false, 3) else (sentC c, reqOf (sentC c), true, 0) := by
      rw [sendP, if_neg (by simpa using h0), if_pos hkey]
    refine cx_sr ?_
    simp only [go_sem]
    refine cw_m (DRaw_c c.base c.mine f1.sorted f2.sorted o3 o4) byW byT ?_
    simp only [go_sem]
    refine cx_sr ?_
    simp only [go_sem]
    repeat first | (with_reducible refine side_d ?_ ?_; exact byD) | (with_reducible refine side_q ?_ ?_; exact byQ)
    have hsl : (sentL c).length = min 20 (diffP c.base c.mine).length := by simp [sentL]
    have hm : (if (20 : Int) < ((diffP c.base c.mine).length : Int) then 20 else ((diffP c.base c.mine).length : Int)).toNat = (sentL c).length := by
      rw [hsl]
      split <;> omega
    rw [hm]
    refine cx_seq ?_
    refine cx_sr ?_
    simp only [go_sem]
    intro t33 e33
    subst e33
    refine cx_if _ rfl (fun h33 => ?_) (fun h33 => ?_)
    ·
     (try simp only [go_sem] at h33)
     refine cx_sr ?_
     simp only [go_sem]
     refine cx_ret ?_
     simp only [go_sem]
     have he : sendP c = (c, noRq, false, 0) := by rw [hS, if_pos (List.length_eq_zero_iff.1 (by omega))]
     rw [he]
     exact finx_of 2 [] rfl byC byC byC byC
    ·
     (try simp only [go_sem] at h33)
     have hne : ¬ sentL c = [] := by intro e; rw [e] at h33; simp at h33
     refine cx_skip ?_
     (try simp only [go_sem])
     refine cx_seq ?_
     refine cx_sr ?_
     simp only [go_sem]
     intro t38 e38
     subst e38
     refine cx_if _ rfl (fun h38 => ?_) (fun h38 => ?_)
     ·
      (try simp only [go_sem] at h38)
      refine cx_sr ?_
      simp only [go_sem]
      refine cx_ret ?_
      simp only [go_sem]
      have he : sendP c = (noCl, noRq, false, 3) := by rw [hS, if_neg hne, if_pos h38]
      rw [he]
      exact finx_of 2 [] rfl byC byC byC byC
     ·
      (try simp only [go_sem] at h38)
      refine cx_skip ?_
      (try simp only [go_sem])
      refine cx_seq ?_
      refine cx_sr ?_
      simp only [go_sem]
      refine cx_block ?_
      refine cx_loopk (σ := Nat) (fun i => i ≤ (sentL c).length) (fun i => [⟨43, 0, [], .int .i64 (i : Nat)⟩]) [1, 2, 3, 4, 5, 7, 42] (fun i => [.box (clE c), .box [.bad, .bad, .bad, .bad, .bad, .bad, .bad, .bad], .box [.bad, .bad, .bad, .bad, .bad, .bad, .bad, .bad, .bad, .bad], .arr 5 (diffP c.base c.mine).length (En Change.enc default (rebL c.cursor (diffP c.base c.mine) i))]) (fun i => (sentL c).length - i) 0 (by first | trivial | omega | simp) (fun _ => (Nat.zero_le _)) byC (fun i hI1 => ?_)
      simp only [go_sem]
      refine cx_sr ?_
      simp only [go_sem]
      repeat first | (with_reducible refine side_d ?_ ?_; exact byD) | (with_reducible refine side_q ?_ ?_; exact byQ)
      intro t44 e44
      subst e44
      refine cx_seq ?_
      refine cx_if _ rfl (fun h44 => ?_) (fun h44 => ?_)
      ·
       (try simp only [go_sem] at h44)
       refine cx_skip ?_
       (try simp only [go_sem])
       refine cx_seq (cx_block ?_)
       refine cx_sr ?_
       simp only [go_sem]
       refine cx_region ?_
       simp only [go_sem]
       repeat first | (with_reducible refine side_d ?_ ?_; exact byD) | (with_reducible refine side_q ?_ ?_; exact byQ)
       refine cx_region ?_
       simp only [go_sem]
       intro t52 e52
       (try replace e52 := w64 e52 (by omega) (by omega))
       have hrn := rebL_next (b := c.cursor) (l := diffP c.base c.mine) (i := i) (by omega)
       have hra := rebL_at (b := c.cursor) (l := diffP c.base c.mine) (i := i) (by omega)
       have hrl := rebL_len c.cursor (diffP c.base c.mine) (i := i) (by omega)
       refine rnd_nextr (i + 1) [0, 1, 2, 3] (by omega) (by first | omega | (dsimp only; omega)) ⟨rfl, rfl, ?_, ?_⟩
       · exact byC
       · rw [hrn]
         simp only [go_sem, wk, wks, wkB, wkH, List.length_set]
         exact fun q hq => wks_mp_of (fun _ => rfl) (stF_set (x := rebC c.cursor ((diffP c.base c.mine).getD i default)) (by omega) (by rw [hra]; rfl))
      ·
       (try simp only [go_sem] at h44)
       have hi20 : i = (sentL c).length := by omega
       have hsent : ∀ q, q < (sentL c).length → En Change.enc default (rebL c.cursor (diffP c.base c.mine) i) q = En Change.enc default (sentL c) q := by
         intro q hq
         rw [hi20]
         have e : sentL c = ((diffP c.base c.mine).take (sentL c).length).map (rebC c.cursor) := by
           conv => lhs; unfold sentL
           congr 1
           rw [hsl, ← List.take_take, List.take_of_length_le (l := diffP c.base c.mine) (Nat.le_refl _)]
         simp only [En, rebL, List.getD_eq_getElem?_getD]
         rw [List.getElem?_append_left (by simp; omega), ← e]
       refine cx_exit ?_
       simp only [go_sem]
       refine cx_sr ?_
       simp only [go_sem]
       intro t55 e55
       (try replace e55 := w64 e55 (by omega) (by omega))
       have hil := Lib.itoa_length_le (c.keys + 1) (by omega) (by omega)
       obtain rfl : t55 = c.keys + 1 := by omega
       refine cx_joinq ([⟨1, 0, [], .ptr 0 0⟩, ⟨2, 0, [], .ptr 1 0⟩, ⟨3, 0, [], .ptr 2 0⟩]) ([.box [.str c.who, .str c.folder, esV c.base, .int .i64 c.cursor, esV c.mine, .str (keyOf c), .own none 3 5 0 (sentL c).length .loose, .int .i64 (c.keys + 1)], .box [.bad, .bad, .bad, .bad, .bad, .bad, .bad, .bad], .box [.bad, .bad, .bad, .bad, .bad, .bad, .bad, .bad, .bad, .bad], .arr 5 (sentL c).length (En Change.enc default (sentL c))]) (cx_drawZ mixed [1] [9, 11] (.firstZ 0 (.firstZ 3 (.firstZ 7 (.first 1 (.firstZ 2 (.first 4 (.one 5 (.firstZ 6 (.firstZ 8 (.one 9 (.firstZ 10 (.one 11 (.done))))))))))))) (by kernel_rfl) ?_) ?_
       ·
        simp only [go_sem]
        repeat ((with_reducible first | refine side_d ?_ ?_ | refine side_q ?_ ?_); focus (first | exact byD | exact byQ | ((refine Sd.mk ?_; simp; omega))))
        repeat first | (with_reducible refine side_d ?_ ?_; exact byD) | (with_reducible refine side_q ?_ ?_; exact byQ)
        refine cwE_m (ItoaF_c (c.keys + 1) (by omega) (by omega)) byW byT ?_
        simp only [go_sem]
        repeat ((with_reducible first | refine side_d ?_ ?_ | refine side_q ?_ ?_); focus (first | exact byD | exact byQ | ((refine Sd.mk ?_; simp; omega))))
        repeat first | (with_reducible refine side_d ?_ ?_; exact byD) | (with_reducible refine side_q ?_ ?_; exact byQ)
        first | (refine ⟨[0, 1, 2, 3], rfl, rfl, ?_, ?_⟩ <;> (first | trivial | (simp only [go_sem, wk, wks, wkB, wkH, subw, subEw, hprew, ltb, subr, subEr]; done) | (simp only [go_sem, wk, wks, wkB, wkH, subw, subEw, hprew, ltb, subr, subEr]; and_intros <;> first | trivial | rfl | omega | assumption | exact Nat.le_refl _ | exact wks_refl _ | exact wk_refl _ | (intros; exact wks_refl _) | (subst_vars; intro q hq; refine wks_mp_snoc (fun x => ?_) ?_ ?_; exact rnVs_no _ rfl; rfl; simp at hq; omega) | ((intro q hq; rw [hsent q hq]; exact wks_refl _)) | (simp; done) | (simp; omega))))
       simp only [go_sem]
       refine cx_seq (cx_drawZ mixed [0] [11, 12] (.firstZ 0 (.firstZ 1 (.firstZ 2 (.firstZ 3 (.firstZ 4 (.firstZ 5 (.firstZ 6 (.firstZ 7 (.firstZ 8 (.one 9 (.firstZ 10 (.one 11 (.one 12 (.firstZ 13 (.firstZ 14 (.done)))))))))))))))) (by kernel_rfl) ?_)
       simp only [go_sem]
       first | (refine cwE_m (Clone_Change_v c.asked (by omega)) byW byT ?_) | (refine cwE_n 2 (Clone_Change (sentL c) (by omega)) byV byC rfl byN ?_)
       simp only [go_sem]
       refine cx_ret ?_
       simp only [go_sem]
       have he : sendP c = (sentC c, reqOf (sentC c), true, 0) := by rw [hS, if_neg hne, if_neg h38]
       rw [he]
       exact finx_of 2 [] rfl byC byC byC byC
   ·
    (try simp only [go_sem] at h20)
    refine cx_skip ?_
    (try simp only [go_sem])
    refine cx_seq (cx_drawZ mixed [0] [11, 12] (.firstZ 0 (.firstZ 1 (.firstZ 2 (.firstZ 3 (.firstZ 4 (.firstZ 5 (.firstZ 6 (.firstZ 7 (.firstZ 8 (.one 9 (.firstZ 10 (.one 11 (.one 12 (.firstZ 13 (.firstZ 14 (.done)))))))))))))))) (by kernel_rfl) ?_)
    simp only [go_sem]
    first | (refine cwE_m (Clone_Change_v c.asked (by omega)) byW byT ?_) | (refine cwE_n 2 (Clone_Change (sentL c) (by omega)) byV byC rfl byN ?_)
    simp only [go_sem]
    refine cx_ret ?_
    simp only [go_sem]
    have hkey : ¬ c.key = [] := by simpa using h20
    have he : sendP c = (c, reqOf c, true, 0) := by rw [sendP, if_neg (by simpa using h0), if_neg hkey]
    rw [he]
    exact finx_of 2 [] rfl byC byC byC byC
end Go.VM.Tryz
end
section
set_option maxHeartbeats 4000000
set_option linter.unusedVariables false
set_option linter.unusedSimpArgs false
open Go Go.VM Go.Proofs Tether
namespace Go.VM.Tryz
set_option maxRecDepth 100000
theorem clientBegun_c : Meets Tryz.prog 10 [] (.bool true) [] := by
  refine meets_x (fn := Tryz.f10) Tryz.func10 rfl fb10 (by kernel_rfl) (Nat.le_of_ble_eq_true rfl) ?_
  have h1 : newP [97] [102] = newCl [97] [102] ∧ checkCl (newCl [97] [102]) = 0 := by decide +kernel
  have h2 : editP (newCl [97] [102]) ⟨2, [120], [], [49], -1⟩ = (⟨[97], [102], [], 0, [⟨[120], false, [49], 1⟩], [], [], 0⟩, 0) := by decide +kernel
  have hi1 : Lib.itoa (0 + 1) = [49] := by simp [Lib.itoa, Lib.decDigits]
  have h3 : sendP ⟨[97], [102], [], 0, [⟨[120], false, [49], 1⟩], [], [], 0⟩ = (⟨[97], [102], [], 0, [⟨[120], false, [49], 1⟩], [97, 45, 49], [⟨2, [120], [], [49], 0⟩], 1⟩, ⟨1, [97], [102], [], [97, 45, 49], [], 0, 0, 0, [⟨2, [120], [], [49], 0⟩]⟩, true, 0) := by
    have h4 : checkCl ⟨[97], [102], [], 0, [⟨[120], false, [49], 1⟩], [], [], 0⟩ = 0 := by decide +kernel
    have h5 : sentL ⟨[97], [102], [], 0, [⟨[120], false, [49], 1⟩], [], [], 0⟩ = [⟨2, [120], [], [49], 0⟩] := by decide +kernel
    rw [sendP, if_neg (by simpa using h4), if_pos rfl, if_neg (by rw [h5]; simp), if_neg (by decide)]
    simp only [sentC, reqOf, keyOf, h5, hi1, List.cons_append, List.nil_append]
    rfl
  have hA := CNew_c [97] [102] (by simp) (by simp)
  rw [h1.1, h1.2] at hA
  have hB := Edit_c (newCl [97] [102]) ⟨2, [120], [], [49], -1⟩ (newCl_ok (by simp) (by simp)) (by simp [okC])
  rw [h2] at hB
  have hC := Send_c ⟨[97], [102], [], 0, [⟨[120], false, [49], 1⟩], [], [], 0⟩ (by simp [okCl, okE, okCs])
  rw [h3] at hC
  dsimp only at hA hB hC
  refine cx_sr ?_
  simp only [go_sem]
  repeat first | (with_reducible refine side_d ?_ ?_; exact byD) | (with_reducible refine side_q ?_ ?_; exact byQ)
  refine cx_sr ?_
  simp only [go_sem]
  refine cw_m (hA) byW byT ?_
  simp only [go_sem]
  refine cx_sr ?_
  simp only [go_sem]
  refine cw_m (hB) byW byT ?_
  simp only [go_sem]
  refine cx_sr ?_
  simp only [go_sem]
  refine cw_m (hC) byW byT ?_
  simp only [go_sem]
  refine cx_sr ?_
  simp only [go_sem]
  intro t26 e26
  intro t29 e29
  intro t30 e30
  rw [bsel_and] at e30
  intro t33 e33
  intro t34 e34
  rw [bsel_and] at e34
  intro t37 e37
  rw [bsel_and] at e37
  intro t41 e41
  intro t42 e42
  rw [bsel_and] at e42
  intro t47 e47
  intro t48 e48
  rw [bsel_and] at e48
  repeat ((with_reducible first | refine side_d ?_ ?_ | refine side_q ?_ ?_); focus (first | exact byD | exact byQ | ((refine Sd.mk ?_; simp))))
  repeat first | (with_reducible refine side_d ?_ ?_; exact byD) | (with_reducible refine side_q ?_ ?_; exact byQ)
  intro t55 e55
  intro t56 e56
  rw [bsel_and] at e56
  subst e26 e29 e30 e33 e34 e37 e41 e42 e47 e48 e55 e56
  refine cx_ret ?_
  simp only [go_sem]
  exact finw_bool (by simp)
end Go.VM.Tryz
end
section
set_option maxHeartbeats 4000000
set_option linter.unusedVariables false
set_option linter.unusedSimpArgs false
open Go Go.VM Go.Proofs Tether
namespace Go.VM.Tryz
set_option maxRecDepth 100000
/-- a number's digits -/
def digs (n : Nat) : Str := if n < 10 then [(48 + n).toUInt8] else digs (n / 10) ++ [(48 + n % 10).toUInt8]
termination_by n
theorem digs_len : ∀ (k n : Nat), n < 10 ^ (k + 1) → (digs n).length ≤ k + 1
  | 0, n, h => by unfold digs; rw [if_pos (by simpa using h)]; simp
  | k + 1, n, h => by
    unfold digs
    split
    · simp
    · have := digs_len k (n / 10) (by rw [Nat.div_lt_iff_lt_mul (by decide)]; rw [Nat.pow_succ] at h; exact h)
      simp
      omega
theorem rem10 {v t : Int} (h : 0 ≤ v) (e : t = v.tmod 10) : t = v % 10 := by rw [e, Int.tmod_eq_emod_of_nonneg h]
theorem quo10 {v t : Int} (h : 0 ≤ v) (h2 : v < 9223372036854775808) (e : t = IntKind.i64.wrap (v.tdiv 10)) : t = v / 10 := by
  rw [Int.tdiv_eq_ediv_of_nonneg h] at e
  exact w64 e (by omega) (by omega)
theorem digV {v t11 t12 t13 : Int} (h : 0 ≤ v) (e11 : t11 = v % 10) (e12 : t12 = 48 + t11) (e13 : t13 = IntKind.u8.wrap t12) : UInt8.ofNat t13.toNat = (48 + v.toNat % 10).toUInt8 := by
  have e : t13 = 48 + v % 10 := by
    rw [e13, e12, e11]
    simp [IntKind.wrap, IntKind.bits, IntKind.signed]
    omega
  rw [e]
  have : (48 + v % 10).toNat = 48 + v.toNat % 10 := by omega
  rw [this]
theorem Decimal_c (n : Int) (h0 : 0 ≤ n) (h1 : n < 9223372036854775808) : Meets Tryz.prog 38 [.int .i64 n] (.str (digs n.toNat)) [] := by
  refine meets_x (fn := Tryz.f38) Tryz.func38 rfl fb38 (by kernel_rfl) (Nat.le_of_ble_eq_true rfl) ?_
  refine cx_sr ?_
  simp only [go_sem]
  repeat first | (with_reducible refine side_d ?_ ?_; exact byD) | (with_reducible refine side_q ?_ ?_; exact byQ)
  refine cx_seq ?_
  refine cx_sr ?_
  simp only [go_sem]
  intro t5 e5
  subst e5
  refine cx_if _ rfl (fun h5 => ?_) (fun h5 => ?_)
  · simp at h5; omega
  ·
   (try simp only [go_sem] at h5)
   refine cx_skip ?_
   (try simp only [go_sem])
   refine cx_sr ?_
   simp only [go_sem]
   refine cx_block ?_
   refine cx_loop0 (σ := Int × Str) (fun v => 0 ≤ v.1 ∧ v.1 ≤ n ∧ digs v.1.toNat ++ v.2 = digs n.toNat) (fun v => [⟨0, 0, [], .int .i64 v.1⟩, ⟨3, 0, [], .str v.2⟩]) [] (fun v => v.1.toNat) (n, []) ⟨h0, Int.le_refl _, by simp⟩ (Nat.zero_le _) byC (fun v hI1 => ?_)
   simp only [go_sem]
   have hl := digs_len 18 n.toNat (by omega)
   have hl2 : v.2.length ≤ 19 := by rw [← hI1.2.2] at hl; simp at hl; omega
   refine cx_block ?_
   refine cx_sr ?_
   simp only [go_sem]
   repeat first | (with_reducible refine side_d ?_ ?_; exact byD) | (with_reducible refine side_q ?_ ?_; exact byQ)
   intro t11 e11
   have e11' := rem10 hI1.1 e11
   intro t12 e12
   (try replace e12 := w64 e12 (by omega) (by omega))
   repeat first | (with_reducible refine side_d ?_ ?_; exact byD) | (with_reducible refine side_q ?_ ?_; exact byQ)
   intro t13 e13
   repeat ((with_reducible first | refine side_d ?_ ?_ | refine side_q ?_ ?_); focus (first | exact byD | exact byQ | ((refine Sd.mk ?_; intro i _; exact ⟨_, rfl⟩))))
   repeat ((with_reducible first | refine side_d ?_ ?_ | refine side_q ?_ ?_); focus (first | exact byD | exact byQ | ((refine Sd.mk ?_; simp; omega))))
   repeat first | (with_reducible refine side_d ?_ ?_; exact byD) | (with_reducible refine side_q ?_ ?_; exact byQ)
   have hch := digV hI1.1 e11' e12 e13
   refine cx_sr ?_
   simp only [go_sem]
   repeat first | (with_reducible refine side_d ?_ ?_; exact byD) | (with_reducible refine side_q ?_ ?_; exact byQ)
   intro t19 e19
   have e19' := quo10 hI1.1 (by omega) e19
   refine cx_sr ?_
   simp only [go_sem]
   intro t21 e21
   subst e21
   refine cx_if _ rfl (fun h21 => ?_) (fun h21 => ?_)
   ·
    (try simp only [go_sem] at h21)
    refine cx_sr ?_
    simp only [go_sem]
    refine cx_ret ?_
    simp only [go_sem]
    refine finw_str ?_
    rw [← hI1.2.2]
    conv => rhs; rw [digs]
    have h21' : t19 = 0 := by simpa using h21
    rw [if_pos (by omega)]
    have : v.1.toNat % 10 = v.1.toNat := by omega
    rw [this] at hch
    simp [show chV [V.int IntKind.u8 t13] = (48 + v.1.toNat).toUInt8 from hch]
   ·
    (try simp only [go_sem] at h21)
    refine cx_skip ?_
    (try simp only [go_sem])
    refine rnd_next (t19, (48 + v.1.toNat % 10).toUInt8 :: v.2) ⟨by omega, by omega, ?_⟩ (by dsimp only; omega) ?_
    · rw [← hI1.2.2]
      conv => rhs; rw [digs]
      rw [if_neg (by omega), show t19.toNat = v.1.toNat / 10 by omega]
      simp
    · rw [show chV [V.int IntKind.u8 t13] = (48 + v.1.toNat % 10).toUInt8 from hch]
      exact byC
end Go.VM.Tryz
end
section
set_option maxHeartbeats 4000000
set_option linter.unusedVariables false
set_option linter.unusedSimpArgs false
open Go Go.VM Go.Proofs Tether
namespace Go.VM.Tryz
set_option maxRecDepth 100000
theorem digs_dec (n : Nat) : digs n = Lib.decDigits n := by
  induction n using Nat.strongRecOn with
  | ind n ih =>
    rw [digs, Lib.decDigits]
    split
    · rfl
    · rename_i h
      rw [ih (n / 10) (by omega)]
theorem DecF_c (n : Int) (h0 : 0 ≤ n) (h1 : n < 9223372036854775808) : Meets Tryz.prog 38 [.int .i64 n] (.str (Lib.itoa n)) [] := by
  have h := Decimal_c n h0 h1
  rwa [digs_dec, show Lib.decDigits n.toNat = Lib.itoa n by rw [Lib.itoa, if_neg (by omega)]] at h
set_option maxHeartbeats 4000000 in
theorem SendOf_c (c : Client) (ok : okCl c) (h0 : checkCl c = 0) : Meets Tryz.prog 15 [.agg (clE c)] (.tup [.agg (clE (sendP c).1), .agg (rqE (sendP c).2.1), .bool (sendP c).2.2.1, .int .i64 (sendP c).2.2.2]) [] := by
  refine meets_x (fn := Tryz.f15) Tryz.func15 rfl fb15 (by kernel_rfl) (Nat.le_of_ble_eq_true rfl) ?_
  obtain ⟨o1, o2, o3, o4, o5, o6⟩ := id ok
  have hbl := o3.1
  have hml := o4.1
  have hal := o6.1
  obtain ⟨f1, f2, f3, f4, f5, f6⟩ := checkCl_ok h0
  have hdl := diffP_len c.base c.mine
  have hsl : (sentL c).length = min 20 (diffP c.base c.mine).length := by simp [sentL]
  refine cx_sr ?_
  simp only [go_sem]
  repeat first | (with_reducible refine side_d ?_ ?_; exact byD) | (with_reducible refine side_q ?_ ?_; exact byQ)
  refine cx_seq ?_
  refine cx_sr ?_
  simp only [go_sem]
  intro t10 e10
  subst e10
  refine cx_if _ rfl (fun h10 => ?_) (fun h10 => ?_)
  ·
   (try simp only [go_sem] at h10)
   have hkey : c.key = [] := by simpa using h10
   have hS : sendP c = if sentL c = [] then (c, noRq, false, 0) else if c.keys = 1000000 then (noCl, noRq, false, 3) else (sentC c, reqOf (sentC c), true, 0) := by
     rw [sendP, if_neg (by simpa using h0), if_pos hkey]
   refine cx_sr ?_
   simp only [go_sem]
   refine cw_m (DiffOf_c c.base c.mine f1 f2) byW byT ?_
   simp only [go_sem]
   refine cx_seq ?_
   refine cx_sr ?_
   simp only [go_sem]
   intro t18 e18
   subst e18
   refine cx_if _ rfl (fun h18 => ?_) (fun h18 => ?_)
   ·
    (try simp only [go_sem] at h18)
    refine cx_sr ?_
    simp only [go_sem]
    refine cx_ret ?_
    simp only [go_sem]
    have he : sendP c = (c, noRq, false, 0) := by rw [hS, if_pos (List.length_eq_zero_iff.1 (by omega))]
    rw [he]
    exact finx_of 2 [] rfl byC byC byC byC
   ·
    (try simp only [go_sem] at h18)
    have hne : ¬ sentL c = [] := by intro e; rw [e] at hsl; simp at hsl; omega
    refine cx_skip ?_
    (try simp only [go_sem])
    refine cx_seq ?_
    refine cx_sr ?_
    simp only [go_sem]
    intro t23 e23
    subst e23
    refine cx_if _ rfl (fun h23 => ?_) (fun h23 => ?_)
    ·
     (try simp only [go_sem] at h23)
     refine cx_sr ?_
     simp only [go_sem]
     refine cx_ret ?_
     simp only [go_sem]
     have he : sendP c = (noCl, noRq, false, 3) := by rw [hS, if_neg hne, if_pos h23]
     rw [he]
     exact finx_of 2 [] rfl byC byC byC byC
    ·
     (try simp only [go_sem] at h23)
     refine cx_skip ?_
     (try simp only [go_sem])
     refine cx_seq ?_
     refine cx_sr ?_
     simp only [go_sem]
     intro t28 e28
     subst e28
     refine cx_meet (σ := Unit) (fun u => True) (fun u => [⟨6, 0, [], .own none 3 5 0 (sentL c).length .loose⟩]) [1, 2, 3, 4, 5] (fun u => [.box (clE c), .box [.bad, .bad, .bad, .bad, .bad, .bad, .bad, .bad], .box [.bad, .bad, .bad, .bad, .bad, .bad, .bad, .bad, .bad, .bad], .arr 5 (diffP c.base c.mine).length (En Change.enc default (diffP c.base c.mine))]) (fun _ => (Nat.zero_le _)) ?_ (fun u hIM1 => ?_)
     ·
      refine cx_if _ rfl (fun h28 => ?_) (fun h28 => ?_)
      ·
       (try simp only [go_sem] at h28)
       refine cx_region ?_
       simp only [go_sem]
       repeat first | (with_reducible refine side_d ?_ ?_; exact byD) | (with_reducible refine side_q ?_ ?_; exact byQ)
       refine mt_next () trivial ?_
       exact byC
      ·
       (try simp only [go_sem] at h28)
       refine cx_skip ?_
       (try simp only [go_sem])
       refine mt_next () trivial ?_
       exact byC
     simp only [go_sem]
     refine cx_seq ?_
     refine cx_sr ?_
     simp only [go_sem]
     repeat first | (with_reducible refine side_d ?_ ?_; exact byD) | (with_reducible refine side_q ?_ ?_; exact byQ)
     refine cx_block ?_
     refine cx_loopk (σ := Nat) (fun i => i ≤ (sentL c).length) (fun i => [⟨7, 0, [], .int .i64 (i : Nat)⟩, ⟨6, 0, [], .own none 3 5 0 (sentL c).length .loose⟩]) [1, 2, 3, 4, 5, 6] (fun i => [.box (clE c), .box [.bad, .bad, .bad, .bad, .bad, .bad, .bad, .bad], .box [.bad, .bad, .bad, .bad, .bad, .bad, .bad, .bad, .bad, .bad], .arr 5 (diffP c.base c.mine).length (En Change.enc default (rebL c.cursor (diffP c.base c.mine) i))]) (fun i => (sentL c).length - i) 0 (by first | trivial | omega | simp) (fun _ => (Nat.zero_le _)) byC (fun i hI1 => ?_)
     simp only [go_sem]
     refine cx_seq ?_
     refine cx_sr ?_
     simp only [go_sem]
     repeat first | (with_reducible refine side_d ?_ ?_; exact byD) | (with_reducible refine side_q ?_ ?_; exact byQ)
     intro t34 e34
     subst e34
     refine cx_if _ rfl (fun h34 => ?_) (fun h34 => ?_)
     ·
      (try simp only [go_sem] at h34)
      refine cx_skip ?_
      (try simp only [go_sem])
      refine cx_seq (cx_block ?_)
      refine cx_region ?_
      simp only [go_sem]
      repeat first | (with_reducible refine side_d ?_ ?_; exact byD) | (with_reducible refine side_q ?_ ?_; exact byQ)
      refine cx_region ?_
      simp only [go_sem]
      intro t36 e36
      (try replace e36 := w64 e36 (by omega) (by omega))
      have hrn := rebL_next (b := c.cursor) (l := diffP c.base c.mine) (i := i) (by omega)
      have hra := rebL_at (b := c.cursor) (l := diffP c.base c.mine) (i := i) (by omega)
      have hrl := rebL_len c.cursor (diffP c.base c.mine) (i := i) (by omega)
      refine rnd_nextr (i + 1) [0, 1, 2, 3] (by omega) (by first | omega | (dsimp only; omega)) ⟨rfl, rfl, ?_, ?_⟩
      · exact byC
      · rw [hrn]
        simp only [go_sem, wk, wks, wkB, wkH, List.length_set]
        exact fun q hq => wks_mp_of (fun _ => rfl) (stF_set (x := rebC c.cursor ((diffP c.base c.mine).getD i default)) (by omega) (by rw [hra]; rfl))
     ·
      (try simp only [go_sem] at h34)
      have hi20 : i = (sentL c).length := by omega
      have hsent : ∀ q, q < (sentL c).length → En Change.enc default (rebL c.cursor (diffP c.base c.mine) i) q = En Change.enc default (sentL c) q := by
        intro q hq
        rw [hi20]
        have e : sentL c = ((diffP c.base c.mine).take (sentL c).length).map (rebC c.cursor) := by
          conv => lhs; unfold sentL
          congr 1
          rw [hsl, ← List.take_take, List.take_of_length_le (l := diffP c.base c.mine) (Nat.le_refl _)]
        simp only [En, rebL, List.getD_eq_getElem?_getD]
        rw [List.getElem?_append_left (by simp; omega), ← e]
      refine cx_exit ?_
      simp only [go_sem]
      refine cx_sr ?_
      simp only [go_sem]
      intro t45 e45
      (try replace e45 := w64 e45 (by omega) (by omega))
      have hil := Lib.itoa_length_le (c.keys + 1) (by omega) (by omega)
      obtain rfl : t45 = c.keys + 1 := by omega
      refine cx_drawZ mixed [] [9, 11] (.firstZ 0 (.firstZ 3 (.firstZ 7 (.first 1 (.firstZ 2 (.first 4 (.one 5 (.firstZ 6 (.firstZ 8 (.one 9 (.firstZ 10 (.one 11 (.done))))))))))))) (by kernel_rfl) ?_
      simp only [go_sem]
      repeat ((with_reducible first | refine side_d ?_ ?_ | refine side_q ?_ ?_); focus (first | exact byD | exact byQ | ((refine Sd.mk ?_; simp; omega))))
      repeat first | (with_reducible refine side_d ?_ ?_; exact byD) | (with_reducible refine side_q ?_ ?_; exact byQ)
      refine cwE_m (DecF_c (c.keys + 1) (by omega) (by omega)) byW byT ?_
      simp only [go_sem]
      repeat ((with_reducible first | refine side_d ?_ ?_ | refine side_q ?_ ?_); focus (first | exact byD | exact byQ | ((refine Sd.mk ?_; simp; omega))))
      repeat first | (with_reducible refine side_d ?_ ?_; exact byD) | (with_reducible refine side_q ?_ ?_; exact byQ)
      refine cx_seq (cx_drawZ mixed [0] [10, 11] (.firstZ 0 (.firstZ 1 (.firstZ 2 (.firstZ 3 (.firstZ 4 (.firstZ 5 (.firstZ 6 (.firstZ 7 (.firstZ 8 (.firstZ 9 (.one 10 (.one 11 (.firstZ 12 (.firstZ 13 (.done))))))))))))))) (by kernel_rfl) ?_)
      simp only [go_sem]
      refine cx_ret ?_
      simp only [go_sem]
      have he : sendP c = (sentC c, reqOf (sentC c), true, 0) := by rw [hS, if_neg hne, if_neg h23]
      rw [he]
      refine finx_of 2 [] rfl ?_ ?_ ?_ ?_
      all_goals try exact byC
      simp only [go_sem, wk, wks, wkB, wkH, subw, subEw, hprew, ltb, subr, subEr]
      and_intros
      all_goals first | trivial | rfl | omega | (intro q hq; exact wks_refl _) | (intro q hq; rw [hsent q hq]; exact wks_refl _)
  ·
   (try simp only [go_sem] at h10)
   refine cx_skip ?_
   (try simp only [go_sem])
   refine cx_seq (cx_drawZ mixed [0] [10, 11] (.firstZ 0 (.firstZ 1 (.firstZ 2 (.firstZ 3 (.firstZ 4 (.firstZ 5 (.firstZ 6 (.firstZ 7 (.firstZ 8 (.firstZ 9 (.one 10 (.one 11 (.firstZ 12 (.firstZ 13 (.done))))))))))))))) (by kernel_rfl) ?_)
   simp only [go_sem]
   refine cx_ret ?_
   simp only [go_sem]
   have hkey : ¬ c.key = [] := by simpa using h10
   have he : sendP c = (c, reqOf c, true, 0) := by rw [sendP, if_neg (by simpa using h0), if_neg hkey]
   rw [he]
   exact finx_of 2 [] rfl byC byC byC byC
theorem sendP_ok {c : Client} (ok : okCl c) : okCl (sendP c).1 ∧ (sendP c).2.1.changes.length ≤ 1048576 := by
  obtain ⟨o1, o2, o3, o4, o5, o6⟩ := id ok
  unfold sendP
  split
  · exact ⟨okM_noCl, by simp [noRq]⟩
  · rename_i h0
    have h0 : checkCl c = 0 := by simpa using h0
    obtain ⟨f1, f2, f3, f4, f5, f6⟩ := checkCl_ok h0
    split
    · split
      · exact ⟨ok, by simp [noRq]⟩
      · split
        · exact ⟨okM_noCl, by simp [noRq]⟩
        · have hil := Lib.itoa_length_le (c.keys + 1) (by omega) (by omega)
          have hsl : (sentL c).length ≤ 20 := by simp [sentL]; omega
          have hwho : c.who.length ≤ 10 := by
            unfold checkCl at h0
            have : nameErr c = false := by grind
            unfold nameErr at this
            simp at this
            omega
          refine ⟨⟨o1, o2, o3, o4, ?_, ?_⟩, ?_⟩
          · show (keyOf c).length ≤ 1048576
            simp [keyOf]
            omega
          · refine ⟨by show (sentL c).length ≤ 1048576; omega, fun x hx => ?_⟩
            have hx : x ∈ sentL c := hx
            unfold sentL at hx
            obtain ⟨y, hy, rfl⟩ := List.mem_map.1 hx
            exact (diff_ok f1 f2).2 y (List.mem_of_mem_take hy)
          · show (sentL c).length ≤ 1048576
            omega
    · exact ⟨ok, o6.1⟩
theorem ClientSends_c (c : Client) (ok : okCl c) : Meets Tryz.prog 5 [.agg (clE c)] (.bool true) [] := by
  refine meets_x (fn := Tryz.f5) Tryz.func5 rfl fb5 (by kernel_rfl) (Nat.le_of_ble_eq_true rfl) ?_
  obtain ⟨k1, k2⟩ := sendP_ok ok
  have he0 : checkCl c ≠ 0 → sendP c = (noCl, noRq, false, checkCl c) := fun h => by rw [sendP, if_pos h]
  refine cx_sr ?_
  simp only [go_sem]
  repeat first | (with_reducible refine side_d ?_ ?_; exact byD) | (with_reducible refine side_q ?_ ?_; exact byQ)
  refine cx_sr ?_
  simp only [go_sem]
  refine cw_m (Send_c c ok) byW byT ?_
  simp only [go_sem]
  refine cx_sr ?_
  simp only [go_sem]
  refine cw_m (RCheckClient_c c ok) byW byT ?_
  simp only [go_sem]
  refine cx_seq ?_
  refine cx_sr ?_
  simp only [go_sem]
  intro t23 e23
  subst e23
  refine cx_if _ rfl (fun h23 => ?_) (fun h23 => ?_)
  ·
   (try simp only [go_sem] at h23)
   refine cx_region ?_
   simp only [go_sem]
   refine cw_m (SendOf_c c ok (by simpa using h23)) byW byT ?_
   simp only [go_sem]
   refine cx_sr ?_
   simp only [go_sem]
   refine cw_m (clientBegun_c) byW byT ?_
   simp only [go_sem]
   first | (refine ⟨_, fun hp => cw_m (clientIs_c (sendP c).1 (sendP c).2.2.2 (sendP c).2.2.2 (sendP c).1 k1 k1) byW byT ⟨rfl, rfl⟩, ?_⟩) | (refine ⟨_, fun hp => cw_m (clientIs_c (sendP c).1 (sendP c).2.2.2 (checkCl c) noCl k1 okM_noCl) byW byT ⟨rfl, rfl⟩, ?_⟩)
   simp only [go_sem]
   intro t38 e38
   rw [bsel_and] at e38
   first | (refine ⟨_, fun hp => cw_m (SameRequest_c (sendP c).2.1 (sendP c).2.1 k2 k2) byW byT ⟨rfl, rfl⟩, ?_⟩) | (refine ⟨_, fun hp => cw_m (SameRequest_c (sendP c).2.1 noRq k2 (by simp [noRq])) byW byT ⟨rfl, rfl⟩, ?_⟩)
   simp only [go_sem]
   intro t43 e43
   rw [bsel_and] at e43
   intro t47 e47
   intro t48 e48
   rw [bsel_and] at e48
   subst e38 e43 e47 e48
   refine cx_ret ?_
   simp only [go_sem]
   refine finw_bool ?_
   have h : checkCl c = 0 := by simpa using h23
   have hz : (sendP c).1 = if (sendP c).2.2.2 = 0 then (sendP c).1 else noCl := by
     split
     · rfl
     · rename_i h1
       unfold sendP at h1 ⊢
       rw [if_neg (by simpa using h)] at h1 ⊢
       split at h1
       · split at h1
         · simp at h1
         · split at h1
           · simp_all
           · simp at h1
       · simp at h1
   simp [← hz]
  ·
   (try simp only [go_sem] at h23)
   refine cx_skip ?_
   (try simp only [go_sem])
   refine cx_sr ?_
   simp only [go_sem]
   refine cw_m (clientBegun_c) byW byT ?_
   simp only [go_sem]
   first | (refine ⟨_, fun hp => cw_m (clientIs_c (sendP c).1 (sendP c).2.2.2 (sendP c).2.2.2 (sendP c).1 k1 k1) byW byT ⟨rfl, rfl⟩, ?_⟩) | (refine ⟨_, fun hp => cw_m (clientIs_c (sendP c).1 (sendP c).2.2.2 (checkCl c) noCl k1 okM_noCl) byW byT ⟨rfl, rfl⟩, ?_⟩)
   simp only [go_sem]
   intro t38 e38
   rw [bsel_and] at e38
   first | (refine ⟨_, fun hp => cw_m (SameRequest_c (sendP c).2.1 (sendP c).2.1 k2 k2) byW byT ⟨rfl, rfl⟩, ?_⟩) | (refine ⟨_, fun hp => cw_m (SameRequest_c (sendP c).2.1 noRq k2 (by simp [noRq])) byW byT ⟨rfl, rfl⟩, ?_⟩)
   simp only [go_sem]
   intro t43 e43
   rw [bsel_and] at e43
   intro t47 e47
   intro t48 e48
   rw [bsel_and] at e48
   subst e38 e43 e47 e48
   refine cx_ret ?_
   simp only [go_sem]
   refine finw_bool ?_
   have h : ¬ checkCl c = 0 := by simpa using h23
   simp [h, he0 h]
end Go.VM.Tryz
end
