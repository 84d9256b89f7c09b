import Derived.Test.YtbeimhhhgjaaaaaGreatDoorFW5
import Derived.Test.YtbeimhhhgjaaaaaGreatDoorFW2
import Derived.Test.YtbeimhhhgjaaaaaGreatDoorFV7
section
set_option maxHeartbeats 4000000
set_option linter.unusedVariables false
set_option linter.unusedSimpArgs false
open Go Go.VM Go.Proofs Tether
namespace Go.VM.Tryz
set_option maxRecDepth 100000
def rebC (b : Int) (c : Change) : Change := ⟨c.kind, c.path, c.to, c.text, b⟩
def sentL (c : Client) : List Change := ((diffP c.base c.mine).take 20).map (rebC c.cursor)
def reqOf (c : Client) : Request := ⟨1, c.who, c.folder, [], c.key, [], 0, 0, 0, c.asked⟩
def keyOf (c : Client) : Str := c.who ++ [45] ++ itoaS (c.keys + 1)
def sentC (c : Client) : Client := ⟨c.who, c.folder, c.base, c.cursor, c.mine, keyOf c, sentL c, c.keys + 1⟩
def sendP (c : Client) : Client × Request × Bool × Int :=
  if checkCl c ≠ 0 then (noCl, noRq, false, checkCl c) else if c.key = [] then
    if sentL c = [] then (c, noRq, false, 0) else if c.keys = 1000000 then (noCl, noRq, false, 3) else (sentC c, reqOf (sentC c), true, 0)
  else (c, reqOf c, true, 0)
def rebL (b : Int) (l : List Change) (i : Nat) : List Change := (l.take i).map (rebC b) ++ l.drop i
theorem rebL_len (b : Int) (l : List Change) {i : Nat} (hi : i ≤ l.length) : (rebL b l i).length = l.length := by
  simp [rebL]; omega
theorem rebL_zero (b : Int) (l : List Change) : rebL b l 0 = l := by simp [rebL]
theorem rebL_at {b : Int} {l : List Change} {i : Nat} (hi : i < l.length) : (rebL b l i).getD i default = l.getD i default := by
  simp only [rebL, List.getD_eq_getElem?_getD]
  rw [List.getElem?_append_right (by simp; omega)]
  simp [show min i l.length = i by omega, List.getElem?_drop]
theorem rebL_next {b : Int} {l : List Change} {i : Nat} (hi : i < l.length) : rebL b l (i + 1) = (rebL b l i).set i (rebC b (l.getD i default)) := by
  have hd : l.getD i default = l[i] := by simp [List.getD, hi]
  have hl : ((l.take i).map (rebC b)).length = i := by simp; omega
  rw [rebL, rebL, List.set_append_right _ _ (by omega), hl, Nat.sub_self, List.drop_eq_getElem_cons hi, List.set_cons_zero, hd, List.take_add_one, List.getElem?_eq_getElem hi]
  simp only [List.map_append, List.append_assoc, Option.toList, List.map_cons, List.map_nil, List.cons_append, List.nil_append]
attribute [go_sem] rebL_zero
theorem stF_set {α : Type} {enc : α → List V} {d x : α} {l : List α} {k o i : Nat} {vs : List V} (hk : k < l.length) (hx : spl (enc (l.getD k d)) o vs = enc x) : stF (En enc d l) k o vs i = En enc d (l.set k x) i := by
  unfold stF
  cases hb : Nat.beq i k with
  | true =>
    have e : i = k := Nat.eq_of_beq_eq_true hb
    subst e
    simp only [cond, En]
    rw [hx]
    simp [List.getD, hk]
  | false =>
    have hne : i ≠ k := Nat.ne_of_beq_eq_false hb
    simp only [cond, En]
    simp [List.getD, List.getElem?_set, Ne.symm hne]
set_option maxHeartbeats 4000000 in
theorem Send_c (c : Client) (ok : okCl c) (hk : c.keys < 98) : Meets Tryz.prog 14 [.agg (clE c)] (.tup [.agg (clE (sendP c).1), .agg (rqE (sendP c).2.1), .bool (sendP c).2.2.1, .int .i64 (sendP c).2.2.2]) [] := by
  refine meets_x (fn := Tryz.f14) Tryz.func14 rfl fb14 (by kernel_rfl) (Nat.le_of_ble_eq_true rfl) ?_
  obtain ⟨o1, o2, o3, o4, o5, o6⟩ := id ok
  have hbl := o3.1
  have hml := o4.1
  have hal := o6.1
  refine cx_sr ?_
  simp only [go_sem]
  repeat first | (with_reducible refine side_d ?_ ?_; exact byD) | (with_reducible refine side_q ?_ ?_; exact byQ)
  refine cx_seq ?_
  refine cx_sr ?_
  simp only [go_sem]
  refine cw_m (CCheck_c c ok) byW byT ?_
  simp only [go_sem]
  refine cx_sr ?_
  simp only [go_sem]
  intro t12 e12
  subst e12
  refine cx_if _ rfl (fun h12 => ?_) (fun h12 => ?_)
  ·
   (try simp only [go_sem] at h12)
   refine cx_sr ?_
   simp only [go_sem]
   refine cx_ret ?_
   simp only [go_sem]
   have h : checkCl c ≠ 0 := by simpa using h12
   have he : sendP c = (noCl, noRq, false, checkCl c) := by rw [sendP, if_pos h]
   rw [he]
   exact finx_of 2 [] rfl byC byC byC byC
  ·
   (try simp only [go_sem] at h12)
   have h0 : checkCl c = 0 := by simpa using h12
   obtain ⟨f1, f2, f3, f4, f5, f6⟩ := checkCl_ok h0
   have hdl := diffP_len c.base c.mine
   refine cx_skip ?_
   (try simp only [go_sem])
   refine cx_sr ?_
   simp only [go_sem]
   refine cw_m (clonedC_c c ok) byW byT ?_
   simp only [go_sem]
   refine cx_seq ?_
   refine cx_sr ?_
   simp only [go_sem]
   intro t20 e20
   subst e20
   refine cx_if _ rfl (fun h20 => ?_) (fun h20 => ?_)
   ·
    (try simp only [go_sem] at h20)
    have hkey : c.key = [] := by simpa using h20
    have hS : sendP c = if sentL c = [] then (c, noRq, false, 0) else if c.keys = 1000000 then (noCl, noRq, false, 3) else (sentC c, reqOf (sentC c), true, 0) := by
      rw [sendP, if_neg (by simpa using h0), if_pos hkey]
    refine cx_sr ?_
    simp only [go_sem]
    refine cw_m (DRaw_c c.base c.mine f1.sorted f2.sorted o3 o4) byW byT ?_
    simp only [go_sem]
    refine cx_sr ?_
    simp only [go_sem]
    repeat first | (with_reducible refine side_d ?_ ?_; exact byD) | (with_reducible refine side_q ?_ ?_; exact byQ)
    have hsl : (sentL c).length = min 20 (diffP c.base c.mine).length := by simp [sentL]
    have hm : (if (20 : Int) < ((diffP c.base c.mine).length : Int) then 20 else ((diffP c.base c.mine).length : Int)).toNat = (sentL c).length := by
      rw [hsl]
      split <;> omega
    rw [hm]
    refine cx_seq ?_
    refine cx_sr ?_
    simp only [go_sem]
    intro t33 e33
    subst e33
    refine cx_if _ rfl (fun h33 => ?_) (fun h33 => ?_)
    ·
     (try simp only [go_sem] at h33)
     refine cx_sr ?_
     simp only [go_sem]
     refine cx_ret ?_
     simp only [go_sem]
     have he : sendP c = (c, noRq, false, 0) := by rw [hS, if_pos (List.length_eq_zero_iff.1 (by omega))]
     rw [he]
     exact finx_of 2 [] rfl byC byC byC byC
    ·
     (try simp only [go_sem] at h33)
     have hne : ¬ sentL c = [] := by intro e; rw [e] at h33; simp at h33
     refine cx_skip ?_
     (try simp only [go_sem])
     refine cx_seq ?_
     refine cx_sr ?_
     simp only [go_sem]
     intro t38 e38
     subst e38
     refine cx_if _ rfl (fun h38 => ?_) (fun h38 => ?_)
     ·
      (try simp only [go_sem] at h38)
      refine cx_sr ?_
      simp only [go_sem]
      refine cx_ret ?_
      simp only [go_sem]
      have he : sendP c = (noCl, noRq, false, 3) := by rw [hS, if_neg hne, if_pos h38]
      rw [he]
      exact finx_of 2 [] rfl byC byC byC byC
     ·
      (try simp only [go_sem] at h38)
      refine cx_skip ?_
      (try simp only [go_sem])
      refine cx_seq ?_
      refine cx_sr ?_
      simp only [go_sem]
      refine cx_block ?_
      refine cx_loopk (σ := Nat) (fun i => i ≤ (sentL c).length) (fun i => [⟨43, 0, [], .int .i64 (i : Nat)⟩]) [1, 2, 3, 4, 5, 7, 42] (fun i => [.box (clE c), .box [.bad, .bad, .bad, .bad, .bad, .bad, .bad, .bad], .box [.bad, .bad, .bad, .bad, .bad, .bad, .bad, .bad, .bad, .bad], .arr 5 (diffP c.base c.mine).length (En Change.enc default (rebL c.cursor (diffP c.base c.mine) i))]) (fun i => (sentL c).length - i) 0 (by first | trivial | omega | simp) (fun _ => (Nat.zero_le _)) byC (fun i hI1 => ?_)
      simp only [go_sem]
      refine cx_sr ?_
      simp only [go_sem]
      repeat first | (with_reducible refine side_d ?_ ?_; exact byD) | (with_reducible refine side_q ?_ ?_; exact byQ)
      intro t44 e44
      subst e44
      refine cx_seq ?_
      refine cx_if _ rfl (fun h44 => ?_) (fun h44 => ?_)
      ·
       (try simp only [go_sem] at h44)
       refine cx_skip ?_
       (try simp only [go_sem])
       refine cx_seq (cx_block ?_)
       refine cx_sr ?_
       simp only [go_sem]
       refine cx_region ?_
       simp only [go_sem]
       repeat first | (with_reducible refine side_d ?_ ?_; exact byD) | (with_reducible refine side_q ?_ ?_; exact byQ)
       refine cx_region ?_
       simp only [go_sem]
       intro t52 e52
       (try replace e52 := w64 e52 (by omega) (by omega))
       have hrn := rebL_next (b := c.cursor) (l := diffP c.base c.mine) (i := i) (by omega)
       have hra := rebL_at (b := c.cursor) (l := diffP c.base c.mine) (i := i) (by omega)
       have hrl := rebL_len c.cursor (diffP c.base c.mine) (i := i) (by omega)
       refine rnd_nextr (i + 1) [0, 1, 2, 3] (by omega) (by first | omega | (dsimp only; omega)) ⟨rfl, rfl, ?_, ?_⟩
       · exact byC
       · rw [hrn]
         simp only [go_sem, wk, wks, wkB, wkH, List.length_set]
         exact fun q hq => wks_mp_of (fun _ => rfl) (stF_set (x := rebC c.cursor ((diffP c.base c.mine).getD i default)) (by omega) (by rw [hra]; rfl))
      ·
       (try simp only [go_sem] at h44)
       have hi20 : i = (sentL c).length := by omega
       have hsent : ∀ q, q < (sentL c).length → En Change.enc default (rebL c.cursor (diffP c.base c.mine) i) q = En Change.enc default (sentL c) q := by
         intro q hq
         rw [hi20]
         have e : sentL c = ((diffP c.base c.mine).take (sentL c).length).map (rebC c.cursor) := by
           conv => lhs; unfold sentL
           congr 1
           rw [hsl, ← List.take_take, List.take_of_length_le (l := diffP c.base c.mine) (Nat.le_refl _)]
         simp only [En, rebL, List.getD_eq_getElem?_getD]
         rw [List.getElem?_append_left (by simp; omega), ← e]
       refine cx_exit ?_
       simp only [go_sem]
       refine cx_sr ?_
       simp only [go_sem]
       intro t55 e55
       (try replace e55 := w64 e55 (by omega) (by omega))
       have hil := itoaS_len (c.keys + 1)
       obtain rfl : t55 = c.keys + 1 := by omega
       refine cx_joinq ([⟨1, 0, [], .ptr 0 0⟩, ⟨2, 0, [], .ptr 1 0⟩, ⟨3, 0, [], .ptr 2 0⟩]) ([.box [.str c.who, .str c.folder, esV c.base, .int .i64 c.cursor, esV c.mine, .str (keyOf c), .own none 3 5 0 (sentL c).length .loose, .int .i64 (c.keys + 1)], .box [.bad, .bad, .bad, .bad, .bad, .bad, .bad, .bad], .box [.bad, .bad, .bad, .bad, .bad, .bad, .bad, .bad, .bad, .bad], .arr 5 (sentL c).length (En Change.enc default (sentL c))]) (cx_drawZ mixed [1] [9, 11] (.firstZ 0 (.firstZ 3 (.firstZ 7 (.first 1 (.firstZ 2 (.first 4 (.one 5 (.firstZ 6 (.firstZ 8 (.one 9 (.firstZ 10 (.one 11 (.done))))))))))))) (by kernel_rfl) ?_) ?_
       ·
        simp only [go_sem]
        repeat ((with_reducible first | refine side_d ?_ ?_ | refine side_q ?_ ?_); focus (first | exact byD | exact byQ | ((refine Sd.mk ?_; simp; omega))))
        repeat first | (with_reducible refine side_d ?_ ?_; exact byD) | (with_reducible refine side_q ?_ ?_; exact byQ)
        refine cwE_m (Itoa_c (c.keys + 1) (by omega) (by omega)) byW byT ?_
        simp only [go_sem]
        repeat ((with_reducible first | refine side_d ?_ ?_ | refine side_q ?_ ?_); focus (first | exact byD | exact byQ | ((refine Sd.mk ?_; simp; omega))))
        repeat first | (with_reducible refine side_d ?_ ?_; exact byD) | (with_reducible refine side_q ?_ ?_; exact byQ)
        first | (refine ⟨[0, 1, 2, 3], rfl, rfl, ?_, ?_⟩ <;> (first | trivial | (simp only [go_sem, wk, wks, wkB, wkH, subw, subEw, hprew, ltb, subr, subEr]; done) | (simp only [go_sem, wk, wks, wkB, wkH, subw, subEw, hprew, ltb, subr, subEr]; and_intros <;> first | trivial | rfl | omega | assumption | exact Nat.le_refl _ | exact wks_refl _ | exact wk_refl _ | (intros; exact wks_refl _) | (subst_vars; intro q hq; refine wks_mp_snoc (fun x => ?_) ?_ ?_; exact rnVs_no _ rfl; rfl; simp at hq; omega) | ((intro q hq; rw [hsent q hq]; exact wks_refl _)) | (simp; done) | (simp; omega))))
       simp only [go_sem]
       refine cx_seq (cx_drawZ mixed [0] [11, 12] (.firstZ 0 (.firstZ 1 (.firstZ 2 (.firstZ 3 (.firstZ 4 (.firstZ 5 (.firstZ 6 (.firstZ 7 (.firstZ 8 (.one 9 (.firstZ 10 (.one 11 (.one 12 (.firstZ 13 (.firstZ 14 (.done)))))))))))))))) (by kernel_rfl) ?_)
       simp only [go_sem]
       first | (refine cwE_m (Clone_Change_v c.asked (by omega)) byW byT ?_) | (refine cwE_n 2 (Clone_Change (sentL c) (by omega)) byV byC rfl byN ?_)
       simp only [go_sem]
       refine cx_ret ?_
       simp only [go_sem]
       have he : sendP c = (sentC c, reqOf (sentC c), true, 0) := by rw [hS, if_neg hne, if_neg h38]
       rw [he]
       exact finx_of 2 [] rfl byC byC byC byC
   ·
    (try simp only [go_sem] at h20)
    refine cx_skip ?_
    (try simp only [go_sem])
    refine cx_seq (cx_drawZ mixed [0] [11, 12] (.firstZ 0 (.firstZ 1 (.firstZ 2 (.firstZ 3 (.firstZ 4 (.firstZ 5 (.firstZ 6 (.firstZ 7 (.firstZ 8 (.one 9 (.firstZ 10 (.one 11 (.one 12 (.firstZ 13 (.firstZ 14 (.done)))))))))))))))) (by kernel_rfl) ?_)
    simp only [go_sem]
    first | (refine cwE_m (Clone_Change_v c.asked (by omega)) byW byT ?_) | (refine cwE_n 2 (Clone_Change (sentL c) (by omega)) byV byC rfl byN ?_)
    simp only [go_sem]
    refine cx_ret ?_
    simp only [go_sem]
    have hkey : ¬ c.key = [] := by simpa using h20
    have he : sendP c = (c, reqOf c, true, 0) := by rw [sendP, if_neg (by simpa using h0), if_neg hkey]
    rw [he]
    exact finx_of 2 [] rfl byC byC byC byC
end Go.VM.Tryz
end
section
set_option maxHeartbeats 4000000
set_option linter.unusedVariables false
set_option linter.unusedSimpArgs false
open Go Go.VM Go.Proofs Tether
namespace Go.VM.Tryz
set_option maxRecDepth 100000
theorem clientBegun_c : Meets Tryz.prog 10 [] (.bool true) [] := by
  refine meets_x (fn := Tryz.f10) Tryz.func10 rfl fb10 (by kernel_rfl) (Nat.le_of_ble_eq_true rfl) ?_
  have h1 : newP [97] [102] = newCl [97] [102] ∧ checkCl (newCl [97] [102]) = 0 := by decide +kernel
  have h2 : editP (newCl [97] [102]) ⟨2, [120], [], [49], -1⟩ = (⟨[97], [102], [], 0, [⟨[120], false, [49], 1⟩], [], [], 0⟩, 0) := by decide +kernel
  have h3 : sendP ⟨[97], [102], [], 0, [⟨[120], false, [49], 1⟩], [], [], 0⟩ = (⟨[97], [102], [], 0, [⟨[120], false, [49], 1⟩], [97, 45, 49], [⟨2, [120], [], [49], 0⟩], 1⟩, ⟨1, [97], [102], [], [97, 45, 49], [], 0, 0, 0, [⟨2, [120], [], [49], 0⟩]⟩, true, 0) := by decide +kernel
  have hA := CNew_c [97] [102] (by simp) (by simp)
  rw [h1.1, h1.2] at hA
  have hB := Edit_c (newCl [97] [102]) ⟨2, [120], [], [49], -1⟩ (newCl_ok (by simp) (by simp)) (by simp [okC])
  rw [h2] at hB
  have hC := Send_c ⟨[97], [102], [], 0, [⟨[120], false, [49], 1⟩], [], [], 0⟩ (by simp [okCl, okE, okCs]) (by simp)
  rw [h3] at hC
  dsimp only at hA hB hC
  refine cx_sr ?_
  simp only [go_sem]
  repeat first | (with_reducible refine side_d ?_ ?_; exact byD) | (with_reducible refine side_q ?_ ?_; exact byQ)
  refine cx_sr ?_
  simp only [go_sem]
  refine cw_m (hA) byW byT ?_
  simp only [go_sem]
  refine cx_sr ?_
  simp only [go_sem]
  refine cw_m (hB) byW byT ?_
  simp only [go_sem]
  refine cx_sr ?_
  simp only [go_sem]
  refine cw_m (hC) byW byT ?_
  simp only [go_sem]
  refine cx_sr ?_
  simp only [go_sem]
  intro t26 e26
  intro t29 e29
  intro t30 e30
  rw [bsel_and] at e30
  intro t33 e33
  intro t34 e34
  rw [bsel_and] at e34
  intro t37 e37
  rw [bsel_and] at e37
  intro t41 e41
  intro t42 e42
  rw [bsel_and] at e42
  intro t47 e47
  intro t48 e48
  rw [bsel_and] at e48
  repeat ((with_reducible first | refine side_d ?_ ?_ | refine side_q ?_ ?_); focus (first | exact byD | exact byQ | ((refine Sd.mk ?_; simp))))
  repeat first | (with_reducible refine side_d ?_ ?_; exact byD) | (with_reducible refine side_q ?_ ?_; exact byQ)
  intro t55 e55
  intro t56 e56
  rw [bsel_and] at e56
  subst e26 e29 e30 e33 e34 e37 e41 e42 e47 e48 e55 e56
  refine cx_ret ?_
  simp only [go_sem]
  exact finw_bool (by simp)
theorem ClientNews_c (who folder : Str) (h1 : who.length ≤ 1048576) (h2 : folder.length ≤ 1048576) : Meets Tryz.prog 3 [.str who, .str folder] (.bool true) [] := by
  refine meets_x (fn := Tryz.f3) Tryz.func3 rfl fb3 (by kernel_rfl) (Nat.le_of_ble_eq_true rfl) ?_
  have hok : okCl (newP who folder) := by
    unfold newP
    split
    · exact newCl_ok h1 h2
    · exact okM_noCl
  refine cx_sr ?_
  simp only [go_sem]
  repeat first | (with_reducible refine side_d ?_ ?_; exact byD) | (with_reducible refine side_q ?_ ?_; exact byQ)
  refine cx_sr ?_
  simp only [go_sem]
  refine cw_m (CNew_c who folder h1 h2) byW byT ?_
  simp only [go_sem]
  refine cx_sr ?_
  simp only [go_sem]
  refine cx_seq (cx_draw mixed [] (.one 0 (.first 1 (.first 2 (.first 3 (.first 4 (.first 6 (.one 5 (.one 7 (.first 8 (.first 9 (.done))))))))))) (by kernel_rfl) ?_)
  simp only [go_sem]
  refine cwE_m (clientBegun_c) byW byT ?_
  simp only [go_sem]
  refine ⟨_, fun hp => cwE_m (RCheckClient_c (newCl who folder) (newCl_ok h1 h2)) byW byT ⟨rfl, rfl⟩, ?_⟩
  simp only [go_sem]
  refine ⟨_, fun hp => cwE_m (clientIs_c (newP who folder) (checkCl (newCl who folder)) (checkCl (newCl who folder)) (newCl who folder) hok (newCl_ok h1 h2)) byW byT ⟨rfl, rfl⟩, ?_⟩
  simp only [go_sem]
  intro t25 e25
  rw [bsel_and] at e25
  subst e25
  refine cx_ret ?_
  simp only [go_sem]
  exact finw_bool (by simp [newP])
theorem ClientChecks_c (c : Client) (ok : okCl c) : Meets Tryz.prog 4 [.agg (clE c)] (.bool true) [] := by
  refine meets_x (fn := Tryz.f4) Tryz.func4 rfl fb4 (by kernel_rfl) (Nat.le_of_ble_eq_true rfl) ?_
  refine cx_sr ?_
  simp only [go_sem]
  repeat first | (with_reducible refine side_d ?_ ?_; exact byD) | (with_reducible refine side_q ?_ ?_; exact byQ)
  refine cx_seq (cx_draw mixed [] (.one 0 (.first 1 (.first 2 (.first 4 (.one 3 (.one 5 (.first 6 (.first 7 (.first 8 (.done)))))))))) (by kernel_rfl) ?_)
  simp only [go_sem]
  refine cwE_m (clientBegun_c) byW byT ?_
  simp only [go_sem]
  refine ⟨_, fun hp => cwE_m (CCheck_c c ok) byW byT ⟨rfl, rfl⟩, ?_⟩
  simp only [go_sem]
  refine ⟨_, fun hp => cwE_m (RCheckClient_c c ok) byW byT ⟨rfl, rfl⟩, ?_⟩
  simp only [go_sem]
  intro t9 e9
  intro t10 e10
  rw [bsel_and] at e10
  subst e9 e10
  refine cx_ret ?_
  simp only [go_sem]
  exact finw_bool (by simp)
theorem ClientEdits_c (c : Client) (x : Change) (ok : okCl c) (okx : okC x) : Meets Tryz.prog 6 [.agg (clE c), .agg x.enc] (.bool true) [] := by
  refine meets_x (fn := Tryz.f6) Tryz.func6 rfl fb6 (by kernel_rfl) (Nat.le_of_ble_eq_true rfl) ?_
  have he0 : checkCl c ≠ 0 → editP c x = (noCl, checkCl c) := fun h => by rw [editP, if_pos h]
  have hf0 : (fetchP c).changes.length ≤ 1048576 := by
    unfold fetchP
    split <;> simp [noRq]
  refine cx_sr ?_
  simp only [go_sem]
  repeat first | (with_reducible refine side_d ?_ ?_; exact byD) | (with_reducible refine side_q ?_ ?_; exact byQ)
  refine cx_sr ?_
  simp only [go_sem]
  refine cw_m (Edit_c c x ok okx) byW byT ?_
  simp only [go_sem]
  refine cx_sr ?_
  simp only [go_sem]
  refine cw_m (Fetch_c c ok) byW byT ?_
  simp only [go_sem]
  refine cx_sr ?_
  simp only [go_sem]
  refine cw_m (RCheckClient_c c ok) byW byT ?_
  simp only [go_sem]
  refine cx_sr ?_
  simp only [go_sem]
  refine cx_seq ?_
  refine cx_sr ?_
  simp only [go_sem]
  intro t30 e30
  subst e30
  refine cx_if _ rfl (fun h30 => ?_) (fun h30 => ?_)
  ·
   (try simp only [go_sem] at h30)
   refine cx_sr ?_
   simp only [go_sem]
   refine cw_m (EditOf_c c x ok okx (by simpa using h30)) byW byT ?_
   simp only [go_sem]
   refine cx_region ?_
   simp only [go_sem]
   refine cx_sr ?_
   simp only [go_sem]
   refine cw_m (clientBegun_c) byW byT ?_
   simp only [go_sem]
   first | (refine ⟨_, fun hp => cw_m (clientIs_c (editP c x).1 (editP c x).2 (editP c x).2 (editP c x).1 (edit_ok ok okx) (edit_ok ok okx)) byW byT ⟨rfl, rfl⟩, ?_⟩) | (refine ⟨_, fun hp => cw_m (clientIs_c (editP c x).1 (editP c x).2 (checkCl c) noCl (edit_ok ok okx) okM_noCl) byW byT ⟨rfl, rfl⟩, ?_⟩)
   simp only [go_sem]
   intro t51 e51
   rw [bsel_and] at e51
   intro t55 e55
   intro t56 e56
   rw [bsel_and] at e56
   first | (refine ⟨_, fun hp => cw_m (SameRequest_c (fetchP c) (fetchP c) hf0 hf0) byW byT ⟨rfl, rfl⟩, ?_⟩) | (refine ⟨_, fun hp => cw_m (SameRequest_c (fetchP c) ⟨2, c.who, c.folder, [], [], [], c.cursor, 0, 0, []⟩ hf0 (by simp)) byW byT ⟨rfl, rfl⟩, ?_⟩) | (refine ⟨_, fun hp => cw_m (SameRequest_c (fetchP c) noRq hf0 (by simp [noRq])) byW byT ⟨rfl, rfl⟩, ?_⟩)
   simp only [go_sem]
   intro t61 e61
   rw [bsel_and] at e61
   subst e51 e55 e56 e61
   refine cx_ret ?_
   simp only [go_sem]
   refine finw_bool ?_
   have h : checkCl c = 0 := by simpa using h30
   have hz : (editP c x).1 = if (editP c x).2 = 0 then (editP c x).1 else noCl := by
     split
     · rfl
     · rename_i h1
       unfold editP at h1 ⊢
       split at h1 <;> simp_all
       split at h1 <;> simp_all
       split at h1 <;> simp_all
   simp [h, ← hz, fetchP]
  ·
   (try simp only [go_sem] at h30)
   refine cx_skip ?_
   (try simp only [go_sem])
   refine cx_sr ?_
   simp only [go_sem]
   refine cw_m (clientBegun_c) byW byT ?_
   simp only [go_sem]
   first | (refine ⟨_, fun hp => cw_m (clientIs_c (editP c x).1 (editP c x).2 (editP c x).2 (editP c x).1 (edit_ok ok okx) (edit_ok ok okx)) byW byT ⟨rfl, rfl⟩, ?_⟩) | (refine ⟨_, fun hp => cw_m (clientIs_c (editP c x).1 (editP c x).2 (checkCl c) noCl (edit_ok ok okx) okM_noCl) byW byT ⟨rfl, rfl⟩, ?_⟩)
   simp only [go_sem]
   intro t51 e51
   rw [bsel_and] at e51
   intro t55 e55
   intro t56 e56
   rw [bsel_and] at e56
   first | (refine ⟨_, fun hp => cw_m (SameRequest_c (fetchP c) (fetchP c) hf0 hf0) byW byT ⟨rfl, rfl⟩, ?_⟩) | (refine ⟨_, fun hp => cw_m (SameRequest_c (fetchP c) ⟨2, c.who, c.folder, [], [], [], c.cursor, 0, 0, []⟩ hf0 (by simp)) byW byT ⟨rfl, rfl⟩, ?_⟩) | (refine ⟨_, fun hp => cw_m (SameRequest_c (fetchP c) noRq hf0 (by simp [noRq])) byW byT ⟨rfl, rfl⟩, ?_⟩)
   simp only [go_sem]
   intro t61 e61
   rw [bsel_and] at e61
   subst e51 e55 e56 e61
   refine cx_ret ?_
   simp only [go_sem]
   refine finw_bool ?_
   have h : ¬ checkCl c = 0 := by simpa using h30
   simp [h, he0 h, fetchP]
end Go.VM.Tryz
end
