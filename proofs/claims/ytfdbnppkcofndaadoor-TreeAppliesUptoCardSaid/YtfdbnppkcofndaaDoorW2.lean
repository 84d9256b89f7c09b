import Derived.Test.YtfdbnppkcofndaaDoorW1
section
set_option linter.unusedVariables false
set_option linter.unusedSimpArgs false
open Go Go.VM Go.Proofs Tether
namespace Go.VM
theorem cw_cnt {P : Program} {f : Nat} {fn : Func} (hf : P.funcs[f]? = some fn) (hname : (fn.name == "runtime.NumGoroutine") = false) (hb : fn.body.isNone = true) (hn : Extern.findNext fn = none) (he : Extern.find fn = some Extern.BytealgCount.count)
    {s : List UInt8} {c : Int} {H : Heap} {K : V → Heap → Prop} (hk : K (.int .i64 (s.count c.toNat.toUInt8 : Nat)) H) : cw P f [.str s, .int .u8 c] H K := by
  intro F cc hs us hsz hus
  simp only [VRs, VR] at hus
  obtain ⟨⟨u1, g1, rfl⟩, ⟨u2, g2, rfl⟩, -⟩ := hus
  have hus : us = #[.string ⟨s.toArray⟩, .int .u8 c] := by
    apply Array.ext'
    apply List.ext_getElem?
    intro j
    rcases j with _ | _ | j
    · simpa using g1
    · simpa using g2
    · have : us.toList.length = 2 := by simpa using hsz
      rw [List.getElem?_eq_none (by omega)]
      simp
  subst hus
  refine .inr ⟨.int .i64 (s.count c.toNat.toUInt8 : Nat), cc.w, ?_, cc, .int .i64 (s.count c.toNat.toUInt8 : Nat), .int .i64 (s.count c.toNat.toUInt8 : Nat), H, rfl, rfl, Le.refl _, hs, by simp only [VR], hk⟩
  rw [run_callFunc_extern hf hname hb hn he]
  have := Lib.run_countString (P := P) ⟨s.toArray⟩ c cc.w
  simp only [Lib.countByte] at this
  simp [Sem.run_bind, this, Result.andThen]
end Go.VM
namespace Go.VM.Tryd
set_option maxRecDepth 100000
theorem sign_c (c : Int) : Meets Tryd.prog 110 [.int .u8 c] (.bool (signB c)) [] := by
  refine meets_x (fn := Tryd.f110) Tryd.func110 rfl fb110 (by kernel_rfl) (Nat.le_of_ble_eq_true rfl) ?_
  refine cx_sr ?_
  simp only [go_sem]
  repeat first | (with_reducible refine side_d ?_ ?_; exact byD) | (with_reducible refine side_q ?_ ?_; exact byQ)
  refine cx_sr ?_
  simp only [go_sem]
  repeat first | (with_reducible refine side_d ?_ ?_; exact byD) | (with_reducible refine side_q ?_ ?_; exact byQ)
  intro t4 e4
  repeat first | (with_reducible refine side_d ?_ ?_; exact byD) | (with_reducible refine side_q ?_ ?_; exact byQ)
  intro t7 e7
  repeat first | (with_reducible refine side_d ?_ ?_; exact byD) | (with_reducible refine side_q ?_ ?_; exact byQ)
  intro t8 e8
  rw [bsel_and] at e8
  repeat first | (with_reducible refine side_d ?_ ?_; exact byD) | (with_reducible refine side_q ?_ ?_; exact byQ)
  intro t11 e11
  repeat first | (with_reducible refine side_d ?_ ?_; exact byD) | (with_reducible refine side_q ?_ ?_; exact byQ)
  intro t14 e14
  repeat first | (with_reducible refine side_d ?_ ?_; exact byD) | (with_reducible refine side_q ?_ ?_; exact byQ)
  intro t15 e15
  rw [bsel_and] at e15
  repeat first | (with_reducible refine side_d ?_ ?_; exact byD) | (with_reducible refine side_q ?_ ?_; exact byQ)
  intro t16 e16
  rw [bsel_or] at e16
  repeat first | (with_reducible refine side_d ?_ ?_; exact byD) | (with_reducible refine side_q ?_ ?_; exact byQ)
  intro t19 e19
  repeat first | (with_reducible refine side_d ?_ ?_; exact byD) | (with_reducible refine side_q ?_ ?_; exact byQ)
  intro t22 e22
  repeat first | (with_reducible refine side_d ?_ ?_; exact byD) | (with_reducible refine side_q ?_ ?_; exact byQ)
  intro t23 e23
  rw [bsel_and] at e23
  repeat first | (with_reducible refine side_d ?_ ?_; exact byD) | (with_reducible refine side_q ?_ ?_; exact byQ)
  intro t24 e24
  rw [bsel_or] at e24
  repeat first | (with_reducible refine side_d ?_ ?_; exact byD) | (with_reducible refine side_q ?_ ?_; exact byQ)
  refine ⟨_, fun hp => cw_m (IndexByte _ c) byW byT ⟨rfl, rfl⟩, ?_⟩
  simp only [go_sem]
  repeat first | (with_reducible refine side_d ?_ ?_; exact byD) | (with_reducible refine side_q ?_ ?_; exact byQ)
  intro t28 e28
  repeat first | (with_reducible refine side_d ?_ ?_; exact byD) | (with_reducible refine side_q ?_ ?_; exact byQ)
  intro t29 e29
  rw [bsel_or] at e29
  repeat first | (with_reducible refine side_d ?_ ?_; exact byD) | (with_reducible refine side_q ?_ ?_; exact byQ)
  subst e4 e7 e8 e11 e14 e15 e16 e19 e22 e23 e24 e28 e29
  refine cx_ret ?_
  simp only [go_sem]
  refine finw_bool ?_
  simp [signB]
theorem IsName_c (s : Str) (hs : s.length < 4611686018427387904) : Meets Tryd.prog 89 [.str s] (.bool (isName s)) [] := by
  refine meets_x (fn := Tryd.f89) Tryd.func89 rfl fb89 (by kernel_rfl) (Nat.le_of_ble_eq_true rfl) ?_
  refine cx_sr ?_
  simp only [go_sem]
  repeat first | (with_reducible refine side_d ?_ ?_; exact byD) | (with_reducible refine side_q ?_ ?_; exact byQ)
  refine cx_sr ?_
  simp only [go_sem]
  repeat first | (with_reducible refine side_d ?_ ?_; exact byD) | (with_reducible refine side_q ?_ ?_; exact byQ)
  refine cx_seq (cx_block ?_)
  refine cx_sr ?_
  simp only [go_sem]
  repeat first | (with_reducible refine side_d ?_ ?_; exact byD) | (with_reducible refine side_q ?_ ?_; exact byQ)
  intro t7 e7
  repeat first | (with_reducible refine side_d ?_ ?_; exact byD) | (with_reducible refine side_q ?_ ?_; exact byQ)
  intro t11 e11
  repeat first | (with_reducible refine side_d ?_ ?_; exact byD) | (with_reducible refine side_q ?_ ?_; exact byQ)
  intro t12 e12
  rw [bsel_or] at e12
  repeat first | (with_reducible refine side_d ?_ ?_; exact byD) | (with_reducible refine side_q ?_ ?_; exact byQ)
  intro t15 e15
  repeat first | (with_reducible refine side_d ?_ ?_; exact byD) | (with_reducible refine side_q ?_ ?_; exact byQ)
  intro t16 e16
  rw [bsel_or] at e16
  repeat first | (with_reducible refine side_d ?_ ?_; exact byD) | (with_reducible refine side_q ?_ ?_; exact byQ)
  intro t19 e19
  repeat first | (with_reducible refine side_d ?_ ?_; exact byD) | (with_reducible refine side_q ?_ ?_; exact byQ)
  intro t20 e20
  rw [bsel_or] at e20
  repeat first | (with_reducible refine side_d ?_ ?_; exact byD) | (with_reducible refine side_q ?_ ?_; exact byQ)
  subst e7 e11 e12 e15 e16 e19 e20
  refine cx_if _ rfl (fun h5 => ?_) (fun h5 => ?_)
  ·
    (try simp only [go_sem] at h5)
    refine cx_sr ?_
    simp only [go_sem]
    repeat first | (with_reducible refine side_d ?_ ?_; exact byD) | (with_reducible refine side_q ?_ ?_; exact byQ)
    refine cx_ret ?_
    simp only [go_sem]
    refine finw_bool ?_
    rcases h5 with ((h5 | h5) | h5) | h5 <;> simp [isName, h5]
  ·
    (try simp only [go_sem] at h5)
    have hpos : 0 < s.length := by
      rcases s with _ | ⟨x, s⟩
      · simp at h5
      · simp
    refine cx_sr ?_
    simp only [go_sem]
    repeat first | (with_reducible refine side_d ?_ ?_; exact byD) | (with_reducible refine side_q ?_ ?_; exact byQ)
    intro t23 e23
    repeat first | (with_reducible refine side_d ?_ ?_; exact byD) | (with_reducible refine side_q ?_ ?_; exact byQ)
    intro t24 e24
    repeat first | (with_reducible refine side_d ?_ ?_; exact byD) | (with_reducible refine side_q ?_ ?_; exact byQ)
    intro t29 e29
    (try replace e29 := w64 e29 (by omega) (by omega))
    repeat first | (with_reducible refine side_d ?_ ?_; exact byD) | (with_reducible refine side_q ?_ ?_; exact byQ)
    intro t30 e30
    repeat first | (with_reducible refine side_d ?_ ?_; exact byD) | (with_reducible refine side_q ?_ ?_; exact byQ)
    intro t31 e31
    repeat first | (with_reducible refine side_d ?_ ?_; exact byD) | (with_reducible refine side_q ?_ ?_; exact byQ)
    intro t32 e32
    rw [bsel_or] at e32
    repeat first | (with_reducible refine side_d ?_ ?_; exact byD) | (with_reducible refine side_q ?_ ?_; exact byQ)
    subst e24 e31 e32
    refine cx_if _ rfl (fun h21 => ?_) (fun h21 => ?_)
    ·
      (try simp only [go_sem] at h21)
      refine cx_sr ?_
      simp only [go_sem]
      repeat first | (with_reducible refine side_d ?_ ?_; exact byD) | (with_reducible refine side_q ?_ ?_; exact byQ)
      refine cx_ret ?_
      simp only [go_sem]
      refine finw_bool ?_
      have hl : ((s.length : Int) - 1).toNat = s.length - 1 := by omega
      subst e23 e29 e30
      simp only [hl] at h21
      rcases h21 with h21 | h21 <;> simp [isName, at8] <;> intros <;> simp_all
    ·
      (try simp only [go_sem] at h21)
      refine cx_skip ?_
      (try simp only [go_sem])
      refine cx_seq ?_
      refine cx_sr ?_
      simp only [go_sem]
      repeat first | (with_reducible refine side_d ?_ ?_; exact byD) | (with_reducible refine side_q ?_ ?_; exact byQ)
      refine cx_block ?_
      refine cx_loop0 (σ := Nat) (fun i => i ≤ s.length ∧ ∀ j, j < i → signB (at8 s j) = true) (fun i => [⟨35, 0, [], .int .i64 (i : Nat)⟩]) [0, 3, 34] (fun i => s.length - i) 0 ⟨Nat.zero_le _, fun j hj => absurd hj (Nat.not_lt_zero j)⟩ (Nat.zero_le _) byC (fun i hI1 => ?_)
      simp only [go_sem]
      refine cx_sr ?_
      simp only [go_sem]
      repeat first | (with_reducible refine side_d ?_ ?_; exact byD) | (with_reducible refine side_q ?_ ?_; exact byQ)
      intro t36 e36
      repeat first | (with_reducible refine side_d ?_ ?_; exact byD) | (with_reducible refine side_q ?_ ?_; exact byQ)
      subst e36
      refine cx_seq ?_
      refine cx_if _ rfl (fun h36 => ?_) (fun h36 => ?_)
      ·
        (try simp only [go_sem] at h36)
        refine cx_skip ?_
        (try simp only [go_sem])
        refine cx_seq (cx_block ?_)
        refine cx_sr ?_
        simp only [go_sem]
        repeat first | (with_reducible refine side_d ?_ ?_; exact byD) | (with_reducible refine side_q ?_ ?_; exact byQ)
        refine cx_sr ?_
        simp only [go_sem]
        repeat first | (with_reducible refine side_d ?_ ?_; exact byD) | (with_reducible refine side_q ?_ ?_; exact byQ)
        intro t41 e41
        repeat first | (with_reducible refine side_d ?_ ?_; exact byD) | (with_reducible refine side_q ?_ ?_; exact byQ)
        refine cw_m (sign_c _) byW byT ?_
        simp only [go_sem]
        repeat first | (with_reducible refine side_d ?_ ?_; exact byD) | (with_reducible refine side_q ?_ ?_; exact byQ)
        intro t43 e43
        repeat first | (with_reducible refine side_d ?_ ?_; exact byD) | (with_reducible refine side_q ?_ ?_; exact byQ)
        subst e43
        refine cx_if _ rfl (fun h43 => ?_) (fun h43 => ?_)
        ·
          (try simp only [go_sem] at h43)
          refine cx_sr ?_
          simp only [go_sem]
          repeat first | (with_reducible refine side_d ?_ ?_; exact byD) | (with_reducible refine side_q ?_ ?_; exact byQ)
          refine cx_ret ?_
          simp only [go_sem]
          refine finw_bool ?_
          have := range_all_false (p := fun i => signB (at8 s i)) (i := i) (n := s.length) (by omega) (by simpa [at8, e41] using h43)
          simp [isName, this]
        ·
          (try simp only [go_sem] at h43)
          refine cx_skip ?_
          (try simp only [go_sem])
          refine cx_region ?_
          simp only [go_sem]
          repeat first | (with_reducible refine side_d ?_ ?_; exact byD) | (with_reducible refine side_q ?_ ?_; exact byQ)
          intro t44 e44
          (try replace e44 := w64 e44 (by omega) (by omega))
          repeat first | (with_reducible refine side_d ?_ ?_; exact byD) | (with_reducible refine side_q ?_ ?_; exact byQ)
          refine rnd_next (i + 1) ⟨by omega, fun j hj => ?_⟩ (by show s.length - (i + 1) < s.length - i; omega) byC
          rcases Nat.lt_or_ge j i with h | h
          · exact hI1.2 j h
          · obtain rfl : j = i := by omega
            simpa [at8, e41] using h43
      ·
        (try simp only [go_sem] at h36)
        refine cx_exit ?_
        simp only [go_sem]
        refine cx_sr ?_
        simp only [go_sem]
        repeat first | (with_reducible refine side_d ?_ ?_; exact byD) | (with_reducible refine side_q ?_ ?_; exact byQ)
        refine cx_ret ?_
        simp only [go_sem]
        refine finw_bool ?_
        have := range_all_true (p := fun i => signB (at8 s i)) (n := s.length) fun j hj => hI1.2 j (by omega)
        have hl : ((s.length : Int) - 1).toNat = s.length - 1 := by omega
        subst e23 e29 e30
        simp only [hl] at h21
        simp [isName, at8, this, h5] at *
        simp_all

theorem Count (s : List UInt8) : Meets Tryd.prog 112 [.str s, .str [47]] (.int .i64 (s.count 47 : Nat)) [] := by
  refine meets_x (fn := Tryd.f112) Tryd.func112 rfl fb112 (by kernel_rfl) (Nat.le_of_ble_eq_true rfl) ?_
  refine cx_sr ?_
  simp only [go_sem]
  repeat first | (with_reducible refine side_d ?_ ?_; exact byD) | (with_reducible refine side_q ?_ ?_; exact byQ)
  refine cx_seq ?_
  refine cx_sr ?_
  simp only [go_sem]
  repeat first | (with_reducible refine side_d ?_ ?_; exact byD) | (with_reducible refine side_q ?_ ?_; exact byQ)
  intro t9 e9
  repeat first | (with_reducible refine side_d ?_ ?_; exact byD) | (with_reducible refine side_q ?_ ?_; exact byQ)
  subst e9
  refine cx_if _ rfl (fun h9 => ?_) (fun h9 => ?_)
  · simp at h9
  ·
    (try simp only [go_sem] at h9)
    refine cx_skip ?_
    (try simp only [go_sem])
    refine cx_seq ?_
    refine cx_sr ?_
    simp only [go_sem]
    repeat first | (with_reducible refine side_d ?_ ?_; exact byD) | (with_reducible refine side_q ?_ ?_; exact byQ)
    intro t15 e15
    repeat first | (with_reducible refine side_d ?_ ?_; exact byD) | (with_reducible refine side_q ?_ ?_; exact byQ)
    subst e15
    refine cx_if _ rfl (fun h15 => ?_) (fun h15 => ?_)
    ·
      (try simp only [go_sem] at h15)
      refine cx_sr ?_
      simp only [go_sem]
      repeat first | (with_reducible refine side_d ?_ ?_; exact byD) | (with_reducible refine side_q ?_ ?_; exact byQ)
      intro t18 e18
      repeat first | (with_reducible refine side_d ?_ ?_; exact byD) | (with_reducible refine side_q ?_ ?_; exact byQ)
      refine cw_cnt Tryd.func125 (by kernel_rfl) (by kernel_rfl) (by kernel_rfl) (by kernel_rfl) ?_
      simp only [go_sem]
      repeat first | (with_reducible refine side_d ?_ ?_; exact byD) | (with_reducible refine side_q ?_ ?_; exact byQ)
      refine cx_ret ?_
      simp only [go_sem]
      refine finw_int ?_
      subst e18
      rfl
    · simp at h15
def greatB (s : List UInt8) : Bool := decide (6 ≤ s.count 47) || decide (80 < s.length)
theorem great (s : List UInt8) : Meets Tryd.prog 90 [.str s] (.bool (greatB s)) [] := by
  refine meets_x (fn := Tryd.f90) Tryd.func90 rfl fb90 (by kernel_rfl) (Nat.le_of_ble_eq_true rfl) ?_
  refine cx_sr ?_
  simp only [go_sem]
  repeat first | (with_reducible refine side_d ?_ ?_; exact byD) | (with_reducible refine side_q ?_ ?_; exact byQ)
  refine cx_sr ?_
  simp only [go_sem]
  repeat first | (with_reducible refine side_d ?_ ?_; exact byD) | (with_reducible refine side_q ?_ ?_; exact byQ)
  refine cw_m (Count s) byW byT ?_
  simp only [go_sem]
  repeat first | (with_reducible refine side_d ?_ ?_; exact byD) | (with_reducible refine side_q ?_ ?_; exact byQ)
  intro t5 e5
  repeat first | (with_reducible refine side_d ?_ ?_; exact byD) | (with_reducible refine side_q ?_ ?_; exact byQ)
  intro t9 e9
  repeat first | (with_reducible refine side_d ?_ ?_; exact byD) | (with_reducible refine side_q ?_ ?_; exact byQ)
  intro t10 e10
  rw [bsel_or] at e10
  repeat first | (with_reducible refine side_d ?_ ?_; exact byD) | (with_reducible refine side_q ?_ ?_; exact byQ)
  subst e5 e9 e10
  refine cx_ret ?_
  simp only [go_sem]
  refine finw_bool ?_
  simp [greatB]
  have h1 : ((6 : Int) ≤ (s.count 47 : Nat)) ↔ 6 ≤ s.count 47 := by omega
  have h2 : ((80 : Int) < (s.length : Nat)) ↔ 80 < s.length := by omega
  simp only [h1, h2]
end Go.VM.Tryd
end
section
set_option linter.unusedVariables false
set_option linter.unusedSimpArgs false
open Go Go.VM Go.Proofs Tether
namespace Tether
def strE' (s : Str) : List V := [.str s]
abbrev strsV' (l : List Str) : V := lstV 1 strE' [] l
attribute [go_sem] strE'
end Tether
namespace Go.VM.Tryd
set_option maxRecDepth 100000
theorem pcs_len : ∀ (s x : List UInt8), x ∈ pcs s → x.length ≤ s.length := by
  intro s
  induction s with
  | nil => intro x h; simp [pcs] at h; simp [h]
  | cons b r ih =>
    intro x h
    by_cases hb : b = 47
    · simp [pcs, hb] at h
      rcases h with rfl | h
      · simp
      · have := ih x h; simp; omega
    · simp only [pcs, hb, if_false] at h
      rcases hp : pcs r with _ | ⟨y, ys⟩
      · exact absurd hp (pcs_ne r)
      · rw [hp] at h ih
        simp at h
        rcases h with rfl | h
        · have := ih y (by simp); simp; omega
        · have := ih x (by simp [h]); simp; omega
/-- what is found wrong with paths: the first one's fault -/
def checkP : List Str → Int
  | [] => 0
  | p :: r => if (pcs p).all isName then (if greatB p then 2 else checkP r) else 1
theorem check_c (l : List Str) (hl : l.length < 4611686018427387904) (hs : ∀ s ∈ l, s.length < 4611686018427387904) : Meets Tryd.prog 71 [strsV' l] (.int .i64 (checkP l)) [] := by
  refine meets_x (fn := Tryd.f71) Tryd.func71 rfl fb71 (by kernel_rfl) (Nat.le_of_ble_eq_true rfl) ?_
  refine cx_sr ?_
  simp only [go_sem]
  repeat first | (with_reducible refine side_d ?_ ?_; exact byD) | (with_reducible refine side_q ?_ ?_; exact byQ)
  refine cx_seq ?_
  refine cx_sr ?_
  simp only [go_sem]
  repeat first | (with_reducible refine side_d ?_ ?_; exact byD) | (with_reducible refine side_q ?_ ?_; exact byQ)
  refine cx_block ?_
  refine cx_loopk (σ := Nat) (fun i => i ≤ l.length ∧ checkP l = checkP (l.drop i)) (fun i => [⟨8, 0, [], .int .i64 (i : Nat)⟩]) [2, 6, 7] (fun i => [.box [.int .i64 0]]) (fun i => l.length - i) 0 ⟨Nat.zero_le _, by simp⟩ (fun _ => (Nat.zero_le _)) byC (fun i hI1 => ?_)
  simp only [go_sem]
  refine cx_sr ?_
  simp only [go_sem]
  repeat first | (with_reducible refine side_d ?_ ?_; exact byD) | (with_reducible refine side_q ?_ ?_; exact byQ)
  intro t9 e9
  repeat first | (with_reducible refine side_d ?_ ?_; exact byD) | (with_reducible refine side_q ?_ ?_; exact byQ)
  subst e9
  refine cx_seq ?_
  refine cx_if _ rfl (fun h9 => ?_) (fun h9 => ?_)
  ·
    (try simp only [go_sem] at h9)
    have hlt : i < l.length := by omega
    have hgd : l.getD i [] = l[i] := by simp [List.getD_eq_getElem?_getD, hlt]
    have hp : (l.getD i []).length < 4611686018427387904 := hs _ (by rw [hgd]; exact List.getElem_mem hlt)
    have hck : checkP (l.drop i) = if (pcs (l.getD i [])).all isName then (if greatB (l.getD i []) then 2 else checkP (l.drop (i + 1))) else 1 := by
      rw [List.drop_eq_getElem_cons hlt, hgd]
      rfl
    refine cx_skip ?_
    (try simp only [go_sem])
    refine cx_seq (cx_block ?_)
    refine cx_sr ?_
    simp only [go_sem]
    repeat first | (with_reducible refine side_d ?_ ?_; exact byD) | (with_reducible refine side_q ?_ ?_; exact byQ)
    refine cx_seq ?_
    refine cx_sr ?_
    simp only [go_sem]
    repeat first | (with_reducible refine side_d ?_ ?_; exact byD) | (with_reducible refine side_q ?_ ?_; exact byQ)
    refine cw_m (SplitSeq _) byW byT ?_
    simp only [go_sem]
    repeat first | (with_reducible refine side_d ?_ ?_; exact byD) | (with_reducible refine side_q ?_ ?_; exact byQ)
    refine cx_block ?_
    refine cx_range (fun x : List UInt8 => Value.string ⟨x.toArray⟩) (fun x : List UInt8 => V.str x) (fun c x => by simp only [VR]) (pcs (l.getD i [])) [1, 2, 3] (fun pre => ∀ y ∈ pre, isName y = true) (fun y h => by cases h) (fun pre => [.box [.int .i64 0], .dead, .dead, .dead]) ?_ ?_ ?_ ?_ (fun _ => rfl) ?_ ?_
    · exact itOk_split _ hp _ 1 2 3 rfl rfl rfl (by decide) (by decide)
    · intro r hr; simp at hr; rcases hr with rfl | rfl | rfl <;> exact ⟨_, rfl, trivial⟩
    · exact ⟨.inr rfl, .inl rfl, .inl rfl, .inl rfl, rfl⟩
    · intro r x hr h; simp at hr; rcases hr with rfl | rfl | rfl <;> (cases h; exact id)
    · rintro pre x hpre hIr
      have hm : x ∈ pcs (l.getD i []) := hpre.subset (by simp)
      have hx : x.length < 4611686018427387904 := Nat.lt_of_le_of_lt (pcs_len _ _ hm) hp
      refine cx_region ?_
      simp only [go_sem]
      repeat first | (with_reducible refine side_d ?_ ?_; exact byD) | (with_reducible refine side_q ?_ ?_; exact byQ)
      refine cx_block ?_
      refine cx_sr ?_
      simp only [go_sem]
      repeat first | (with_reducible refine side_d ?_ ?_; exact byD) | (with_reducible refine side_q ?_ ?_; exact byQ)
      refine cw_m (IsName_c _ hx) byW byT ?_
      simp only [go_sem]
      repeat first | (with_reducible refine side_d ?_ ?_; exact byD) | (with_reducible refine side_q ?_ ?_; exact byQ)
      intro t17 e17
      repeat first | (with_reducible refine side_d ?_ ?_; exact byD) | (with_reducible refine side_q ?_ ?_; exact byQ)
      subst e17
      refine cx_if _ rfl (fun h17 => ?_) (fun h17 => ?_)
      ·
        (try simp only [go_sem] at h17)
        refine cx_sr ?_
        simp only [go_sem]
        repeat first | (with_reducible refine side_d ?_ ?_; exact byD) | (with_reducible refine side_q ?_ ?_; exact byQ)
        refine cx_ret ?_
        simp only [go_sem]
        have hall : (pcs (l.getD i [])).all isName = false := by
          rw [List.all_eq_false]
          exact ⟨x, hm, by simpa using h17⟩
        rw [hI1.2, hck, hall]
        exact finx_of 1 [] rfl byC byC byC byC
      ·
        (try simp only [go_sem] at h17)
        refine cx_skip ?_
        (try simp only [go_sem])
        exact ⟨fun y hy => by rcases List.mem_append.1 hy with h | h; exact hIr y h; simp at h; subst h; simpa using h17, .inl byC⟩
    · intro hIr
      (try simp only [go_sem])
      refine cx_sr ?_
      simp only [go_sem]
      repeat first | (with_reducible refine side_d ?_ ?_; exact byD) | (with_reducible refine side_q ?_ ?_; exact byQ)
      refine cw_m (great _) byW byT ?_
      simp only [go_sem]
      repeat first | (with_reducible refine side_d ?_ ?_; exact byD) | (with_reducible refine side_q ?_ ?_; exact byQ)
      refine cx_if _ rfl (fun h19 => ?_) (fun h19 => ?_)
      ·
        (try simp only [go_sem] at h19)
        refine cx_sr ?_
        simp only [go_sem]
        repeat first | (with_reducible refine side_d ?_ ?_; exact byD) | (with_reducible refine side_q ?_ ?_; exact byQ)
        refine cx_ret ?_
        simp only [go_sem]
        have hall : (pcs (l.getD i [])).all isName = true := List.all_eq_true.2 hIr
        rw [hI1.2, hck, hall, show greatB (l.getD i []) = true from by simpa using h19]
        exact finx_of 1 [] rfl byC byC byC byC
      ·
        (try simp only [go_sem] at h19)
        refine cx_skip ?_
        (try simp only [go_sem])
        refine cx_region ?_
        simp only [go_sem]
        repeat first | (with_reducible refine side_d ?_ ?_; exact byD) | (with_reducible refine side_q ?_ ?_; exact byQ)
        intro t20 e20
        (try replace e20 := w64 e20 (by omega) (by omega))
        repeat first | (with_reducible refine side_d ?_ ?_; exact byD) | (with_reducible refine side_q ?_ ?_; exact byQ)
        have hall : (pcs (l.getD i [])).all isName = true := List.all_eq_true.2 hIr
        refine rnd_next (i + 1) ⟨by omega, ?_⟩ (by show l.length - (i + 1) < l.length - i; omega) byC
        rw [hI1.2, hck, hall, show greatB (l.getD i []) = false from by simpa using h19]
        rfl
  ·
    (try simp only [go_sem] at h9)
    refine cx_exit ?_
    simp only [go_sem]
    refine cx_sr ?_
    simp only [go_sem]
    repeat first | (with_reducible refine side_d ?_ ?_; exact byD) | (with_reducible refine side_q ?_ ?_; exact byQ)
    refine cx_ret ?_
    simp only [go_sem]
    obtain rfl : i = l.length := by omega
    rw [hI1.2]
    simp only [List.drop_length]
    exact finx_of 1 [] rfl byC byC byC byC
end Go.VM.Tryd
end
section
set_option linter.unusedVariables false
open Go Go.VM Tether
namespace Go.VM.Tryd
/-- the pieces that are closed by the first bytes; where the next one begins -/
def nm (s : Str) : Nat → List Str × Nat
  | 0 => ([], 0)
  | i + 1 => if at8 s i = 47 then ((nm s i).1 ++ [(s.take i).drop (nm s i).2], i + 1) else nm s i
theorem pcs_no : ∀ s : List UInt8, 47 ∉ s → pcs s = [s]
  | [], _ => rfl
  | b :: r, h => by
    have h1 : b ≠ 47 := fun e => h (by simp [e])
    have h2 : 47 ∉ r := fun e => h (.tail _ e)
    simp [pcs, h1, pcs_no r h2]
theorem pcs_cat : ∀ (u v : List UInt8), 47 ∉ u → pcs (u ++ 47 :: v) = u :: pcs v
  | [], v, _ => by simp [pcs]
  | b :: u, v, h => by
    have h1 : b ≠ 47 := fun e => h (by simp [e])
    have h2 : 47 ∉ u := fun e => h (.tail _ e)
    simp [pcs, h1, pcs_cat u v h2]
theorem at8_47 {s : Str} {i : Nat} (hi : i < s.length) : at8 s i = 47 ↔ s[i] = 47 := by
  simp only [at8, List.getD_eq_getElem?_getD, List.getElem?_eq_getElem hi, Option.getD_some]
  constructor
  · intro h
    apply UInt8.toNat_inj.1
    have : (47 : UInt8).toNat = 47 := rfl
    rw [this]
    omega
  · intro h
    rw [h]
    rfl
theorem nm_inv (s : Str) : ∀ i, i ≤ s.length → pcs s = (nm s i).1 ++ pcs (s.drop (nm s i).2) ∧ (nm s i).2 ≤ i ∧ 47 ∉ (s.take i).drop (nm s i).2 ∧ (nm s i).1.length ≤ i
  | 0, _ => by simp [nm]
  | i + 1, h => by
    obtain ⟨h1, h2, h3, h4⟩ := nm_inv s i (by omega)
    have ht : s.take (i + 1) = s.take i ++ [s[i]] := by rw [List.take_add_one, List.getElem?_eq_getElem (by omega)]; rfl
    unfold nm
    by_cases hc : at8 s i = 47
    · rw [if_pos hc]
      have hi : s[i] = 47 := (at8_47 (by omega)).1 hc
      refine ⟨?_, Nat.le_refl _, by simp, by simp; omega⟩
      have e : ∀ k, k ≤ i → s.drop k = (s.take i).drop k ++ 47 :: s.drop (i + 1) := by
        intro k hk
        have : s = s.take i ++ 47 :: s.drop (i + 1) := by
          rw [← hi, ← List.drop_eq_getElem_cons, List.take_append_drop]
        conv => lhs; rw [this]
        rw [List.drop_append_of_le_length (by simp; omega)]
      rw [h1, e _ h2, pcs_cat _ _ h3]
      simp
    · rw [if_neg hc]
      have hi : s[i] ≠ 47 := fun e => hc ((at8_47 (by omega)).2 e)
      refine ⟨h1, by omega, ?_, by omega⟩
      rw [ht, List.drop_append_of_le_length (by simp; omega)]
      simp only [List.mem_append, List.mem_singleton, not_or]
      exact ⟨h3, fun e => hi e.symm⟩
theorem nm_pcs (s : Str) : (nm s s.length).1 ++ [s.drop (nm s s.length).2] = pcs s := by
  obtain ⟨h1, h2, h3, h4⟩ := nm_inv s s.length (Nat.le_refl _)
  rw [h1, pcs_no (s.drop _) (by simpa using h3)]
end Go.VM.Tryd
end
section
set_option linter.unusedVariables false
set_option linter.unusedSimpArgs false
open Go Go.VM
namespace Tether
/-- where the first one is; -1: nowhere -/
def idxF {α : Type} (p : α → Bool) (l : List α) : Int := match l.findIdx? p with | some i => (i : Int) | none => -1
theorem idxF_at {α : Type} {p : α → Bool} {l : List α} {d : α} {i : Nat} (hi : i < l.length) (hb : ∀ j, j < i → p (l.getD j d) = false) (h : p (l.getD i d) = true) : idxF p l = i := by
  have : l.findIdx? p = some i := by
    rw [List.findIdx?_eq_some_iff_getElem]
    refine ⟨hi, by simpa [List.getD, hi] using h, fun j hj => ?_⟩
    have hj' : j < l.length := by omega
    simpa [List.getD, hj'] using hb j hj
  rw [idxF, this]
theorem idxF_none {α : Type} {p : α → Bool} {l : List α} {d : α} (hb : ∀ j, j < l.length → p (l.getD j d) = false) : idxF p l = -1 := by
  have : l.findIdx? p = none := by
    rw [List.findIdx?_eq_none_iff]
    intro x hx
    obtain ⟨i, hi, rfl⟩ := List.getElem_of_mem hx
    simpa [List.getD, hi] using hb i hi
  rw [idxF, this]
theorem idxF_spec {α : Type} {p : α → Bool} {l : List α} (d : α) (h : ¬ idxF p l = -1) : ∃ i : Nat, idxF p l = (i : Int) ∧ i < l.length ∧ p (l.getD i d) = true ∧ (l.take (i + 1)).filter (fun x => !p x) = l.take i := by
  unfold idxF at h ⊢
  cases hf : l.findIdx? p with
  | none => rw [hf] at h; exact absurd rfl h
  | some i =>
    rw [List.findIdx?_eq_some_iff_getElem] at hf
    obtain ⟨hi, h1, h2⟩ := hf
    refine ⟨i, rfl, hi, by simpa [List.getD, hi] using h1, ?_⟩
    rw [List.take_succ_eq_append_getElem hi, List.filter_append]
    simp only [List.filter_cons, h1, Bool.not_true, List.filter_nil]
    simp only [Bool.false_eq_true, if_false, List.append_nil]
    rw [List.filter_eq_self]
    intro x hx
    obtain ⟨j, hj, rfl⟩ := List.getElem_of_mem hx
    have := h2 j (by simp at hj; omega)
    simpa using this
theorem idxF_all {α : Type} {p : α → Bool} {l : List α} (h : idxF p l = -1) : l.filter (fun x => !p x) = l := by
  rw [List.filter_eq_self]
  unfold idxF at h
  cases hf : l.findIdx? p with
  | some i => rw [hf] at h; simp at h
  | none =>
    rw [List.findIdx?_eq_none_iff] at hf
    intro x hx
    simp [hf x hx]
/-- a round of DeleteFunc: what stays is put ahead -/
theorem del_keep {α : Type} {p : α → Bool} {l L : List α} {d : α} {i j : Nat} (h1 : i < j) (h2 : j < l.length) (h3 : L.length = l.length) (h4 : L.take i = (l.take j).filter (fun x => !p x)) (h5 : L.drop j = l.drop j) (hp : p (L.getD j d) = false) :
    (L.set i (L.getD j d)).take (i + 1) = (l.take (j + 1)).filter (fun x => !p x) ∧ (L.set i (L.getD j d)).drop (j + 1) = l.drop (j + 1) := by
  have e : L.getD j d = l.getD j d := by
    have := congrArg (fun l => l.getD 0 d) h5
    simpa [List.getD] using this
  constructor
  · rw [List.take_succ_eq_append_getElem (by simp; omega), List.take_set, List.set_eq_of_length_le (by simp; omega), h4]
    rw [List.take_succ_eq_append_getElem h2, List.filter_append]
    have : l[j] = l.getD j d := by simp [List.getD, h2]
    rw [this, ← e]
    rw [List.getElem_set_self]
    generalize L.getD j d = y at hp ⊢
    simp [hp]
  · rw [List.drop_set_of_lt (by omega)]
    have := congrArg (List.drop 1) h5
    simpa [List.drop_drop, Nat.add_comm] using this
theorem del_drop {α : Type} {p : α → Bool} {l L : List α} {d : α} {i j : Nat} (h2 : j < l.length) (h4 : L.take i = (l.take j).filter (fun x => !p x)) (h5 : L.drop j = l.drop j) (hp : p (L.getD j d) = true) :
    L.take i = (l.take (j + 1)).filter (fun x => !p x) ∧ L.drop (j + 1) = l.drop (j + 1) := by
  have e : L.getD j d = l.getD j d := by
    have := congrArg (fun l => l.getD 0 d) h5
    simpa [List.getD] using this
  constructor
  · rw [List.take_succ_eq_append_getElem h2, List.filter_append, h4]
    have : l[j] = l.getD j d := by simp [List.getD, h2]
    rw [this, ← e]
    generalize L.getD j d = y at hp ⊢
    simp [hp]
  · have := congrArg (List.drop 1) h5
    simpa [List.drop_drop, Nat.add_comm] using this
theorem idxF_any {α : Type} {p : α → Bool} {l : List α} : decide (0 ≤ idxF p l) = l.any p := by
  unfold idxF
  cases hf : l.findIdx? p with
  | some i =>
    rw [List.findIdx?_eq_some_iff_getElem] at hf
    obtain ⟨hi, h1, _⟩ := hf
    have : l.any p = true := List.any_eq_true.2 ⟨l[i], List.getElem_mem hi, h1⟩
    rw [this]; simp
  | none =>
    rw [List.findIdx?_eq_none_iff] at hf
    have : l.any p = false := List.any_eq_false.2 fun x hx => by simp [hf x hx]
    rw [this]; simp
end Tether
end
section
set_option linter.unusedVariables false
set_option linter.unusedSimpArgs false
open Go Go.VM
namespace Tether
def Uploads.ok (u : Uploads) : Prop := u.ss.length * 56 ≤ 140737488355328 ∧ ∀ s ∈ u.ss, s.who.length < 4611686018427387904 ∧ s.text.length < 4611686018427387904
theorem Uploads.ok.len {u : Uploads} (h : u.ok) : u.ss.length < 4611686018427387904 := by have := h.1; omega
/-- uploads whose sessions lie in the first block -/
abbrev Uploads.own (u : Uploads) : V := .agg [.own none 0 5 0 u.ss.length .loose, .int .i64 u.next, .int .i64 u.lasts, .int .i64 u.room]
abbrev Uploads.blk (u : Uploads) : Heap := [.arr 5 u.ss.length (En Session.enc default u.ss)]
/-- no uploads -/
abbrev noU : V := .agg [.nil, .int .i64 0, .int .i64 0, .int .i64 0]
def swept (u : Uploads) (now : Int) : Uploads := { u with ss := u.ss.filter fun s => !decide (s.till < now) }
theorem swept_next {u : Uploads} {now : Int} : (swept u now).next = u.next := rfl
theorem swept_lasts {u : Uploads} {now : Int} : (swept u now).lasts = u.lasts := rfl
theorem swept_room {u : Uploads} {now : Int} : (swept u now).room = u.room := rfl
attribute [go_sem] swept_next swept_lasts swept_room
def beginErr (u : Uploads) (now : Int) : Int := if ¬ checkU u = 0 then checkU u else if within now 0 1099511627776 = false then 3 else 0
def isMine (who : Str) (number : Int) (s : Session) : Bool := decide (s.num = number) && decide (s.who = who)
/-- the place of somebody's session -/
def mineIx (u : Uploads) (who : Str) (number now : Int) : Int := idxF (isMine who number) (swept u now).ss
def mineErr (u : Uploads) (who : Str) (number now : Int) : Int :=
  if ¬ beginErr u now = 0 then beginErr u now else if isName who = false then 1 else if mineIx u who number now < 0 then 5 else 0
def zeroU : Uploads := ⟨[], 0, 0, 0⟩
def openErr (u : Uploads) (who : Str) (size now : Int) : Int :=
  if ¬ beginErr u now = 0 then beginErr u now else if isName who = false then 1
  else if within size 0 300 = false ∨ u.next = 1099511627776 then 3
  else if ((swept u now).ss.length : Int) = 20 then 2
  else if u.room < wrap (openW (swept u now).ss who + size) then 10 else 0
def openU (u : Uploads) (who : Str) (size now : Int) : Uploads × Int × Int :=
  if openErr u who size now = 0 then ({ swept u now with ss := (swept u now).ss ++ [⟨u.next, who, [], size, now + u.lasts⟩], next := u.next + 1 }, u.next, 0)
  else (zeroU, 0, openErr u who size now)
theorem within_iff {n a b : Int} : within n a b = true ↔ a ≤ n ∧ n ≤ b := by simp [within]
theorem checkU_ok {u : Uploads} (h : checkU u = 0) : (1 ≤ u.lasts ∧ u.lasts ≤ 1000000) ∧ (0 ≤ u.room ∧ u.room ≤ 100000) ∧ (1 ≤ u.next ∧ u.next ≤ 1099511627776) ∧ u.ss.length ≤ 20 ∧ ∀ s ∈ u.ss, sessErr u s = 0 := by
  unfold checkU at h
  split at h
  · simp at h
  rename_i h1
  split at h
  · simp at h
  rename_i h2
  split at h
  · rename_i h3; exact absurd h h3
  rename_i h3
  simp only [Bool.or_eq_true, Bool.not_eq_true', not_or, Bool.not_eq_false, within_iff] at h1
  refine ⟨h1.1.1, h1.1.2, h1.2, by omega, fun s hs => ?_⟩
  have h3 : firstErr (sessErr u) u.ss = 0 := by simpa using h3
  clear h h1 h2
  generalize u.ss = l at h3 hs
  induction l with
  | nil => cases hs
  | cons x l ih =>
    unfold firstErr at h3
    split at h3
    · rename_i h4; exact absurd h3 h4
    · rename_i h4
      rcases List.mem_cons.1 hs with rfl | hs
      · simpa using h4
      · exact ih h3 hs
theorem begin_facts {u : Uploads} {now : Int} (h : beginErr u now = 0) : checkU u = 0 ∧ 0 ≤ now ∧ now ≤ 1099511627776 := by
  unfold beginErr at h
  split at h
  · rename_i h1; exact absurd h h1
  · rename_i h1
    split at h
    · simp at h
    · rename_i h2
      have h2 : within now 0 1099511627776 = true := by simpa using h2
      rw [within_iff] at h2
      exact ⟨by simpa using h1, h2⟩
def queryU (u : Uploads) (who : Str) (number now : Int) : Int × Int :=
  if mineErr u who number now = 0 then ((((swept u now).ss.getD (mineIx u who number now).toNat default).text.length : Int), 0) else (0, mineErr u who number now)
theorem openU_len {u : Uploads} (hu : u.ok) (who : Str) (size now : Int) : (openU u who size now).1.ss.length < 4611686018427387904 := by
  unfold openU
  split
  · have := hu.1
    have h2 : (swept u now).ss.length ≤ u.ss.length := List.length_filter_le _ _
    simp; omega
  · simp [zeroU]
/-- behind an append of a text to a session -/
def appendU (u : Uploads) (who : Str) (number offset : Int) (text : Str) (now : Int) : Uploads × Int × Int :=
  if mineErr u who number now = 0 then
    let i := (mineIx u who number now).toNat
    let s := (swept u now).ss.getD i default
    if (0 ≤ offset ∧ offset ≤ (s.text.length : Int)) ∧ s.text.drop offset.toNat = text then (swept u now, (s.text.length : Int), 0)
    else if ¬ offset = (s.text.length : Int) then (zeroU, 0, 4)
    else if s.size < (s.text.length : Int) + (text.length : Int) then (zeroU, 0, 2)
    else ({ swept u now with ss := (swept u now).ss.set i { s with text := s.text ++ text, till := now + u.lasts } }, ((s.text ++ text).length : Int), 0)
  else (zeroU, 0, mineErr u who number now)
/-- behind a session's end -/
def finishU (u : Uploads) (who : Str) (number now : Int) : Uploads × Str × Int :=
  if mineErr u who number now = 0 then
    let i := (mineIx u who number now).toNat
    let s := (swept u now).ss.getD i default
    if (s.text.length : Int) < s.size then (zeroU, [], 4)
    else ({ swept u now with ss := (swept u now).ss.take i ++ (swept u now).ss.drop (i + 1) }, s.text, 0)
  else (zeroU, [], mineErr u who number now)
theorem mineErr_b {u : Uploads} {who : Str} {number now : Int} (h : ¬ beginErr u now = 0) : mineErr u who number now = beginErr u now := by rw [mineErr, if_pos h]
theorem mineErr_n {u : Uploads} {who : Str} {number now : Int} (h : beginErr u now = 0) (h1 : isName who = false) : mineErr u who number now = 1 := by rw [mineErr, if_neg (by simp [h]), if_pos h1]
theorem mineErr_i {u : Uploads} {who : Str} {number now : Int} (h : beginErr u now = 0) (h1 : ¬ isName who = false) (h2 : mineIx u who number now < 0) : mineErr u who number now = 5 := by rw [mineErr, if_neg (by simp [h]), if_neg h1, if_pos h2]
theorem mineErr_0 {u : Uploads} {who : Str} {number now : Int} (h : beginErr u now = 0) (h1 : ¬ isName who = false) (h2 : ¬ mineIx u who number now < 0) : mineErr u who number now = 0 := by rw [mineErr, if_neg (by simp [h]), if_neg h1, if_neg h2]
theorem mineErr_facts {u : Uploads} {who : Str} {number now : Int} (h : mineErr u who number now = 0) : beginErr u now = 0 ∧ isName who = true ∧ 0 ≤ mineIx u who number now := by
  unfold mineErr at h
  split at h
  · rename_i h1; exact absurd h h1
  rename_i h1
  split at h
  · simp at h
  rename_i h2
  split at h
  · simp at h
  rename_i h3
  exact ⟨by simpa using h1, by simpa using h2, by omega⟩
theorem mineIx_of {u : Uploads} {who : Str} {number now : Int} (h : mineErr u who number now = 0) : 0 ≤ mineIx u who number now ∧ mineIx u who number now < ((swept u now).ss.length : Int) := by
  have h1 := (mineErr_facts h).2.2
  refine ⟨h1, ?_⟩
  unfold mineIx at h1 ⊢
  obtain ⟨i, h2, h3, _⟩ := idxF_spec (p := isMine who number) (l := (swept u now).ss) default (by omega)
  omega
theorem mine_mem {u : Uploads} {who : Str} {number now : Int} (h : mineErr u who number now = 0) : (swept u now).ss.getD (mineIx u who number now).toNat default ∈ u.ss := by
  obtain ⟨h1, h2⟩ := mineIx_of h
  exact (List.mem_filter.1 (getD_mem (l := (swept u now).ss) (d := default) (by omega))).1
def swI (u : Uploads) (now : Int) (i : Nat) : List Session := (u.ss.take i).filter fun s => !decide (s.till < now)
theorem swI_len (u : Uploads) (now : Int) (i : Nat) : (swI u now i).length ≤ i :=
  Nat.le_trans (List.length_filter_le _ _) (by simp; omega)
theorem swI_T {u : Uploads} {now : Int} {i : Nat} (hi : i < u.ss.length) (h : now ≤ (u.ss.getD i default).till) : swI u now (i + 1) = swI u now i ++ [u.ss.getD i default] := by
  have e : u.ss[i] = u.ss.getD i default := by simp [List.getD, hi]
  unfold swI
  rw [List.take_succ_eq_append_getElem hi, List.filter_append, e]
  generalize u.ss.getD i default = x at h ⊢
  have : ¬ x.till < now := by omega
  simp [this]
theorem swI_F {u : Uploads} {now : Int} {i : Nat} (hi : i < u.ss.length) (h : ¬ now ≤ (u.ss.getD i default).till) : swI u now (i + 1) = swI u now i := by
  have e : u.ss[i] = u.ss.getD i default := by simp [List.getD, hi]
  unfold swI
  rw [List.take_succ_eq_append_getElem hi, List.filter_append, e]
  generalize u.ss.getD i default = x at h ⊢
  have : x.till < now := by omega
  simp [this]
theorem swI_all {u : Uploads} {now : Int} {i : Nat} (hi : u.ss.length ≤ i) : swI u now i = (swept u now).ss := by
  unfold swI swept
  rw [List.take_of_length_le hi]
theorem swept_len {u : Uploads} (hu : u.ok) (now : Int) : (swept u now).ss.length < 4611686018427387904 := by
  have := hu.len
  have : (swept u now).ss.length ≤ u.ss.length := List.length_filter_le _ _
  omega
end Tether
end
section
set_option linter.unusedVariables false
set_option linter.unusedSimpArgs false
open Go Go.VM
namespace Tether
def sgnR (c : Int) : Bool := decide (97 ≤ c) && decide (c ≤ 122) || decide (65 ≤ c) && decide (c ≤ 90) || decide (48 ≤ c) && decide (c ≤ 57) || decide (c = 45) || decide (c = 95) || decide (c = 46) || decide (c = 40) || decide (c = 41) || decide (c = 32)
theorem sgnR_eq (c : UInt8) : signB (c.toNat : Int) = sgnR (c.toNat : Int) := by
  have h : ∀ n : Fin 256, signB (((UInt8.ofNat n.val).toNat : Nat) : Int) = sgnR (((UInt8.ofNat n.val).toNat : Nat) : Int) := by decide +kernel
  have := h ⟨c.toNat, c.toNat_lt⟩
  simpa using this
/-- may a sign stand there? -/
def okAt (s : Str) (i : Nat) : Bool := sgnR (at8 s i) && !(decide (at8 s i = 32) && (decide (i = 0) || decide ((i : Int) = (s.length : Int) - 1)))
theorem isName_okAt (s : Str) : ((List.range s.length).all (okAt s) && (((!decide (s = []) && decide ((s.length : Int) ≤ 20)) && !decide (s = [46])) && !decide (s = [46, 46]))) = isName s := by
  unfold isName
  by_cases h0 : s = []
  · subst h0; rfl
  have hpos : 0 < s.length := by rcases s with _ | ⟨x, s⟩; exact absurd rfl h0; simp
  have key : (List.range s.length).all (okAt s) = (!(decide (at8 s 0 = 32) || decide (at8 s (s.length - 1) = 32)) && (List.range s.length).all fun i => signB (at8 s i)) := by
    rw [Bool.eq_iff_iff]
    simp only [List.all_eq_true, List.mem_range, Bool.and_eq_true, Bool.not_eq_true', Bool.or_eq_false_iff, decide_eq_false_iff_not]
    have hs : ∀ i, sgnR (at8 s i) = signB (at8 s i) := fun i => (sgnR_eq _).symm
    constructor
    · intro h
      refine ⟨⟨fun e => ?_, fun e => ?_⟩, fun i hi => ?_⟩
      · have := h 0 hpos
        simp [okAt, e] at this
      · have := h (s.length - 1) (by omega)
        have hk : ((s.length - 1 : Nat) : Int) = (s.length : Int) - 1 := by omega
        simp [okAt, e, hk] at this
      · have := h i hi
        rw [okAt, hs] at this
        exact (Bool.and_eq_true_iff.1 this).1
    · rintro ⟨⟨e1, e2⟩, h⟩ i hi
      rw [okAt, hs, h i hi, Bool.true_and, Bool.not_eq_true']
      by_cases e : at8 s i = 32
      · have i0 : i ≠ 0 := by rintro rfl; exact e1 e
        have i1 : ¬ (i : Int) = (s.length : Int) - 1 := by
          intro h
          have : i = s.length - 1 := by omega
          subst this; exact e2 e
        simp [e, i0, i1]
      · simp [e]
  rw [key]
  have e1 : decide ((s.length : Int) ≤ 20) = !decide (20 < (s.length : Int)) := by
    by_cases h : (s.length : Int) ≤ 20
    · have : ¬ 20 < (s.length : Int) := by omega
      simp [h, this]
    · have : 20 < (s.length : Int) := by omega
      simp [h, this]
  rw [e1]
  generalize decide (s = []) = a, decide (20 < (s.length : Int)) = b, decide (s = [46]) = c, decide (s = [46, 46]) = d, (!(decide (at8 s 0 = 32) || decide (at8 s (s.length - 1) = 32))) = e, ((List.range s.length).all fun i => signB (at8 s i)) = f
  cases a <;> cases b <;> cases c <;> cases d <;> cases e <;> cases f <;> rfl
def sameS (s t : Session) : Bool := decide (s.num = t.num) && (decide (s.who = t.who) && (decide (s.text = t.text) && (decide (s.size = t.size) && decide (s.till = t.till))))
theorem sameS_self (s : Session) : sameS s s = true := by simp [sameS]
def sameU (a b : Uploads) : Bool := decide (a.next = b.next) && decide (a.lasts = b.lasts) && decide (a.room = b.room) && decide ((a.ss.length : Int) = (b.ss.length : Int)) && (List.range a.ss.length).all fun i => sameS (a.ss.getD i default) (b.ss.getD i default)
theorem sameU_self (a : Uploads) : sameU a a = true := by
  simp only [sameU, decide_true, Bool.true_and]
  exact range_all_true fun i _ => sameS_self _
end Tether
end
section
set_option linter.unusedVariables false
set_option linter.unusedSimpArgs false
open Go Go.VM Go.Proofs Tether
namespace Go.VM.Tryd
set_option maxRecDepth 100000
theorem RIsName_c (s : Str) (hs : s.length < 4611686018427387904) : Meets Tryd.prog 59 [.str s] (.bool (isName s)) [] := by
  refine meets_x (fn := Tryd.f59) Tryd.func59 rfl fb59 (by kernel_rfl) (Nat.le_of_ble_eq_true rfl) ?_
  refine cx_sr ?_
  simp only [go_sem]
  repeat first | (with_reducible refine side_d ?_ ?_; exact byD) | (with_reducible refine side_q ?_ ?_; exact byQ)
  refine cx_seq ?_
  refine cx_sr ?_
  simp only [go_sem]
  repeat first | (with_reducible refine side_d ?_ ?_; exact byD) | (with_reducible refine side_q ?_ ?_; exact byQ)
  refine cx_block ?_
  refine cx_loop0 (σ := Nat) (fun i => i ≤ s.length ∧ ∀ j, j < i → okAt s j = true) (fun i => [⟨3, 0, [], .int .i64 (i : Nat)⟩]) [0] (fun i => s.length - i) 0 ⟨Nat.zero_le _, fun j hj => absurd hj (Nat.not_lt_zero j)⟩ (Nat.zero_le _) byC (fun i hI1 => ?_)
  simp only [go_sem]
  refine cx_seq ?_
  refine cx_sr ?_
  simp only [go_sem]
  repeat first | (with_reducible refine side_d ?_ ?_; exact byD) | (with_reducible refine side_q ?_ ?_; exact byQ)
  intro t9 e9
  repeat first | (with_reducible refine side_d ?_ ?_; exact byD) | (with_reducible refine side_q ?_ ?_; exact byQ)
  subst e9
  refine cx_if _ rfl (fun h9 => ?_) (fun h9 => ?_)
  ·
    (try simp only [go_sem] at h9)
    refine cx_skip ?_
    (try simp only [go_sem])
    refine cx_seq (cx_block ?_)
    refine cx_sr ?_
    simp only [go_sem]
    repeat first | (with_reducible refine side_d ?_ ?_; exact byD) | (with_reducible refine side_q ?_ ?_; exact byQ)
    intro t14 e14
    repeat first | (with_reducible refine side_d ?_ ?_; exact byD) | (with_reducible refine side_q ?_ ?_; exact byQ)
    refine cx_sr ?_
    simp only [go_sem]
    repeat first | (with_reducible refine side_d ?_ ?_; exact byD) | (with_reducible refine side_q ?_ ?_; exact byQ)
    intro t16 e16
    repeat first | (with_reducible refine side_d ?_ ?_; exact byD) | (with_reducible refine side_q ?_ ?_; exact byQ)
    intro t19 e19
    repeat first | (with_reducible refine side_d ?_ ?_; exact byD) | (with_reducible refine side_q ?_ ?_; exact byQ)
    intro t20 e20
    rw [bsel_and] at e20
    repeat first | (with_reducible refine side_d ?_ ?_; exact byD) | (with_reducible refine side_q ?_ ?_; exact byQ)
    intro t23 e23
    repeat first | (with_reducible refine side_d ?_ ?_; exact byD) | (with_reducible refine side_q ?_ ?_; exact byQ)
    intro t26 e26
    repeat first | (with_reducible refine side_d ?_ ?_; exact byD) | (with_reducible refine side_q ?_ ?_; exact byQ)
    intro t27 e27
    rw [bsel_and] at e27
    repeat first | (with_reducible refine side_d ?_ ?_; exact byD) | (with_reducible refine side_q ?_ ?_; exact byQ)
    intro t28 e28
    rw [bsel_or] at e28
    repeat first | (with_reducible refine side_d ?_ ?_; exact byD) | (with_reducible refine side_q ?_ ?_; exact byQ)
    intro t31 e31
    repeat first | (with_reducible refine side_d ?_ ?_; exact byD) | (with_reducible refine side_q ?_ ?_; exact byQ)
    intro t34 e34
    repeat first | (with_reducible refine side_d ?_ ?_; exact byD) | (with_reducible refine side_q ?_ ?_; exact byQ)
    intro t35 e35
    rw [bsel_and] at e35
    repeat first | (with_reducible refine side_d ?_ ?_; exact byD) | (with_reducible refine side_q ?_ ?_; exact byQ)
    intro t36 e36
    rw [bsel_or] at e36
    repeat first | (with_reducible refine side_d ?_ ?_; exact byD) | (with_reducible refine side_q ?_ ?_; exact byQ)
    intro t39 e39
    repeat first | (with_reducible refine side_d ?_ ?_; exact byD) | (with_reducible refine side_q ?_ ?_; exact byQ)
    intro t40 e40
    rw [bsel_or] at e40
    repeat first | (with_reducible refine side_d ?_ ?_; exact byD) | (with_reducible refine side_q ?_ ?_; exact byQ)
    intro t43 e43
    repeat first | (with_reducible refine side_d ?_ ?_; exact byD) | (with_reducible refine side_q ?_ ?_; exact byQ)
    intro t44 e44
    rw [bsel_or] at e44
    repeat first | (with_reducible refine side_d ?_ ?_; exact byD) | (with_reducible refine side_q ?_ ?_; exact byQ)
    intro t47 e47
    repeat first | (with_reducible refine side_d ?_ ?_; exact byD) | (with_reducible refine side_q ?_ ?_; exact byQ)
    intro t48 e48
    rw [bsel_or] at e48
    repeat first | (with_reducible refine side_d ?_ ?_; exact byD) | (with_reducible refine side_q ?_ ?_; exact byQ)
    intro t51 e51
    repeat first | (with_reducible refine side_d ?_ ?_; exact byD) | (with_reducible refine side_q ?_ ?_; exact byQ)
    intro t52 e52
    rw [bsel_or] at e52
    repeat first | (with_reducible refine side_d ?_ ?_; exact byD) | (with_reducible refine side_q ?_ ?_; exact byQ)
    intro t55 e55
    repeat first | (with_reducible refine side_d ?_ ?_; exact byD) | (with_reducible refine side_q ?_ ?_; exact byQ)
    intro t56 e56
    rw [bsel_or] at e56
    repeat first | (with_reducible refine side_d ?_ ?_; exact byD) | (with_reducible refine side_q ?_ ?_; exact byQ)
    intro t59 e59
    repeat first | (with_reducible refine side_d ?_ ?_; exact byD) | (with_reducible refine side_q ?_ ?_; exact byQ)
    intro t60 e60
    rw [bsel_or] at e60
    repeat first | (with_reducible refine side_d ?_ ?_; exact byD) | (with_reducible refine side_q ?_ ?_; exact byQ)
    subst e16 e19 e20 e23 e26 e27 e28 e31 e34 e35 e36 e39 e40 e43 e44 e47 e48 e51 e52 e55 e56 e59 e60
    refine cx_sr ?_
    simp only [go_sem]
    repeat first | (with_reducible refine side_d ?_ ?_; exact byD) | (with_reducible refine side_q ?_ ?_; exact byQ)
    intro t62 e62
    repeat first | (with_reducible refine side_d ?_ ?_; exact byD) | (with_reducible refine side_q ?_ ?_; exact byQ)
    intro t65 e65
    repeat first | (with_reducible refine side_d ?_ ?_; exact byD) | (with_reducible refine side_q ?_ ?_; exact byQ)
    intro t68 e68
    repeat first | (with_reducible refine side_d ?_ ?_; exact byD) | (with_reducible refine side_q ?_ ?_; exact byQ)
    intro t73 e73
    (try replace e73 := w64 e73 (by omega) (by omega))
    repeat first | (with_reducible refine side_d ?_ ?_; exact byD) | (with_reducible refine side_q ?_ ?_; exact byQ)
    intro t74 e74
    repeat first | (with_reducible refine side_d ?_ ?_; exact byD) | (with_reducible refine side_q ?_ ?_; exact byQ)
    intro t75 e75
    rw [bsel_or] at e75
    repeat first | (with_reducible refine side_d ?_ ?_; exact byD) | (with_reducible refine side_q ?_ ?_; exact byQ)
    intro t76 e76
    rw [bsel_and] at e76
    repeat first | (with_reducible refine side_d ?_ ?_; exact byD) | (with_reducible refine side_q ?_ ?_; exact byQ)
    intro t77 e77
    rw [bsel_or] at e77
    repeat first | (with_reducible refine side_d ?_ ?_; exact byD) | (with_reducible refine side_q ?_ ?_; exact byQ)
    subst e62 e65 e68 e74 e75 e76 e77
    refine cx_if _ rfl (fun h77 => ?_) (fun h77 => ?_)
    ·
      (try simp only [go_sem] at h77)
      refine cx_sr ?_
      simp only [go_sem]
      repeat first | (with_reducible refine side_d ?_ ?_; exact byD) | (with_reducible refine side_q ?_ ?_; exact byQ)
      refine cx_ret ?_
      simp only [go_sem]
      refine finw_bool ?_
      have ha : at8 s i = t14 := e14.symm
      have hk : okAt s i = false := by
        simp only [okAt, sgnR, ha, Bool.and_eq_true, Bool.or_eq_true, Bool.not_eq_false', Bool.and_eq_false_iff, Bool.or_eq_false_iff, decide_eq_true_eq, decide_eq_false_iff_not]
        omega
      rw [← isName_okAt, range_all_false (i := i) (by omega) hk, Bool.false_and]
    ·
      (try simp only [go_sem] at h77)
      refine cx_skip ?_
      (try simp only [go_sem])
      refine cx_region ?_
      simp only [go_sem]
      repeat first | (with_reducible refine side_d ?_ ?_; exact byD) | (with_reducible refine side_q ?_ ?_; exact byQ)
      intro t11 e11
      (try replace e11 := w64 e11 (by omega) (by omega))
      repeat first | (with_reducible refine side_d ?_ ?_; exact byD) | (with_reducible refine side_q ?_ ?_; exact byQ)
      have ha : at8 s i = t14 := e14.symm
      have hk : okAt s i = true := by
        simp only [okAt, sgnR, ha, Bool.and_eq_true, Bool.or_eq_true, Bool.not_eq_true', Bool.and_eq_false_iff, Bool.or_eq_false_iff, decide_eq_true_eq, decide_eq_false_iff_not]
        omega
      refine rnd_next (i + 1) ⟨by omega, all_next hI1.2 hk⟩ (by first | omega | (dsimp only; omega)) byC
  ·
    (try simp only [go_sem] at h9)
    refine cx_exit ?_
    simp only [go_sem]
    refine cx_sr ?_
    simp only [go_sem]
    repeat first | (with_reducible refine side_d ?_ ?_; exact byD) | (with_reducible refine side_q ?_ ?_; exact byQ)
    intro t79 e79
    repeat first | (with_reducible refine side_d ?_ ?_; exact byD) | (with_reducible refine side_q ?_ ?_; exact byQ)
    intro t83 e83
    repeat first | (with_reducible refine side_d ?_ ?_; exact byD) | (with_reducible refine side_q ?_ ?_; exact byQ)
    intro t84 e84
    rw [bsel_and] at e84
    repeat first | (with_reducible refine side_d ?_ ?_; exact byD) | (with_reducible refine side_q ?_ ?_; exact byQ)
    intro t87 e87
    repeat first | (with_reducible refine side_d ?_ ?_; exact byD) | (with_reducible refine side_q ?_ ?_; exact byQ)
    intro t88 e88
    rw [bsel_and] at e88
    repeat first | (with_reducible refine side_d ?_ ?_; exact byD) | (with_reducible refine side_q ?_ ?_; exact byQ)
    intro t91 e91
    repeat first | (with_reducible refine side_d ?_ ?_; exact byD) | (with_reducible refine side_q ?_ ?_; exact byQ)
    intro t92 e92
    rw [bsel_and] at e92
    repeat first | (with_reducible refine side_d ?_ ?_; exact byD) | (with_reducible refine side_q ?_ ?_; exact byQ)
    subst e79 e83 e84 e87 e88 e91 e92
    refine cx_ret ?_
    simp only [go_sem]
    refine finw_bool ?_
    rw [← isName_okAt, range_all_true fun j hj => hI1.2 j (by omega), Bool.true_and]

theorem nm_le (s : Str) {i : Nat} (hi : i ≤ s.length) : (nm s i).2 ≤ i ∧ (nm s i).1.length ≤ i := ⟨(nm_inv s i hi).2.1, (nm_inv s i hi).2.2.2⟩
theorem NamesOf_c (s : Str) (hs : (s.length + 1) * 16 ≤ 140737488355328) : Meets Tryd.prog 54 [.str s] (strsV' (pcs s)) [] := by
  refine meets_x (fn := Tryd.f54) Tryd.func54 rfl fb54 (by kernel_rfl) (Nat.le_of_ble_eq_true rfl) ?_
  refine cx_sr ?_
  simp only [go_sem]
  repeat first | (with_reducible refine side_d ?_ ?_; exact byD) | (with_reducible refine side_q ?_ ?_; exact byQ)
  refine cx_sr ?_
  simp only [go_sem]
  repeat first | (with_reducible refine side_d ?_ ?_; exact byD) | (with_reducible refine side_q ?_ ?_; exact byQ)
  refine cx_virt 3 1 (En strE' [] []) rfl ?_
  refine cx_sr ?_
  simp only [go_sem]
  repeat first | (with_reducible refine side_d ?_ ?_; exact byD) | (with_reducible refine side_q ?_ ?_; exact byQ)
  refine cx_seq ?_
  refine cx_sr ?_
  simp only [go_sem]
  repeat first | (with_reducible refine side_d ?_ ?_; exact byD) | (with_reducible refine side_q ?_ ?_; exact byQ)
  refine cx_block ?_
  refine cx_loopk (σ := Nat) (fun i => i ≤ s.length) (fun i => [⟨5, 0, [], .int .i64 (i : Nat)⟩, ⟨4, 0, [], .int .i64 ((nm s i).2 : Nat)⟩, ⟨3, 0, [], .own none 0 1 0 (nm s i).1.length .loose⟩]) [0, 2] (fun i => [.arr 1 (nm s i).1.length (En strE' [] (nm s i).1)]) (fun i => s.length - i) 0 (by first | trivial | omega | simp) (fun _ => (Nat.zero_le _)) byC (fun i hI1 => ?_)
  simp only [go_sem]
  have hnl := nm_le s hI1
  refine cx_seq ?_
  refine cx_sr ?_
  simp only [go_sem]
  repeat first | (with_reducible refine side_d ?_ ?_; exact byD) | (with_reducible refine side_q ?_ ?_; exact byQ)
  intro t9 e9
  repeat first | (with_reducible refine side_d ?_ ?_; exact byD) | (with_reducible refine side_q ?_ ?_; exact byQ)
  subst e9
  refine cx_if _ rfl (fun h9 => ?_) (fun h9 => ?_)
  ·
    (try simp only [go_sem] at h9)
    refine cx_skip ?_
    (try simp only [go_sem])
    refine cx_seq (cx_block ?_)
    refine cx_sr ?_
    simp only [go_sem]
    repeat first | (with_reducible refine side_d ?_ ?_; exact byD) | (with_reducible refine side_q ?_ ?_; exact byQ)
    intro t14 e14
    repeat first | (with_reducible refine side_d ?_ ?_; exact byD) | (with_reducible refine side_q ?_ ?_; exact byQ)
    intro t15 e15
    repeat first | (with_reducible refine side_d ?_ ?_; exact byD) | (with_reducible refine side_q ?_ ?_; exact byQ)
    subst e15
    refine cx_if _ rfl (fun h15 => ?_) (fun h15 => ?_)
    ·
      (try simp only [go_sem] at h15)
      refine cx_sr ?_
      simp only [go_sem]
      repeat first | (with_reducible refine side_d ?_ ?_; exact byD) | (with_reducible refine side_q ?_ ?_; exact byQ)
      refine cx_region ?_
      simp only [go_sem]
      repeat first | (with_reducible refine side_d ?_ ?_; exact byD) | (with_reducible refine side_q ?_ ?_; exact byQ)
      intro t24 e24
      (try replace e24 := w64 e24 (by omega) (by omega))
      repeat first | (with_reducible refine side_d ?_ ?_; exact byD) | (with_reducible refine side_q ?_ ?_; exact byQ)
      refine cx_region ?_
      simp only [go_sem]
      repeat first | (with_reducible refine side_d ?_ ?_; exact byD) | (with_reducible refine side_q ?_ ?_; exact byQ)
      intro t11 e11
      (try replace e11 := w64 e11 (by omega) (by omega))
      repeat first | (with_reducible refine side_d ?_ ?_; exact byD) | (with_reducible refine side_q ?_ ?_; exact byQ)
      have hn1 : nm s (i + 1) = ((nm s i).1 ++ [(s.take i).drop (nm s i).2], i + 1) := by
        simp only [nm]
        rw [if_pos (by subst e14; exact h15)]
      refine rnd_nextr (i + 1) [2] (by omega) (by first | omega | (dsimp only; omega)) ⟨rfl, rfl, ?_, ?_⟩
      · rw [hn1]; exact byC
      · rw [hn1]; skip
        simp only [go_sem, wk, wks, wkB, wkH, List.length_append, List.length_cons, List.length_nil]
        first | exact fun q hq => wks_mp_snoc (fun x => rnVs_no _ rfl) (by rfl) hq | (and_intros <;> first | trivial | rfl | (exact fun q hq => wks_mp_snoc (fun x => rnVs_no _ rfl) (by rfl) hq) | exact wks_refl _ | exact byC)
    ·
      (try simp only [go_sem] at h15)
      refine cx_skip ?_
      (try simp only [go_sem])
      refine cx_region ?_
      simp only [go_sem]
      repeat first | (with_reducible refine side_d ?_ ?_; exact byD) | (with_reducible refine side_q ?_ ?_; exact byQ)
      intro t11 e11
      (try replace e11 := w64 e11 (by omega) (by omega))
      repeat first | (with_reducible refine side_d ?_ ?_; exact byD) | (with_reducible refine side_q ?_ ?_; exact byQ)
      have hn1 : nm s (i + 1) = nm s i := by
        simp only [nm]
        rw [if_neg (by subst e14; exact h15)]
      refine rnd_next (i + 1) (by omega) (by first | omega | (dsimp only; omega)) ?_
      rw [hn1]
      exact byC
  ·
    (try simp only [go_sem] at h9)
    refine cx_exit ?_
    simp only [go_sem]
    refine cx_sr ?_
    simp only [go_sem]
    repeat first | (with_reducible refine side_d ?_ ?_; exact byD) | (with_reducible refine side_q ?_ ?_; exact byQ)
    refine cx_ret ?_
    simp only [go_sem]
    obtain rfl : i = s.length := by omega
    rw [← nm_pcs s]
    refine finx_w (.own none 2 1 0 ((nm s s.length).1 ++ [s.drop (nm s s.length).2]).length .loose) [.dead, .dead, .arr 1 ((nm s s.length).1 ++ [s.drop (nm s s.length).2]).length (En strE' [] ((nm s s.length).1 ++ [s.drop (nm s s.length).2]))] ?_ ?_ ?_
    · simp only [go_sem, wk, wks, wkB, wkH, List.length_append, List.length_cons, List.length_nil]
    · simp only [go_sem, wk, wks, wkB, wkH, List.length_append, List.length_cons, List.length_nil]
      and_intros <;> first | trivial | rfl | (exact fun q hq => wks_En_snoc (wks_refl _) hq) | exact byC
    · exact finx_of 1 [] rfl byC byC byC byC
end Go.VM.Tryd
end
section
set_option linter.unusedVariables false
set_option linter.unusedSimpArgs false
open Go Go.VM Go.Proofs Tether
namespace Go.VM.Tryd
set_option maxRecDepth 100000
theorem pcs_cnt : ∀ s : List UInt8, (pcs s).length = s.count 47 + 1
  | [] => rfl
  | b :: r => by
    have ih := pcs_cnt r
    by_cases hb : b = 47
    · simp [pcs, hb, ih]
    · simp only [pcs, hb, if_false]
      rcases hp : pcs r with _ | ⟨y, ys⟩
      · exact absurd hp (pcs_ne r)
      · rw [hp] at ih
        simp [hb] at ih ⊢
        omega
theorem greatB_pcs (s : List UInt8) : (decide ((6 : Int) < ((pcs s).length : Nat)) || decide ((80 : Int) < (s.length : Nat))) = greatB s := by
  have h1 : ((6 : Int) < ((pcs s).length : Nat)) ↔ 6 ≤ s.count 47 := by rw [pcs_cnt]; omega
  have h2 : ((80 : Int) < (s.length : Nat)) ↔ 80 < s.length := by omega
  simp only [greatB, h1, h2]
theorem TooGreat_c (s : Str) (hs : (s.length + 1) * 16 ≤ 140737488355328) : Meets Tryd.prog 55 [.str s] (.bool (greatB s)) [] := by
  refine meets_x (fn := Tryd.f55) Tryd.func55 rfl fb55 (by kernel_rfl) (Nat.le_of_ble_eq_true rfl) ?_
  refine cx_sr ?_
  simp only [go_sem]
  repeat first | (with_reducible refine side_d ?_ ?_; exact byD) | (with_reducible refine side_q ?_ ?_; exact byQ)
  refine cx_sr ?_
  simp only [go_sem]
  repeat first | (with_reducible refine side_d ?_ ?_; exact byD) | (with_reducible refine side_q ?_ ?_; exact byQ)
  refine cw_m (NamesOf_c s hs) byW byT ?_
  simp only [go_sem]
  repeat first | (with_reducible refine side_d ?_ ?_; exact byD) | (with_reducible refine side_q ?_ ?_; exact byQ)
  intro t6 e6
  repeat first | (with_reducible refine side_d ?_ ?_; exact byD) | (with_reducible refine side_q ?_ ?_; exact byQ)
  intro t10 e10
  repeat first | (with_reducible refine side_d ?_ ?_; exact byD) | (with_reducible refine side_q ?_ ?_; exact byQ)
  intro t11 e11
  rw [bsel_or] at e11
  repeat first | (with_reducible refine side_d ?_ ?_; exact byD) | (with_reducible refine side_q ?_ ?_; exact byQ)
  subst e6 e10 e11
  refine cx_ret ?_
  simp only [go_sem]
  refine finw_bool ?_
  rw [← greatB_pcs]
theorem names_all {l : List Str} (h : ∀ j, j < l.length → isName (l.getD j []) = true) : l.all isName = true := by
  rw [List.all_eq_true]
  intro x hx
  obtain ⟨j, hj, rfl⟩ := List.getElem_of_mem hx
  have := h j hj
  simpa [List.getD_eq_getElem?_getD, hj] using this
theorem checkP_cons (p : Str) (r : List Str) : checkP (p :: r) = if checkP [p] = 0 then checkP r else checkP [p] := by
  simp only [checkP]
  by_cases h1 : (pcs p).all isName = true <;> by_cases h2 : greatB p = true <;> simp only [h1, h2, if_true, if_false] <;> simp
theorem CheckPath_c (s : Str) (hs : (s.length + 1) * 16 ≤ 140737488355328) : Meets Tryd.prog 35 [.str s] (.int .i64 (checkP [s])) [] := by
  refine meets_x (fn := Tryd.f35) Tryd.func35 rfl fb35 (by kernel_rfl) (Nat.le_of_ble_eq_true rfl) ?_
  have hpl : (pcs s).length ≤ s.length + 1 := by rw [pcs_cnt]; have := List.count_le_length (a := (47 : UInt8)) (l := s); omega
  refine cx_sr ?_
  simp only [go_sem]
  repeat first | (with_reducible refine side_d ?_ ?_; exact byD) | (with_reducible refine side_q ?_ ?_; exact byQ)
  refine cx_sr ?_
  simp only [go_sem]
  repeat first | (with_reducible refine side_d ?_ ?_; exact byD) | (with_reducible refine side_q ?_ ?_; exact byQ)
  refine cw_m (NamesOf_c s hs) byW byT ?_
  simp only [go_sem]
  repeat first | (with_reducible refine side_d ?_ ?_; exact byD) | (with_reducible refine side_q ?_ ?_; exact byQ)
  refine cx_seq ?_
  refine cx_sr ?_
  simp only [go_sem]
  repeat first | (with_reducible refine side_d ?_ ?_; exact byD) | (with_reducible refine side_q ?_ ?_; exact byQ)
  refine cx_block ?_
  refine cx_loop0 (σ := Nat) (fun i => i ≤ (pcs s).length ∧ ∀ j, j < i → isName ((pcs s).getD j []) = true) (fun i => [⟨4, 0, [], .int .i64 (i : Nat)⟩]) [0, 3] (fun i => (pcs s).length - i) 0 ⟨Nat.zero_le _, fun j hj => absurd hj (Nat.not_lt_zero j)⟩ (Nat.zero_le _) byC (fun i hI1 => ?_)
  simp only [go_sem]
  refine cx_seq ?_
  refine cx_sr ?_
  simp only [go_sem]
  repeat first | (with_reducible refine side_d ?_ ?_; exact byD) | (with_reducible refine side_q ?_ ?_; exact byQ)
  intro t10 e10
  repeat first | (with_reducible refine side_d ?_ ?_; exact byD) | (with_reducible refine side_q ?_ ?_; exact byQ)
  subst e10
  refine cx_if _ rfl (fun h10 => ?_) (fun h10 => ?_)
  ·
    (try simp only [go_sem] at h10)
    have hlt : i < (pcs s).length := by omega
    have hgd : (pcs s).getD i [] = (pcs s)[i] := by simp [List.getD_eq_getElem?_getD, hlt]
    have hx : ((pcs s).getD i []).length < 4611686018427387904 := by
      have := pcs_len s _ (by rw [hgd]; exact List.getElem_mem hlt : (pcs s).getD i [] ∈ pcs s)
      omega
    refine cx_skip ?_
    (try simp only [go_sem])
    refine cx_seq (cx_block ?_)
    refine cx_sr ?_
    simp only [go_sem]
    repeat first | (with_reducible refine side_d ?_ ?_; exact byD) | (with_reducible refine side_q ?_ ?_; exact byQ)
    refine cw_m (RIsName_c ((pcs s).getD i []) hx) byW byT ?_
    simp only [go_sem]
    repeat first | (with_reducible refine side_d ?_ ?_; exact byD) | (with_reducible refine side_q ?_ ?_; exact byQ)
    intro t18 e18
    repeat first | (with_reducible refine side_d ?_ ?_; exact byD) | (with_reducible refine side_q ?_ ?_; exact byQ)
    subst e18
    refine cx_if _ rfl (fun h18 => ?_) (fun h18 => ?_)
    ·
      (try simp only [go_sem] at h18)
      refine cx_sr ?_
      simp only [go_sem]
      repeat first | (with_reducible refine side_d ?_ ?_; exact byD) | (with_reducible refine side_q ?_ ?_; exact byQ)
      refine cx_ret ?_
      simp only [go_sem]
      refine finw_int ?_
      have hall : (pcs s).all isName = false := by
        rw [List.all_eq_false]
        exact ⟨(pcs s)[i], List.getElem_mem hlt, by rw [← hgd]; simpa using h18⟩
      simp [checkP, hall]
    ·
      (try simp only [go_sem] at h18)
      refine cx_skip ?_
      (try simp only [go_sem])
      refine cx_region ?_
      simp only [go_sem]
      repeat first | (with_reducible refine side_d ?_ ?_; exact byD) | (with_reducible refine side_q ?_ ?_; exact byQ)
      intro t12 e12
      (try replace e12 := w64 e12 (by omega) (by omega))
      repeat first | (with_reducible refine side_d ?_ ?_; exact byD) | (with_reducible refine side_q ?_ ?_; exact byQ)
      refine rnd_next (i + 1) ⟨by omega, all_next hI1.2 (by simpa using h18)⟩ (by first | omega | (dsimp only; omega)) byC
  ·
    (try simp only [go_sem] at h10)
    refine cx_exit ?_
    simp only [go_sem]
    refine cx_seq ?_
    refine cx_sr ?_
    simp only [go_sem]
    repeat first | (with_reducible refine side_d ?_ ?_; exact byD) | (with_reducible refine side_q ?_ ?_; exact byQ)
    refine cw_m (TooGreat_c s hs) byW byT ?_
    simp only [go_sem]
    repeat first | (with_reducible refine side_d ?_ ?_; exact byD) | (with_reducible refine side_q ?_ ?_; exact byQ)
    refine cx_if _ rfl (fun h20 => ?_) (fun h20 => ?_)
    ·
      (try simp only [go_sem] at h20)
      refine cx_sr ?_
      simp only [go_sem]
      repeat first | (with_reducible refine side_d ?_ ?_; exact byD) | (with_reducible refine side_q ?_ ?_; exact byQ)
      refine cx_ret ?_
      simp only [go_sem]
      refine finw_int ?_
      have hall : (pcs s).all isName = true := names_all (fun j hj => hI1.2 j (by omega))
      have hg : greatB s = true := by simpa using h20
      simp [checkP, hall, hg]
    ·
      (try simp only [go_sem] at h20)
      refine cx_skip ?_
      (try simp only [go_sem])
      refine cx_sr ?_
      simp only [go_sem]
      repeat first | (with_reducible refine side_d ?_ ?_; exact byD) | (with_reducible refine side_q ?_ ?_; exact byQ)
      refine cx_ret ?_
      simp only [go_sem]
      refine finw_int ?_
      have hall : (pcs s).all isName = true := names_all (fun j hj => hI1.2 j (by omega))
      have hg : greatB s = false := by simpa using h20
      simp [checkP, hall, hg]
end Go.VM.Tryd
end
section
set_option linter.unusedVariables false
set_option linter.unusedSimpArgs false
open Go Go.VM Go.Proofs Tether
namespace Go.VM.Tryd
set_option maxRecDepth 100000
/-- the last place ahead of n that holds c; -1: none -/
def lixN (s : Str) (c : Int) : Nat → Int
  | 0 => -1
  | n + 1 => if at8 s n = c then n else lixN s c n
theorem LastIx0_c (s : Str) (c : Int) (hs : s.length < 4611686018427387904) : Meets Tryd.prog 92 [.str s, .int .u8 c] (.int .i64 (lixN s c s.length)) [] := by
  refine meets_x (fn := Tryd.f92) Tryd.func92 rfl fb92 (by kernel_rfl) (Nat.le_of_ble_eq_true rfl) ?_
  refine cx_sr ?_
  simp only [go_sem]
  repeat first | (with_reducible refine side_d ?_ ?_; exact byD) | (with_reducible refine side_q ?_ ?_; exact byQ)
  refine cx_seq ?_
  refine cx_sr ?_
  simp only [go_sem]
  repeat first | (with_reducible refine side_d ?_ ?_; exact byD) | (with_reducible refine side_q ?_ ?_; exact byQ)
  intro t8 e8
  (try replace e8 := w64 e8 (by omega) (by omega))
  repeat first | (with_reducible refine side_d ?_ ?_; exact byD) | (with_reducible refine side_q ?_ ?_; exact byQ)
  refine cx_block ?_
  refine cx_loop0 (σ := Nat) (fun n => n ≤ s.length ∧ lixN s c n = lixN s c s.length) (fun n => [⟨5, 0, [], .int .i64 ((n : Int) - 1)⟩]) [0, 1] (fun n => n) s.length ⟨Nat.le_refl _, rfl⟩ (Nat.zero_le _) byC (fun n hI1 => ?_)
  simp only [go_sem]
  refine cx_seq ?_
  refine cx_sr ?_
  simp only [go_sem]
  repeat first | (with_reducible refine side_d ?_ ?_; exact byD) | (with_reducible refine side_q ?_ ?_; exact byQ)
  intro t10 e10
  repeat first | (with_reducible refine side_d ?_ ?_; exact byD) | (with_reducible refine side_q ?_ ?_; exact byQ)
  subst e10
  refine cx_if _ rfl (fun h10 => ?_) (fun h10 => ?_)
  ·
    (try simp only [go_sem] at h10)
    obtain ⟨m, rfl⟩ : ∃ m, n = m + 1 := ⟨n - 1, by omega⟩
    have hm : (((m + 1 : Nat) : Int) - 1).toNat = m := by omega
    have hl : lixN s c (m + 1) = if at8 s m = c then (m : Int) else lixN s c m := rfl
    refine cx_skip ?_
    (try simp only [go_sem])
    refine cx_seq (cx_block ?_)
    refine cx_sr ?_
    simp only [go_sem]
    repeat first | (with_reducible refine side_d ?_ ?_; exact byD) | (with_reducible refine side_q ?_ ?_; exact byQ)
    intro t15 e15
    repeat first | (with_reducible refine side_d ?_ ?_; exact byD) | (with_reducible refine side_q ?_ ?_; exact byQ)
    intro t17 e17
    repeat first | (with_reducible refine side_d ?_ ?_; exact byD) | (with_reducible refine side_q ?_ ?_; exact byQ)
    subst e17
    refine cx_if _ rfl (fun h17 => ?_) (fun h17 => ?_)
    ·
      (try simp only [go_sem] at h17)
      refine cx_sr ?_
      simp only [go_sem]
      repeat first | (with_reducible refine side_d ?_ ?_; exact byD) | (with_reducible refine side_q ?_ ?_; exact byQ)
      refine cx_ret ?_
      simp only [go_sem]
      refine finw_int ?_
      have hne : at8 s m = c := by subst e15; simpa [at8, hm] using h17
      rw [if_pos hne] at hl
      rw [← hI1.2, hl]
      omega
    ·
      (try simp only [go_sem] at h17)
      refine cx_skip ?_
      (try simp only [go_sem])
      refine cx_region ?_
      simp only [go_sem]
      repeat first | (with_reducible refine side_d ?_ ?_; exact byD) | (with_reducible refine side_q ?_ ?_; exact byQ)
      intro t12 e12
      (try replace e12 := w64 e12 (by omega) (by omega))
      repeat first | (with_reducible refine side_d ?_ ?_; exact byD) | (with_reducible refine side_q ?_ ?_; exact byQ)
      have hne : ¬ at8 s m = c := by subst e15; simpa [at8, hm] using h17
      rw [if_neg hne] at hl
      refine rnd_next m ⟨by omega, by rw [← hl]; exact hI1.2⟩ (by first | omega | (dsimp only; omega)) byC
  ·
    (try simp only [go_sem] at h10)
    obtain rfl : n = 0 := by omega
    refine cx_exit ?_
    simp only [go_sem]
    refine cx_sr ?_
    simp only [go_sem]
    repeat first | (with_reducible refine side_d ?_ ?_; exact byD) | (with_reducible refine side_q ?_ ?_; exact byQ)
    refine cx_ret ?_
    simp only [go_sem]
    refine finw_int ?_
    rw [← hI1.2]
    rfl
theorem LastIx_c (s : Str) (c : Int) (hs : s.length < 4611686018427387904) : Meets Tryd.prog 75 [.str s, .int .u8 c] (.int .i64 (lixN s c s.length)) [] := by
  refine meets_x (fn := Tryd.f75) Tryd.func75 rfl fb75 (by kernel_rfl) (Nat.le_of_ble_eq_true rfl) ?_
  refine cx_sr ?_
  simp only [go_sem]
  repeat first | (with_reducible refine side_d ?_ ?_; exact byD) | (with_reducible refine side_q ?_ ?_; exact byQ)
  refine cx_sr ?_
  simp only [go_sem]
  repeat first | (with_reducible refine side_d ?_ ?_; exact byD) | (with_reducible refine side_q ?_ ?_; exact byQ)
  refine cw_m (LastIx0_c s c hs) byW byT ?_
  simp only [go_sem]
  repeat first | (with_reducible refine side_d ?_ ?_; exact byD) | (with_reducible refine side_q ?_ ?_; exact byQ)
  refine cx_ret ?_
  simp only [go_sem]
  exact finw_int rfl
def hasPre (s p : Str) : Bool := decide (p.length ≤ s.length) && decide (s.take p.length = p)
theorem HasPre0_c (s p : Str) (hs : s.length < 4611686018427387904) : Meets Tryd.prog 104 [.str s, .str p] (.bool (hasPre s p)) [] := by
  refine meets_x (fn := Tryd.f104) Tryd.func104 rfl fb104 (by kernel_rfl) (Nat.le_of_ble_eq_true rfl) ?_
  refine cx_sr ?_
  simp only [go_sem]
  repeat first | (with_reducible refine side_d ?_ ?_; exact byD) | (with_reducible refine side_q ?_ ?_; exact byQ)
  refine cx_sr ?_
  simp only [go_sem]
  repeat first | (with_reducible refine side_d ?_ ?_; exact byD) | (with_reducible refine side_q ?_ ?_; exact byQ)
  intro t9 e9
  repeat first | (with_reducible refine side_d ?_ ?_; exact byD) | (with_reducible refine side_q ?_ ?_; exact byQ)
  intro t16 e16
  repeat first | (with_reducible refine side_d ?_ ?_; exact byD) | (with_reducible refine side_q ?_ ?_; exact byQ)
  intro t17 e17
  rw [bsel_and] at e17
  repeat first | (with_reducible refine side_d ?_ ?_; exact byD) | (with_reducible refine side_q ?_ ?_; exact byQ)
  subst e9 e16 e17
  refine cx_ret ?_
  simp only [go_sem]
  refine finw_bool ?_
  simp [hasPre]
theorem HasPre_c (s p : Str) (hs : s.length < 4611686018427387904) : Meets Tryd.prog 80 [.str s, .str p] (.bool (hasPre s p)) [] := by
  refine meets_x (fn := Tryd.f80) Tryd.func80 rfl fb80 (by kernel_rfl) (Nat.le_of_ble_eq_true rfl) ?_
  refine cx_sr ?_
  simp only [go_sem]
  repeat first | (with_reducible refine side_d ?_ ?_; exact byD) | (with_reducible refine side_q ?_ ?_; exact byQ)
  refine cx_sr ?_
  simp only [go_sem]
  repeat first | (with_reducible refine side_d ?_ ?_; exact byD) | (with_reducible refine side_q ?_ ?_; exact byQ)
  refine cw_m (HasPre0_c s p hs) byW byT ?_
  simp only [go_sem]
  repeat first | (with_reducible refine side_d ?_ ?_; exact byD) | (with_reducible refine side_q ?_ ?_; exact byQ)
  refine cx_ret ?_
  simp only [go_sem]
  exact finw_bool rfl
def isIn (a b : Str) : Bool := decide (a = b) || hasPre a (b ++ [47])
theorem In_c (a b : Str) (hs : a.length < 4611686018427387904) (hb : b.length < 4611686018427387904) : Meets Tryd.prog 66 [.str a, .str b] (.bool (isIn a b)) [] := by
  refine meets_x (fn := Tryd.f66) Tryd.func66 rfl fb66 (by kernel_rfl) (Nat.le_of_ble_eq_true rfl) ?_
  refine cx_sr ?_
  simp only [go_sem]
  repeat first | (with_reducible refine side_d ?_ ?_; exact byD) | (with_reducible refine side_q ?_ ?_; exact byQ)
  refine cx_sr ?_
  simp only [go_sem]
  repeat first | (with_reducible refine side_d ?_ ?_; exact byD) | (with_reducible refine side_q ?_ ?_; exact byQ)
  intro t7 e7
  repeat ((with_reducible first | refine side_d ?_ ?_ | refine side_q ?_ ?_); focus (first | exact byD | exact byQ | ((refine Sd.mk ?_; simp; omega))))
  repeat first | (with_reducible refine side_d ?_ ?_; exact byD) | (with_reducible refine side_q ?_ ?_; exact byQ)
  refine ⟨_, fun hp => cw_m (HasPre_c _ _ hs) byW byT ⟨rfl, rfl⟩, ?_⟩
  simp only [go_sem]
  repeat first | (with_reducible refine side_d ?_ ?_; exact byD) | (with_reducible refine side_q ?_ ?_; exact byQ)
  intro t13 e13
  rw [bsel_or] at e13
  repeat first | (with_reducible refine side_d ?_ ?_; exact byD) | (with_reducible refine side_q ?_ ?_; exact byQ)
  subst e7 e13
  refine cx_ret ?_
  simp only [go_sem]
  refine finw_bool ?_
  simp [isIn]
theorem Check_c (s : Str) (hs : s.length < 4611686018427387904) : Meets Tryd.prog 57 [.str s] (.int .i64 (checkP [s])) [] := by
  refine meets_x (fn := Tryd.f57) Tryd.func57 rfl fb57 (by kernel_rfl) (Nat.le_of_ble_eq_true rfl) ?_
  refine cx_sr ?_
  simp only [go_sem]
  repeat first | (with_reducible refine side_d ?_ ?_; exact byD) | (with_reducible refine side_q ?_ ?_; exact byQ)
  refine cx_sr ?_
  simp only [go_sem]
  repeat first | (with_reducible refine side_d ?_ ?_; exact byD) | (with_reducible refine side_q ?_ ?_; exact byQ)
  refine cw_v 2 (check_c [s] (by simp) (by simpa using hs)) byV byC rfl ?_
  simp only [go_sem]
  repeat first | (with_reducible refine side_d ?_ ?_; exact byD) | (with_reducible refine side_q ?_ ?_; exact byQ)
  refine cx_ret ?_
  simp only [go_sem]
  exact finw_int rfl
end Go.VM.Tryd
end
section
set_option linter.unusedVariables false
set_option linter.unusedSimpArgs false
open Go Go.VM Go.Proofs Tether
namespace Go.VM.Tryd
set_option maxRecDepth 100000
abbrev lix (s : Str) (c : Int) : Int := lixN s c s.length
theorem lixN_le (s : Str) (c : Int) : ∀ n, -1 ≤ lixN s c n ∧ lixN s c n < n
  | 0 => by simp [lixN]
  | n + 1 => by
    have := lixN_le s c n
    simp only [lixN]
    split <;> omega
def headOf (s : Str) : Str := s.take (lix s 47).toNat
def tailOf (s : Str) : Str := s.drop (lix s 47 + 1).toNat
theorem Split_c (s : Str) (hs : s.length < 4611686018427387904) : Meets Tryd.prog 60 [.str s] (.tup [.str (headOf s), .str (tailOf s)]) [] := by
  refine meets_x (fn := Tryd.f60) Tryd.func60 rfl fb60 (by kernel_rfl) (Nat.le_of_ble_eq_true rfl) ?_
  have hlx := lixN_le s 47 s.length
  refine cx_sr ?_
  simp only [go_sem]
  repeat first | (with_reducible refine side_d ?_ ?_; exact byD) | (with_reducible refine side_q ?_ ?_; exact byQ)
  refine cx_sr ?_
  simp only [go_sem]
  repeat first | (with_reducible refine side_d ?_ ?_; exact byD) | (with_reducible refine side_q ?_ ?_; exact byQ)
  refine cw_m (LastIx_c s 47 hs) byW byT ?_
  simp only [go_sem]
  repeat first | (with_reducible refine side_d ?_ ?_; exact byD) | (with_reducible refine side_q ?_ ?_; exact byQ)
  refine cx_seq (cx_draw mixed [2, 3, 6, 7] (.first 0 (.first 1 (.first 4 (.first 5 (.alt 2 (.alt 3 (.first 8 (.one 6 (.one 7 (.first 9 (.done))))) (.one 6 (.alt 3 (.first 8 (.one 7 (.first 9 (.done)))) (.one 7 (.one 3 (.first 8 (.first 9 (.done)))))))) (.one 6 (.alt 2 (.alt 3 (.first 8 (.one 7 (.first 9 (.done)))) (.one 7 (.one 3 (.first 8 (.first 9 (.done)))))) (.one 7 (.one 2 (.one 3 (.first 8 (.first 9 (.done))))))))))))) (by kernel_rfl) ?_)
  simp only [go_sem]
  repeat first | (with_reducible refine side_d ?_ ?_; exact byD) | (with_reducible refine side_q ?_ ?_; exact byQ)
  refine ⟨?_, ?_⟩
  ·
    repeat first | (with_reducible refine side_d ?_ ?_; exact byD) | (with_reducible refine side_q ?_ ?_; exact byQ)
    refine ⟨?_, ?_⟩
    ·
      repeat first | (with_reducible refine side_d ?_ ?_; exact byD) | (with_reducible refine side_q ?_ ?_; exact byQ)
      intro t13 e13
      (try replace e13 := w64 e13 (by omega) (by omega))
      repeat first | (with_reducible refine side_d ?_ ?_; exact byD) | (with_reducible refine side_q ?_ ?_; exact byQ)
      refine cx_ret ?_
      simp only [go_sem]
      refine finw_flat rfl ?_
      have h1 : (if lixN s 47 s.length > 0 then lixN s 47 s.length else 0).toNat = (lixN s 47 s.length).toNat := by split <;> omega
      subst e13
      rw [h1]
      exact wk_refl _
    ·
      repeat first | (with_reducible refine side_d ?_ ?_; exact byD) | (with_reducible refine side_q ?_ ?_; exact byQ)
      intro t13 e13
      (try replace e13 := w64 e13 (by omega) (by omega))
      repeat first | (with_reducible refine side_d ?_ ?_; exact byD) | (with_reducible refine side_q ?_ ?_; exact byQ)
      refine ⟨?_, ?_⟩
      ·
        repeat first | (with_reducible refine side_d ?_ ?_; exact byD) | (with_reducible refine side_q ?_ ?_; exact byQ)
        refine cx_ret ?_
        simp only [go_sem]
        refine finw_flat rfl ?_
        have h1 : (if lixN s 47 s.length > 0 then lixN s 47 s.length else 0).toNat = (lixN s 47 s.length).toNat := by split <;> omega
        subst e13
        rw [h1]
        exact wk_refl _
      ·
        repeat first | (with_reducible refine side_d ?_ ?_; exact byD) | (with_reducible refine side_q ?_ ?_; exact byQ)
        refine cx_ret ?_
        simp only [go_sem]
        refine finw_flat rfl ?_
        have h1 : (if lixN s 47 s.length > 0 then lixN s 47 s.length else 0).toNat = (lixN s 47 s.length).toNat := by split <;> omega
        subst e13
        rw [h1]
        exact wk_refl _
  ·
    repeat first | (with_reducible refine side_d ?_ ?_; exact byD) | (with_reducible refine side_q ?_ ?_; exact byQ)
    intro t13 e13
    (try replace e13 := w64 e13 (by omega) (by omega))
    repeat first | (with_reducible refine side_d ?_ ?_; exact byD) | (with_reducible refine side_q ?_ ?_; exact byQ)
    refine ⟨?_, ?_⟩
    ·
      repeat first | (with_reducible refine side_d ?_ ?_; exact byD) | (with_reducible refine side_q ?_ ?_; exact byQ)
      refine ⟨?_, ?_⟩
      ·
        repeat first | (with_reducible refine side_d ?_ ?_; exact byD) | (with_reducible refine side_q ?_ ?_; exact byQ)
        refine cx_ret ?_
        simp only [go_sem]
        refine finw_flat rfl ?_
        have h1 : (if lixN s 47 s.length > 0 then lixN s 47 s.length else 0).toNat = (lixN s 47 s.length).toNat := by split <;> omega
        subst e13
        rw [h1]
        exact wk_refl _
      ·
        repeat first | (with_reducible refine side_d ?_ ?_; exact byD) | (with_reducible refine side_q ?_ ?_; exact byQ)
        refine cx_ret ?_
        simp only [go_sem]
        refine finw_flat rfl ?_
        have h1 : (if lixN s 47 s.length > 0 then lixN s 47 s.length else 0).toNat = (lixN s 47 s.length).toNat := by split <;> omega
        subst e13
        rw [h1]
        exact wk_refl _
    ·
      repeat first | (with_reducible refine side_d ?_ ?_; exact byD) | (with_reducible refine side_q ?_ ?_; exact byQ)
      refine cx_ret ?_
      simp only [go_sem]
      refine finw_flat rfl ?_
      have h1 : (if lixN s 47 s.length > 0 then lixN s 47 s.length else 0).toNat = (lixN s 47 s.length).toNat := by split <;> omega
      subst e13
      rw [h1]
      exact wk_refl _
def parentP (s : Str) : Str := if checkP [s] = 0 then headOf s else []
def nameP (s : Str) : Str := if checkP [s] = 0 then tailOf s else []
def withinP (a b : Str) : Bool := decide (checkP [a, b] = 0) && isIn a b
def joinP (a b : Str) : Str × Int :=
  if a ≠ [] ∧ checkP [a] ≠ 0 then ([], checkP [a])
  else if isName b = false then ([], 1)
  else if greatB (if a = [] then b else a ++ 47 :: b) then ([], 2)
  else (if a = [] then b else a ++ 47 :: b, 0)
def movedP (s f t : Str) : Str × Int :=
  if checkP [s, f, t] ≠ 0 then ([], checkP [s, f, t])
  else if isIn s f = false then ([], 5)
  else if greatB (t ++ s.drop f.length) then ([], 2)
  else (t ++ s.drop f.length, 0)
theorem isIn_len {a b : Str} (h : isIn a b = true) : b.length ≤ a.length := by
  simp only [isIn, hasPre, Bool.or_eq_true, decide_eq_true_eq, Bool.and_eq_true] at h
  rcases h with rfl | ⟨h, _⟩
  · exact Nat.le_refl _
  · simp at h; omega
theorem Moved_c (s f t : Str) (hs : s.length + t.length < 4611686018427387904) (hf : f.length < 4611686018427387904) : Meets Tryd.prog 87 [.str s, .str f, .str t] (.tup [.str (movedP s f t).1, .int .i64 (movedP s f t).2]) [] := by
  refine meets_x (fn := Tryd.f87) Tryd.func87 rfl fb87 (by kernel_rfl) (Nat.le_of_ble_eq_true rfl) ?_
  refine cx_sr ?_
  simp only [go_sem]
  repeat first | (with_reducible refine side_d ?_ ?_; exact byD) | (with_reducible refine side_q ?_ ?_; exact byQ)
  refine cx_seq ?_
  refine cx_sr ?_
  simp only [go_sem]
  repeat first | (with_reducible refine side_d ?_ ?_; exact byD) | (with_reducible refine side_q ?_ ?_; exact byQ)
  refine cw_v 2 (check_c [s, f, t] (by simp) (by simp; omega)) byV byC rfl ?_
  simp only [go_sem]
  repeat first | (with_reducible refine side_d ?_ ?_; exact byD) | (with_reducible refine side_q ?_ ?_; exact byQ)
  refine cx_sr ?_
  simp only [go_sem]
  repeat first | (with_reducible refine side_d ?_ ?_; exact byD) | (with_reducible refine side_q ?_ ?_; exact byQ)
  intro t16 e16
  repeat first | (with_reducible refine side_d ?_ ?_; exact byD) | (with_reducible refine side_q ?_ ?_; exact byQ)
  subst e16
  refine cx_if _ rfl (fun h16 => ?_) (fun h16 => ?_)
  ·
    (try simp only [go_sem] at h16)
    refine cx_sr ?_
    simp only [go_sem]
    repeat first | (with_reducible refine side_d ?_ ?_; exact byD) | (with_reducible refine side_q ?_ ?_; exact byQ)
    refine cx_ret ?_
    simp only [go_sem]
    refine finw_flat rfl ?_
    unfold movedP
    simp_all [wk]
    exact wks_refl _
  ·
    (try simp only [go_sem] at h16)
    refine cx_skip ?_
    (try simp only [go_sem])
    refine cx_seq ?_
    refine cx_sr ?_
    simp only [go_sem]
    repeat first | (with_reducible refine side_d ?_ ?_; exact byD) | (with_reducible refine side_q ?_ ?_; exact byQ)
    refine cw_m (In_c s f (by omega) hf) byW byT ?_
    simp only [go_sem]
    repeat first | (with_reducible refine side_d ?_ ?_; exact byD) | (with_reducible refine side_q ?_ ?_; exact byQ)
    intro t21 e21
    repeat first | (with_reducible refine side_d ?_ ?_; exact byD) | (with_reducible refine side_q ?_ ?_; exact byQ)
    subst e21
    refine cx_if _ rfl (fun h21 => ?_) (fun h21 => ?_)
    ·
      (try simp only [go_sem] at h21)
      refine cx_sr ?_
      simp only [go_sem]
      repeat first | (with_reducible refine side_d ?_ ?_; exact byD) | (with_reducible refine side_q ?_ ?_; exact byQ)
      refine cx_ret ?_
      simp only [go_sem]
      refine finw_flat rfl ?_
      unfold movedP
      simp_all [wk]
      exact wks_refl _
    ·
      (try simp only [go_sem] at h21)
      have hin : isIn s f = true := by simpa using h21
      have hfl := isIn_len hin
      refine cx_skip ?_
      (try simp only [go_sem])
      refine cx_sr ?_
      simp only [go_sem]
      repeat ((with_reducible first | refine side_d ?_ ?_ | refine side_q ?_ ?_); focus (first | exact byD | exact byQ | ((refine Sd.mk ?_; simp; omega))))
      repeat first | (with_reducible refine side_d ?_ ?_; exact byD) | (with_reducible refine side_q ?_ ?_; exact byQ)
      refine cx_seq ?_
      refine cx_sr ?_
      simp only [go_sem]
      repeat first | (with_reducible refine side_d ?_ ?_; exact byD) | (with_reducible refine side_q ?_ ?_; exact byQ)
      refine cw_m (great _) byW byT ?_
      simp only [go_sem]
      repeat first | (with_reducible refine side_d ?_ ?_; exact byD) | (with_reducible refine side_q ?_ ?_; exact byQ)
      refine cx_if _ rfl (fun h29 => ?_) (fun h29 => ?_)
      ·
        (try simp only [go_sem] at h29)
        refine cx_sr ?_
        simp only [go_sem]
        repeat first | (with_reducible refine side_d ?_ ?_; exact byD) | (with_reducible refine side_q ?_ ?_; exact byQ)
        refine cx_ret ?_
        simp only [go_sem]
        refine finw_flat rfl ?_
        unfold movedP
        simp_all [wk]
        exact wks_refl _
      ·
        (try simp only [go_sem] at h29)
        refine cx_skip ?_
        (try simp only [go_sem])
        refine cx_sr ?_
        simp only [go_sem]
        repeat first | (with_reducible refine side_d ?_ ?_; exact byD) | (with_reducible refine side_q ?_ ?_; exact byQ)
        refine cx_ret ?_
        simp only [go_sem]
        refine finw_flat rfl ?_
        unfold movedP
        simp_all [wk]
        exact wks_refl _
end Go.VM.Tryd
end
section
set_option linter.unusedVariables false
set_option linter.unusedSimpArgs false
open Go Go.VM Go.Proofs Tether
namespace Go.VM.Tryd
set_option maxRecDepth 100000
/-- the first of these names with slashes between -/
def pathN (l : List Str) : Nat → Str
  | 0 => []
  | i + 1 => (if i = 0 then pathN l i else pathN l i ++ [47]) ++ l.getD i []
theorem PathOf_c (l : List Str) (hl : l.length < 4611686018427387904) (hb : ∀ i, i ≤ l.length → (pathN l i).length < 4611686018427387904) : Meets Tryd.prog 53 [strsV' l] (.str (pathN l l.length)) [] := by
  refine meets_x (fn := Tryd.f53) Tryd.func53 rfl fb53 (by kernel_rfl) (Nat.le_of_ble_eq_true rfl) ?_
  refine cx_sr ?_
  simp only [go_sem]
  repeat first | (with_reducible refine side_d ?_ ?_; exact byD) | (with_reducible refine side_q ?_ ?_; exact byQ)
  refine cx_sr ?_
  simp only [go_sem]
  repeat first | (with_reducible refine side_d ?_ ?_; exact byD) | (with_reducible refine side_q ?_ ?_; exact byQ)
  refine cx_seq ?_
  refine cx_sr ?_
  simp only [go_sem]
  repeat first | (with_reducible refine side_d ?_ ?_; exact byD) | (with_reducible refine side_q ?_ ?_; exact byQ)
  refine cx_block ?_
  refine cx_loop0 (σ := Nat) (fun i => i ≤ l.length) (fun i => [⟨4, 0, [], .int .i64 (i : Nat)⟩, ⟨3, 0, [], .str (pathN l i)⟩]) [0, 2] (fun i => l.length - i) 0 (by first | trivial | omega | simp) (Nat.zero_le _) byC (fun i hI1 => ?_)
  simp only [go_sem]
  refine cx_seq ?_
  refine cx_sr ?_
  simp only [go_sem]
  repeat first | (with_reducible refine side_d ?_ ?_; exact byD) | (with_reducible refine side_q ?_ ?_; exact byQ)
  intro t8 e8
  repeat first | (with_reducible refine side_d ?_ ?_; exact byD) | (with_reducible refine side_q ?_ ?_; exact byQ)
  subst e8
  refine cx_if _ rfl (fun h8 => ?_) (fun h8 => ?_)
  ·
    (try simp only [go_sem] at h8)
    have hlt : i < l.length := by omega
    have hbb := hb (i + 1) (by omega)
    have hb0 := hb i (by omega)
    refine cx_skip ?_
    (try simp only [go_sem])
    refine cx_seq (cx_block ?_)
    refine cx_seq ?_
    refine cx_sr ?_
    simp only [go_sem]
    repeat first | (with_reducible refine side_d ?_ ?_; exact byD) | (with_reducible refine side_q ?_ ?_; exact byQ)
    intro t12 e12
    repeat first | (with_reducible refine side_d ?_ ?_; exact byD) | (with_reducible refine side_q ?_ ?_; exact byQ)
    subst e12
    refine cx_if _ rfl (fun h12 => ?_) (fun h12 => ?_)
    ·
      (try simp only [go_sem] at h12)
      have he : pathN l (i + 1) = pathN l i ++ [47] ++ l.getD i [] := by simp only [pathN]; rw [if_neg (by omega)]
      rw [he] at hbb
      simp at hbb
      refine cx_region ?_
      simp only [go_sem]
      repeat ((with_reducible first | refine side_d ?_ ?_ | refine side_q ?_ ?_); focus (first | exact byD | exact byQ | ((refine Sd.mk ?_; simp; omega))))
      repeat first | (with_reducible refine side_d ?_ ?_; exact byD) | (with_reducible refine side_q ?_ ?_; exact byQ)
      refine cx_region ?_
      simp only [go_sem]
      repeat ((with_reducible first | refine side_d ?_ ?_ | refine side_q ?_ ?_); focus (first | exact byD | exact byQ | ((refine Sd.mk ?_; simp at *; omega))))
      repeat first | (with_reducible refine side_d ?_ ?_; exact byD) | (with_reducible refine side_q ?_ ?_; exact byQ)
      refine cx_region ?_
      simp only [go_sem]
      repeat first | (with_reducible refine side_d ?_ ?_; exact byD) | (with_reducible refine side_q ?_ ?_; exact byQ)
      intro t10 e10
      (try replace e10 := w64 e10 (by omega) (by omega))
      repeat first | (with_reducible refine side_d ?_ ?_; exact byD) | (with_reducible refine side_q ?_ ?_; exact byQ)
      refine rnd_next (i + 1) (by omega) (by first | omega | (dsimp only; omega)) ?_
      rw [he]
      exact byC
    ·
      (try simp only [go_sem] at h12)
      obtain rfl : i = 0 := by omega
      have he : pathN l (0 + 1) = pathN l 0 ++ l.getD 0 [] := rfl
      rw [he] at hbb
      simp at hbb
      refine cx_skip ?_
      (try simp only [go_sem])
      refine cx_region ?_
      simp only [go_sem]
      repeat ((with_reducible first | refine side_d ?_ ?_ | refine side_q ?_ ?_); focus (first | exact byD | exact byQ | ((refine Sd.mk ?_; simp at *; omega))))
      repeat first | (with_reducible refine side_d ?_ ?_; exact byD) | (with_reducible refine side_q ?_ ?_; exact byQ)
      refine cx_region ?_
      simp only [go_sem]
      repeat first | (with_reducible refine side_d ?_ ?_; exact byD) | (with_reducible refine side_q ?_ ?_; exact byQ)
      intro t10 e10
      (try replace e10 := w64 e10 (by omega) (by omega))
      repeat first | (with_reducible refine side_d ?_ ?_; exact byD) | (with_reducible refine side_q ?_ ?_; exact byQ)
      refine rnd_next (0 + 1) (by omega) (by first | omega | (dsimp only; omega)) ?_
      rw [he]
      exact byC
  ·
    (try simp only [go_sem] at h8)
    refine cx_exit ?_
    simp only [go_sem]
    refine cx_sr ?_
    simp only [go_sem]
    repeat first | (with_reducible refine side_d ?_ ?_; exact byD) | (with_reducible refine side_q ?_ ?_; exact byQ)
    refine cx_ret ?_
    simp only [go_sem]
    refine finw_str ?_
    rw [show i = l.length by omega]
theorem LastOf_c (s : Str) (hs : (s.length + 1) * 16 ≤ 140737488355328) : Meets Tryd.prog 63 [.str s] (.str ((pcs s).getD ((pcs s).length - 1) [])) [] := by
  refine meets_x (fn := Tryd.f63) Tryd.func63 rfl fb63 (by kernel_rfl) (Nat.le_of_ble_eq_true rfl) ?_
  have hpl : (pcs s).length ≤ s.length + 1 := by rw [pcs_cnt]; have := List.count_le_length (a := (47 : UInt8)) (l := s); omega
  have hp0 : 0 < (pcs s).length := by rw [pcs_cnt]; omega
  refine cx_sr ?_
  simp only [go_sem]
  repeat first | (with_reducible refine side_d ?_ ?_; exact byD) | (with_reducible refine side_q ?_ ?_; exact byQ)
  refine cx_sr ?_
  simp only [go_sem]
  repeat first | (with_reducible refine side_d ?_ ?_; exact byD) | (with_reducible refine side_q ?_ ?_; exact byQ)
  refine cw_m (NamesOf_c s hs) byW byT ?_
  simp only [go_sem]
  repeat first | (with_reducible refine side_d ?_ ?_; exact byD) | (with_reducible refine side_q ?_ ?_; exact byQ)
  refine cx_sr ?_
  simp only [go_sem]
  repeat first | (with_reducible refine side_d ?_ ?_; exact byD) | (with_reducible refine side_q ?_ ?_; exact byQ)
  intro t9 e9
  (try replace e9 := w64 e9 (by omega) (by omega))
  repeat first | (with_reducible refine side_d ?_ ?_; exact byD) | (with_reducible refine side_q ?_ ?_; exact byQ)
  refine cx_ret ?_
  simp only [go_sem]
  refine finw_str ?_
  have : (((pcs s).length : Int) - 1).toNat = (pcs s).length - 1 := by omega
  simp_all
end Go.VM.Tryd
end
section
set_option linter.unusedVariables false
set_option linter.unusedSimpArgs false
open Go Go.VM Go.Proofs Tether
namespace Go.VM.Tryd
set_option maxRecDepth 100000
theorem PathOfN_c (l : List Str) (n : Nat) (hn : n ≤ l.length) (hl : l.length < 4611686018427387904) (hb : ∀ i, i ≤ l.length → (pathN l i).length < 4611686018427387904) : Meets Tryd.prog 53 [.lst none .loose 1 n (En strE' [] l)] (.str (pathN l n)) [] := by
  refine meets_x (fn := Tryd.f53) Tryd.func53 rfl fb53 (by kernel_rfl) (Nat.le_of_ble_eq_true rfl) ?_
  refine cx_sr ?_
  simp only [go_sem]
  repeat first | (with_reducible refine side_d ?_ ?_; exact byD) | (with_reducible refine side_q ?_ ?_; exact byQ)
  refine cx_sr ?_
  simp only [go_sem]
  repeat first | (with_reducible refine side_d ?_ ?_; exact byD) | (with_reducible refine side_q ?_ ?_; exact byQ)
  refine cx_seq ?_
  refine cx_sr ?_
  simp only [go_sem]
  repeat first | (with_reducible refine side_d ?_ ?_; exact byD) | (with_reducible refine side_q ?_ ?_; exact byQ)
  refine cx_block ?_
  refine cx_loop0 (σ := Nat) (fun i => i ≤ n) (fun i => [⟨4, 0, [], .int .i64 (i : Nat)⟩, ⟨3, 0, [], .str (pathN l i)⟩]) [0, 2] (fun i => n - i) 0 (by first | trivial | omega | simp) (Nat.zero_le _) byC (fun i hI1 => ?_)
  simp only [go_sem]
  refine cx_seq ?_
  refine cx_sr ?_
  simp only [go_sem]
  repeat first | (with_reducible refine side_d ?_ ?_; exact byD) | (with_reducible refine side_q ?_ ?_; exact byQ)
  intro t8 e8
  repeat first | (with_reducible refine side_d ?_ ?_; exact byD) | (with_reducible refine side_q ?_ ?_; exact byQ)
  subst e8
  refine cx_if _ rfl (fun h8 => ?_) (fun h8 => ?_)
  ·
    (try simp only [go_sem] at h8)
    have hlt : i < n := by omega
    have hbb := hb (i + 1) (by omega)
    have hb0 := hb i (by omega)
    refine cx_skip ?_
    (try simp only [go_sem])
    refine cx_seq (cx_block ?_)
    refine cx_seq ?_
    refine cx_sr ?_
    simp only [go_sem]
    repeat first | (with_reducible refine side_d ?_ ?_; exact byD) | (with_reducible refine side_q ?_ ?_; exact byQ)
    intro t12 e12
    repeat first | (with_reducible refine side_d ?_ ?_; exact byD) | (with_reducible refine side_q ?_ ?_; exact byQ)
    subst e12
    refine cx_if _ rfl (fun h12 => ?_) (fun h12 => ?_)
    ·
      (try simp only [go_sem] at h12)
      have he : pathN l (i + 1) = pathN l i ++ [47] ++ l.getD i [] := by simp only [pathN]; rw [if_neg (by omega)]
      rw [he] at hbb
      simp at hbb
      refine cx_region ?_
      simp only [go_sem]
      repeat ((with_reducible first | refine side_d ?_ ?_ | refine side_q ?_ ?_); focus (first | exact byD | exact byQ | ((refine Sd.mk ?_; simp; omega))))
      repeat first | (with_reducible refine side_d ?_ ?_; exact byD) | (with_reducible refine side_q ?_ ?_; exact byQ)
      refine cx_region ?_
      simp only [go_sem]
      repeat ((with_reducible first | refine side_d ?_ ?_ | refine side_q ?_ ?_); focus (first | exact byD | exact byQ | ((refine Sd.mk ?_; simp at *; omega))))
      repeat first | (with_reducible refine side_d ?_ ?_; exact byD) | (with_reducible refine side_q ?_ ?_; exact byQ)
      refine cx_region ?_
      simp only [go_sem]
      repeat first | (with_reducible refine side_d ?_ ?_; exact byD) | (with_reducible refine side_q ?_ ?_; exact byQ)
      intro t10 e10
      (try replace e10 := w64 e10 (by omega) (by omega))
      repeat first | (with_reducible refine side_d ?_ ?_; exact byD) | (with_reducible refine side_q ?_ ?_; exact byQ)
      refine rnd_next (i + 1) (by omega) (by first | omega | (dsimp only; omega)) ?_
      rw [he]
      exact byC
    ·
      (try simp only [go_sem] at h12)
      obtain rfl : i = 0 := by omega
      have he : pathN l (0 + 1) = pathN l 0 ++ l.getD 0 [] := rfl
      rw [he] at hbb
      simp at hbb
      refine cx_skip ?_
      (try simp only [go_sem])
      refine cx_region ?_
      simp only [go_sem]
      repeat ((with_reducible first | refine side_d ?_ ?_ | refine side_q ?_ ?_); focus (first | exact byD | exact byQ | ((refine Sd.mk ?_; simp at *; omega))))
      repeat first | (with_reducible refine side_d ?_ ?_; exact byD) | (with_reducible refine side_q ?_ ?_; exact byQ)
      refine cx_region ?_
      simp only [go_sem]
      repeat first | (with_reducible refine side_d ?_ ?_; exact byD) | (with_reducible refine side_q ?_ ?_; exact byQ)
      intro t10 e10
      (try replace e10 := w64 e10 (by omega) (by omega))
      repeat first | (with_reducible refine side_d ?_ ?_; exact byD) | (with_reducible refine side_q ?_ ?_; exact byQ)
      refine rnd_next (0 + 1) (by omega) (by first | omega | (dsimp only; omega)) ?_
      rw [he]
      exact byC
  ·
    (try simp only [go_sem] at h8)
    refine cx_exit ?_
    simp only [go_sem]
    refine cx_sr ?_
    simp only [go_sem]
    repeat first | (with_reducible refine side_d ?_ ?_; exact byD) | (with_reducible refine side_q ?_ ?_; exact byQ)
    refine cx_ret ?_
    simp only [go_sem]
    refine finw_str ?_
    rw [show i = n by omega]
theorem ParentOf_c (s : Str) (hs : (s.length + 1) * 16 ≤ 140737488355328) (hb : ∀ i, i ≤ (pcs s).length → (pathN (pcs s) i).length < 4611686018427387904) : Meets Tryd.prog 50 [.str s] (.str (pathN (pcs s) ((pcs s).length - 1))) [] := by
  refine meets_x (fn := Tryd.f50) Tryd.func50 rfl fb50 (by kernel_rfl) (Nat.le_of_ble_eq_true rfl) ?_
  have hpl : (pcs s).length ≤ s.length + 1 := by rw [pcs_cnt]; have := List.count_le_length (a := (47 : UInt8)) (l := s); omega
  have hp0 : 0 < (pcs s).length := by rw [pcs_cnt]; omega
  refine cx_sr ?_
  simp only [go_sem]
  repeat first | (with_reducible refine side_d ?_ ?_; exact byD) | (with_reducible refine side_q ?_ ?_; exact byQ)
  refine cx_sr ?_
  simp only [go_sem]
  repeat first | (with_reducible refine side_d ?_ ?_; exact byD) | (with_reducible refine side_q ?_ ?_; exact byQ)
  refine cw_m (NamesOf_c s hs) byW byT ?_
  simp only [go_sem]
  repeat first | (with_reducible refine side_d ?_ ?_; exact byD) | (with_reducible refine side_q ?_ ?_; exact byQ)
  refine cx_sr ?_
  simp only [go_sem]
  repeat first | (with_reducible refine side_d ?_ ?_; exact byD) | (with_reducible refine side_q ?_ ?_; exact byQ)
  intro t9 e9
  (try replace e9 := w64 e9 (by omega) (by omega))
  repeat first | (with_reducible refine side_d ?_ ?_; exact byD) | (with_reducible refine side_q ?_ ?_; exact byQ)
  refine cw_m (PathOfN_c (pcs s) ((pcs s).length - 1) (by omega) (by omega) hb) byW byT ?_
  simp only [go_sem]
  repeat first | (with_reducible refine side_d ?_ ?_; exact byD) | (with_reducible refine side_q ?_ ?_; exact byQ)
  refine cx_ret ?_
  simp only [go_sem]
  exact finw_str rfl
def inP (a b : List Str) : Bool := decide (b.length ≤ a.length) && (List.range b.length).all fun i => decide (a.getD i [] = b.getD i [])
theorem IsIn_c (a b : Str) (ha : (a.length + 1) * 16 ≤ 140737488355328) (hb : (b.length + 1) * 16 ≤ 140737488355328) : Meets Tryd.prog 31 [.str a, .str b] (.bool (inP (pcs a) (pcs b))) [] := by
  refine meets_x (fn := Tryd.f31) Tryd.func31 rfl fb31 (by kernel_rfl) (Nat.le_of_ble_eq_true rfl) ?_
  have hpl : (pcs a).length ≤ a.length + 1 := by rw [pcs_cnt]; have := List.count_le_length (a := (47 : UInt8)) (l := a); omega
  have hpl2 : (pcs b).length ≤ b.length + 1 := by rw [pcs_cnt]; have := List.count_le_length (a := (47 : UInt8)) (l := b); omega
  refine cx_sr ?_
  simp only [go_sem]
  repeat first | (with_reducible refine side_d ?_ ?_; exact byD) | (with_reducible refine side_q ?_ ?_; exact byQ)
  refine cx_sr ?_
  simp only [go_sem]
  repeat first | (with_reducible refine side_d ?_ ?_; exact byD) | (with_reducible refine side_q ?_ ?_; exact byQ)
  refine cw_m (NamesOf_c a ha) byW byT ?_
  simp only [go_sem]
  repeat first | (with_reducible refine side_d ?_ ?_; exact byD) | (with_reducible refine side_q ?_ ?_; exact byQ)
  refine cw_m (NamesOf_c b hb) byW byT ?_
  simp only [go_sem]
  repeat first | (with_reducible refine side_d ?_ ?_; exact byD) | (with_reducible refine side_q ?_ ?_; exact byQ)
  refine cx_seq ?_
  refine cx_sr ?_
  simp only [go_sem]
  repeat first | (with_reducible refine side_d ?_ ?_; exact byD) | (with_reducible refine side_q ?_ ?_; exact byQ)
  intro t16 e16
  repeat first | (with_reducible refine side_d ?_ ?_; exact byD) | (with_reducible refine side_q ?_ ?_; exact byQ)
  subst e16
  refine cx_if _ rfl (fun h16 => ?_) (fun h16 => ?_)
  ·
    (try simp only [go_sem] at h16)
    refine cx_sr ?_
    simp only [go_sem]
    repeat first | (with_reducible refine side_d ?_ ?_; exact byD) | (with_reducible refine side_q ?_ ?_; exact byQ)
    refine cx_ret ?_
    simp only [go_sem]
    refine finw_bool ?_
    have : ¬ (pcs b).length ≤ (pcs a).length := by omega
    simp [inP, this]
  ·
    (try simp only [go_sem] at h16)
    refine cx_skip ?_
    (try simp only [go_sem])
    refine cx_seq ?_
    refine cx_sr ?_
    simp only [go_sem]
    repeat first | (with_reducible refine side_d ?_ ?_; exact byD) | (with_reducible refine side_q ?_ ?_; exact byQ)
    refine cx_block ?_
    refine cx_loop0 (σ := Nat) (fun i => i ≤ (pcs b).length ∧ ∀ j, j < i → (pcs a).getD j [] = (pcs b).getD j []) (fun i => [⟨7, 0, [], .int .i64 (i : Nat)⟩]) [5, 6] (fun i => (pcs b).length - i) 0 ⟨Nat.zero_le _, fun j hj => absurd hj (Nat.not_lt_zero j)⟩ (Nat.zero_le _) byC (fun i hI1 => ?_)
    simp only [go_sem]
    refine cx_seq ?_
    refine cx_sr ?_
    simp only [go_sem]
    repeat first | (with_reducible refine side_d ?_ ?_; exact byD) | (with_reducible refine side_q ?_ ?_; exact byQ)
    intro t20 e20
    repeat first | (with_reducible refine side_d ?_ ?_; exact byD) | (with_reducible refine side_q ?_ ?_; exact byQ)
    subst e20
    refine cx_if _ rfl (fun h20 => ?_) (fun h20 => ?_)
    ·
      (try simp only [go_sem] at h20)
      refine cx_skip ?_
      (try simp only [go_sem])
      refine cx_seq (cx_block ?_)
      refine cx_seq (cx_draw mixed [] (.first 0 (.first 1 (.first 2 (.first 3 (.first 4 (.first 5 (.first 6 (.first 7 (.first 8 (.done)))))))))) (by kernel_rfl) ?_)
      simp only [go_sem]
      repeat first | (with_reducible refine side_d ?_ ?_; exact byD) | (with_reducible refine side_q ?_ ?_; exact byQ)
      intro t31 e31
      repeat first | (with_reducible refine side_d ?_ ?_; exact byD) | (with_reducible refine side_q ?_ ?_; exact byQ)
      subst e31
      refine cx_if _ rfl (fun h31 => ?_) (fun h31 => ?_)
      ·
        (try simp only [go_sem] at h31)
        refine cx_sr ?_
        simp only [go_sem]
        repeat first | (with_reducible refine side_d ?_ ?_; exact byD) | (with_reducible refine side_q ?_ ?_; exact byQ)
        refine cx_ret ?_
        simp only [go_sem]
        refine finw_bool ?_
        rw [inP, range_all_false (p := fun j => decide ((pcs a).getD j [] = (pcs b).getD j [])) (i := i) (by omega) (by simpa using h31), Bool.and_false]
      ·
        (try simp only [go_sem] at h31)
        refine cx_skip ?_
        (try simp only [go_sem])
        refine cx_region ?_
        simp only [go_sem]
        repeat first | (with_reducible refine side_d ?_ ?_; exact byD) | (with_reducible refine side_q ?_ ?_; exact byQ)
        intro t22 e22
        (try replace e22 := w64 e22 (by omega) (by omega))
        repeat first | (with_reducible refine side_d ?_ ?_; exact byD) | (with_reducible refine side_q ?_ ?_; exact byQ)
        refine rnd_next (i + 1) ⟨by omega, fun j hj => ?_⟩ (by show (pcs b).length - (i + 1) < (pcs b).length - i; omega) byC
        rcases Nat.lt_or_ge j i with h | h
        · exact hI1.2 j h
        · obtain rfl : j = i := by omega
          simpa using h31
    ·
      (try simp only [go_sem] at h20)
      refine cx_exit ?_
      simp only [go_sem]
      refine cx_sr ?_
      simp only [go_sem]
      repeat first | (with_reducible refine side_d ?_ ?_; exact byD) | (with_reducible refine side_q ?_ ?_; exact byQ)
      refine cx_ret ?_
      simp only [go_sem]
      refine finw_bool ?_
      have h : (pcs b).length ≤ (pcs a).length := by omega
      rw [inP, range_all_true (p := fun j => decide ((pcs a).getD j [] = (pcs b).getD j [])) fun j hj => by simpa using hI1.2 j (by omega)]
      simp [h]
end Go.VM.Tryd
end
section
set_option linter.unusedVariables false
set_option linter.unusedSimpArgs false
open Go Go.VM
namespace Tether
theorem mid_eq {t20 t21 t22 t23 : Int} {a b : Nat} (h : a + b < 9223372036854775808) (e20 : t20 = (a : Int) + (b : Int)) (e21 : t21 = IntKind.u64.wrap t20) (e22 : t22 = t21.fdiv (2 ^ 1)) (e23 : t23 = IntKind.i64.wrap t22) : t23 = (((a + b) / 2 : Nat) : Int) := by
  have h1 : IntKind.u64.wrap t20 = t20 := by
    simp only [IntKind.wrap, IntKind.signed, IntKind.bits]; simp; omega
  have h2 : t22 = (((a + b) / 2 : Nat) : Int) := by
    rw [e22, e21, h1, e20, Int.fdiv_eq_ediv_of_nonneg _ (by decide)]
    simp
  rw [e23, h2]
  exact wrap64 (by omega) (by omega)
section
variable {α : Type} {enc : α → List V} {d : α} {l : List α}
theorem En_ins {i q : Nat} {x : α} (hi : i ≤ l.length) (hq : q < l.length + 1) : En enc d (l.take i ++ x :: l.drop i) q = if q < i then En enc d l q else if q = i then enc x else En enc d l (q - 1) := by
  have hl : (l.take i).length = i := by simp; omega
  simp only [En, List.getD_eq_getElem?_getD]
  by_cases h1 : q < i
  · rw [if_pos h1, List.getElem?_append_left (by omega), List.getElem?_take, if_pos h1]
  · rw [if_neg h1, List.getElem?_append_right (by omega), hl]
    by_cases h2 : q = i
    · rw [if_pos h2, h2]; simp
    · rw [if_neg h2]
      obtain ⟨k, hk⟩ : ∃ k, q - i = k + 1 := ⟨q - i - 1, by omega⟩
      rw [hk, List.getElem?_cons_succ, List.getElem?_drop]
      have : i + k = q - 1 := by omega
      rw [this]
theorem wks_mp_of (h : ∀ x, ltrs 0 (enc x) = true) {g : Nat → Option Nat} {f : Nat → List V} {l' : List α} {q : Nat} (he : f q = En enc d l' q) : wks (mpF (rnVs g) f q) (En enc d l' q) := by
  simp only [mpF, he, En, rnVs_no _ (h _)]; exact wks_refl _
theorem ins_grow {i q k m : Nat} {x : α} {z : List V} {v : Nat → List V} (hv : ∀ j, v j = enc x) (hi : i < l.length) (hq : q < l.length + 1) (hk : k = l.length - i) (hm : m = 1) :
    over (i + 1) k (En enc d (l.drop i)) (over i m v (join i (En enc d l) fun _ => z)) q = En enc d (l.take i ++ x :: l.drop i) q := by
  subst hm
  rw [En_ins (Nat.le_of_lt hi) hq, ← shF_En]
  unfold over
  by_cases h1 : q < i
  · rw [if_neg (by omega), if_neg (by omega), if_pos h1]
    unfold join
    rw [show Nat.blt q i = true by simpa using h1]
    rfl
  · rw [if_neg h1]
    by_cases h2 : q = i
    · rw [if_neg (by omega), if_pos (by omega), if_pos h2, hv]
    · rw [if_pos (by omega), if_neg h2]
      unfold shF
      congr 1
      omega
theorem ins_in {i q k m : Nat} {x : α} {v : Nat → List V} (hv : ∀ j, v j = enc x) (hi : i < l.length) (hq : q < l.length + 1) (hk : k = l.length - i) (hm : m = 1) :
    over i m v (over (i + 1) k (En enc d (l.drop i)) (En enc d l)) q = En enc d (l.take i ++ x :: l.drop i) q := by
  subst hm
  rw [En_ins (Nat.le_of_lt hi) hq, ← shF_En]
  unfold over
  by_cases h1 : q < i
  · rw [if_neg (by omega), if_neg (by omega), if_pos h1]
  · rw [if_neg h1]
    by_cases h2 : q = i
    · rw [if_pos (by omega), if_pos h2, hv]
    · rw [if_neg (by omega), if_pos (by omega), if_neg h2]
      unfold shF
      congr 1
      omega
theorem ins_end {i q : Nat} {x : α} {v : Nat → List V} (hv : ∀ j, v j = enc x) (hi : i = l.length) (hq : q < l.length + 1) :
    over i 1 v (En enc d l) q = En enc d (l.take i ++ x :: l.drop i) q := by
  rw [En_ins (Nat.le_of_eq hi) hq]
  unfold over
  by_cases h1 : q < i
  · rw [if_neg (by omega), if_pos h1]
  · rw [if_neg h1, if_pos (by omega), if_pos (by omega), hv]
theorem ins_end' {i q : Nat} {x : α} {v : Nat → List V} (hv : ∀ j, v j = enc x) (hi : i = l.length) (hq : q < l.length + 1) :
    join i (En enc d l) v q = En enc d (l.take i ++ x :: l.drop i) q := by
  rw [En_ins (Nat.le_of_eq hi) hq]
  unfold join
  by_cases h1 : q < i
  · rw [if_pos h1, show Nat.blt q i = true by simpa using h1]
    rfl
  · rw [if_neg h1, if_pos (by omega)]
    have : Nat.blt q i = false := by
      cases hb : Nat.blt q i with
      | false => rfl
      | true => exact absurd (by simpa using hb) h1
    rw [this]
    exact hv _
end
end Tether
end
section
set_option linter.unusedVariables false
set_option linter.unusedSimpArgs false
open Go Go.VM
namespace Tether
/-! ### Texts in order -/
theorem bytesLess_iff : ∀ (x y : Str), Op.bytesLess x y = true ↔ x < y
  | _, [] => by simp [Op.bytesLess]
  | [], _ :: _ => by simp [Op.bytesLess]
  | a :: x, b :: y => by
    rw [List.cons_lt_cons_iff]
    simp only [Op.bytesLess, Bool.or_eq_true, Bool.and_eq_true, decide_eq_true_eq, beq_iff_eq, bytesLess_iff x y]
theorem blt_iff {a b : Str} : blt a b = true ↔ a < b := bytesLess_iff a b
theorem blt_eq {a b : Str} : blt a b = decide (a < b) := by
  cases h : blt a b with
  | true => simp [blt_iff.1 h]
  | false =>
    have : ¬ a < b := fun h' => by rw [blt_iff.2 h'] at h; cases h
    simp [this]
theorem str_tri (a b : Str) : a < b ∨ a = b ∨ b < a := by
  by_cases h1 : a < b
  · exact .inl h1
  · by_cases h2 : b < a
    · exact .inr (.inr h2)
    · exact .inr (.inl (List.le_antisymm h2 h1))
def strE (s : Str) : List V := [.str s]
abbrev strsV (l : List Str) : V := lstV 1 strE [] l
attribute [go_sem] strE
def numE (n : Int) : List V := [.int .i64 n]
attribute [go_sem] numE
/-- texts compared -/
def cmpS (a b : Str) : Int := if blt a b = true then -1 else if blt b a = true then 1 else 0
theorem cmpS_lt {a b : Str} : cmpS a b < 0 ↔ a < b := by
  unfold cmpS
  by_cases h : a < b
  · simp [blt_iff.2 h, h]
  · rw [if_neg (by rw [blt_iff]; exact h)]
    split <;> simp [h]
theorem cmpS_eq {a b : Str} : cmpS a b = 0 ↔ a = b := by
  unfold cmpS
  by_cases h : a < b
  · have : a ≠ b := fun e => by subst e; exact List.lt_irrefl a h
    simp [blt_iff.2 h, this]
  · rw [if_neg (by rw [blt_iff]; exact h)]
    by_cases h2 : b < a
    · have : a ≠ b := fun e => by subst e; exact List.lt_irrefl a h2
      simp [blt_iff.2 h2, this]
    · rw [if_neg (by rw [blt_iff]; exact h2)]
      rcases str_tri a b with h3 | h3 | h3
      · exact absurd h3 h
      · simp [h3]
      · exact absurd h3 h2
theorem cmpS_gt {a b : Str} : 0 < cmpS a b ↔ b < a := by
  have h1 := @cmpS_lt a b
  have h2 := @cmpS_eq a b
  constructor
  · intro h
    rcases str_tri a b with h3 | h3 | h3
    · have := h1.2 h3; omega
    · have := h2.2 h3; omega
    · exact h3
  · intro h
    have n1 : ¬ cmpS a b < 0 := fun h' => List.lt_irrefl a (List.lt_trans (h1.1 h') h)
    have n2 : ¬ cmpS a b = 0 := fun h' => by have := h2.1 h'; subst this; exact List.lt_irrefl a h
    omega
/-! ### Sets of texts -/
def keysF (ks : List Str) : List (Str × Bool) := ks.foldl (fun m k => aSet m k true) []
def akeys {α : Type} (l : List (Str × α)) : List Str := l.map (·.1)
theorem keq_eq {a b : Str} : keq a b = decide (a = b) := rfl
theorem akeys_aSet {α : Type} (l : List (Str × α)) (k : Str) (v : α) : akeys (aSet l k v) = if k ∈ akeys l then akeys l else akeys l ++ [k] := by
  induction l with
  | nil => simp [aSet, akeys]
  | cons x l ih =>
    unfold aSet
    by_cases h : x.1 = k
    · rw [show keq x.1 k = true by simp [keq_eq, h]]
      simp [akeys, h]
    · rw [show keq x.1 k = false by simp [keq_eq, h]]
      have : akeys (x :: aSet l k v) = x.1 :: akeys (aSet l k v) := rfl
      rw [cond_false, this, ih]
      have hk : ¬ k = x.1 := fun e => h e.symm
      by_cases hm : k ∈ akeys l
      · rw [if_pos hm, if_pos (by simp [akeys] at hm ⊢; exact .inr hm)]; rfl
      · rw [if_neg hm, if_neg (by simp [akeys, hk] at hm ⊢; exact hm)]; rfl
theorem keysF_spec (ks : List Str) : (akeys (keysF ks)).Nodup ∧ ∀ k, k ∈ akeys (keysF ks) ↔ k ∈ ks := by
  have gen : ∀ (ks : List Str) (m : List (Str × Bool)), (akeys m).Nodup → (akeys (ks.foldl (fun m k => aSet m k true) m)).Nodup ∧ ∀ k, k ∈ akeys (ks.foldl (fun m k => aSet m k true) m) ↔ k ∈ akeys m ∨ k ∈ ks := by
    intro ks
    induction ks with
    | nil => intro m hm; exact ⟨hm, by simp⟩
    | cons x ks ih =>
      intro m hm
      have h1 : (akeys (aSet m x true)).Nodup := by
        rw [akeys_aSet]
        split
        · exact hm
        · rename_i hx
          rw [List.nodup_append]
          refine ⟨hm, by simp, ?_⟩
          intro a ha b hb
          simp at hb
          subst hb
          rintro rfl
          exact hx ha
      obtain ⟨g1, g2⟩ := ih _ h1
      refine ⟨g1, fun k => ?_⟩
      rw [List.foldl_cons, g2, akeys_aSet]
      split
      · rename_i hx
        simp only [List.mem_cons]
        constructor
        · rintro (h | h)
          · exact .inl h
          · exact .inr (.inr h)
        · rintro (h | h | h)
          · exact .inl h
          · subst h; exact .inl hx
          · exact .inr h
      · simp only [List.mem_append, List.mem_cons, List.not_mem_nil, or_false, or_assoc]
  obtain ⟨h1, h2⟩ := gen ks [] (by simp [akeys])
  exact ⟨h1, fun k => by rw [show keysF ks = ks.foldl (fun m k => aSet m k true) [] from rfl, h2]; simp [akeys]⟩
theorem keysF_snoc (ks : List Str) (k : Str) : keysF (ks ++ [k]) = aSet (keysF ks) k true := by simp [keysF]
theorem nodup_le {α : Type} [DecidableEq α] : ∀ {A B : List α}, A.Nodup → (∀ a ∈ A, a ∈ B) → A.length ≤ B.length
  | [], _, _, _ => Nat.zero_le _
  | a :: A, B, hA, h => by
    have ha := h a (by simp)
    have hA' := List.nodup_cons.1 hA
    have := nodup_le (A := A) (B := B.erase a) hA'.2 fun x hx => by
      have hne : x ≠ a := fun e => hA'.1 (e ▸ hx)
      exact (List.mem_erase_of_ne hne).2 (h x (by simp [hx]))
    rw [List.length_erase_of_mem ha] at this
    have hpos : 0 < B.length := List.length_pos_of_mem ha
    simp; omega
theorem nodup_eq {α : Type} [DecidableEq α] {A B : List α} (hA : A.Nodup) (hB : B.Nodup) (h : ∀ a ∈ A, a ∈ B) : A.length = B.length ↔ ∀ b ∈ B, b ∈ A := by
  constructor
  · intro he b hb
    apply Classical.byContradiction
    intro hn
    have := nodup_le (A := b :: A) (B := B) (List.nodup_cons.2 ⟨hn, hA⟩) (fun x hx => by rcases List.mem_cons.1 hx with rfl | hx; exact hb; exact h x hx)
    simp at this; omega
  · intro h'
    exact Nat.le_antisymm (nodup_le hA h) (nodup_le hB h')
theorem keysF_len {A B : List Str} (h : ∀ a ∈ A, a ∈ B) : (keysF A).length = (keysF B).length ↔ ∀ b ∈ B, b ∈ A := by
  obtain ⟨a1, a2⟩ := keysF_spec A
  obtain ⟨b1, b2⟩ := keysF_spec B
  have := nodup_eq a1 b1 (fun a ha => (b2 a).2 (h a ((a2 a).1 ha)))
  simp only [akeys, List.length_map] at this
  rw [this]
  constructor
  · intro hh b hb; exact (a2 b).1 (hh b ((b2 b).2 hb))
  · intro hh b hb; exact (a2 b).2 (hh b ((b2 b).1 hb))
theorem keysF_le (A : List Str) : (keysF A).length ≤ A.length := by
  obtain ⟨a1, a2⟩ := keysF_spec A
  have := nodup_le a1 (fun a ha => (a2 a).1 ha)
  simpa [akeys] using this
theorem keysF_lt {A : List Str} : (keysF A).length = A.length ↔ A.Nodup := by
  obtain ⟨a1, a2⟩ := keysF_spec A
  constructor
  · intro h
    have gen : ∀ {A B : List Str}, B.Nodup → (∀ b ∈ B, b ∈ A) → (∀ a ∈ A, a ∈ B) → B.length = A.length → A.Nodup := by
      intro A
      induction A with
      | nil => intros; simp
      | cons a A ih =>
        intro B hB h1 h2 hl
        by_cases ha : a ∈ A
        · exfalso
          have := nodup_le (A := B) (B := A) hB (fun b hb => by rcases List.mem_cons.1 (h1 b hb) with rfl | h; exact ha; exact h)
          simp at hl; omega
        · refine List.nodup_cons.2 ⟨ha, ih (B := B.erase a) (hB.erase a) ?_ ?_ ?_⟩
          · intro b hb
            have hm := (hB.mem_erase_iff).1 hb
            rcases List.mem_cons.1 (h1 b hm.2) with e | h
            · exact absurd e hm.1
            · exact h
          · intro x hx
            have hne : x ≠ a := fun e => ha (e ▸ hx)
            exact (hB.mem_erase_iff).2 ⟨hne, h2 x (by simp [hx])⟩
          · rw [List.length_erase_of_mem (h2 a (by simp))]; simp at hl; omega
    exact gen a1 (fun b hb => (a2 b).1 hb) (fun a ha => (a2 a).2 ha) (by simpa [akeys] using h)
  · intro h
    exact Nat.le_antisymm (keysF_le A) (by
      have := nodup_le h (fun a ha => (a2 a).2 ha)
      simpa [akeys] using this)
end Tether
end
section
set_option linter.unusedVariables false
set_option linter.unusedSimpArgs false
open Go Go.VM
namespace Tether
/-! ### Entries of a tree -/
structure Entry where
  path : Str
  folder : Bool
  text : Str
  version : Int
  deriving Inhabited, DecidableEq
def Entry.enc (x : Entry) : List V := [.str x.path, .bool x.folder, .str x.text, .int .i64 x.version]
structure Change where
  kind : Int
  path : Str
  to : Str
  text : Str
  base : Int
  deriving Inhabited, DecidableEq
def Change.enc (c : Change) : List V := [.int .i64 c.kind, .str c.path, .str c.to, .str c.text, .int .i64 c.base]
attribute [go_sem] Entry.enc Change.enc
def SortedE (l : List Entry) : Prop := l.Pairwise fun a b => a.path < b.path
theorem lt_trans' {a b c : Str} (h : a < b) (k : b < c) : a < c := List.lt_trans h k
theorem lt_irrefl' (a : Str) : ¬ a < a := List.lt_irrefl a
theorem lt_asymm' {a b : Str} (h : a < b) : ¬ b < a := fun k => lt_irrefl' a (lt_trans' h k)
/-- where a path is, or belongs -/
def eIx (l : List Entry) (p : Str) : Nat := l.findIdx fun x => !(blt x.path p)
def hasE (l : List Entry) (p : Str) : Bool := decide (eIx l p < l.length) && decide ((l.getD (eIx l p) default).path = p)
def findE (l : List Entry) (p : Str) : Option Entry := l.find? fun x => decide (x.path = p)
theorem eIx_le (l : List Entry) (p : Str) : eIx l p ≤ l.length := List.findIdx_le_length
theorem eIx_lt {l : List Entry} {p : Str} {j : Nat} (h : j < eIx l p) : (l.getD j default).path < p := by
  have hl : j < l.length := Nat.lt_of_lt_of_le h (eIx_le l p)
  have := List.not_of_lt_findIdx (p := fun x : Entry => !(blt x.path p)) h
  rw [List.getD_eq_getElem?_getD, List.getElem?_eq_getElem hl]
  exact blt_iff.1 (by simpa using this)
theorem eIx_ge {l : List Entry} (hs : SortedE l) {p : Str} {j : Nat} (h : eIx l p ≤ j) (hj : j < l.length) : ¬ (l.getD j default).path < p := by
  have hi : eIx l p < l.length := by omega
  have h1 : ¬ (l[eIx l p]).path < p := by
    have : (!(blt (l[eIx l p]).path p)) = true := List.findIdx_getElem (p := fun x : Entry => !(blt x.path p)) (w := hi)
    intro h2
    rw [blt_iff.2 h2] at this
    cases this
  rw [List.getD_eq_getElem?_getD, List.getElem?_eq_getElem hj]
  simp only [Option.getD_some]
  rcases Nat.eq_or_lt_of_le h with h2 | h2
  · subst h2; exact h1
  · intro h3
    have := List.pairwise_iff_getElem.1 hs (eIx l p) j hi hj h2
    exact h1 (lt_trans' this h3)
theorem sorted_inj {l : List Entry} (hs : SortedE l) {i j : Nat} (hi : i < l.length) (hj : j < l.length) (h : l[i].path = l[j].path) : i = j := by
  rcases Nat.lt_trichotomy i j with h1 | h1 | h1
  · have := List.pairwise_iff_getElem.1 hs i j hi hj h1
    rw [h] at this
    exact absurd this (lt_irrefl' _)
  · exact h1
  · have := List.pairwise_iff_getElem.1 hs j i hj hi h1
    rw [h] at this
    exact absurd this (lt_irrefl' _)
theorem sorted_mem_inj {l : List Entry} (hs : SortedE l) {x y : Entry} (hx : x ∈ l) (hy : y ∈ l) (h : x.path = y.path) : x = y := by
  obtain ⟨i, hi, rfl⟩ := List.getElem_of_mem hx
  obtain ⟨j, hj, rfl⟩ := List.getElem_of_mem hy
  obtain rfl := sorted_inj hs hi hj h
  rfl
theorem findE_some {l : List Entry} {p : Str} {x : Entry} (h : findE l p = some x) : x ∈ l ∧ x.path = p :=
  ⟨List.mem_of_find?_eq_some h, by simpa using List.find?_some h⟩
theorem findE_none {l : List Entry} {p : Str} : findE l p = none ↔ ∀ x ∈ l, x.path ≠ p := by
  simp [findE, List.find?_eq_none]
theorem findE_mem {l : List Entry} (hs : SortedE l) {x : Entry} (h : x ∈ l) : findE l x.path = some x := by
  cases hf : findE l x.path with
  | none => exact absurd rfl (findE_none.1 hf x h)
  | some y =>
    obtain ⟨h1, h2⟩ := findE_some hf
    rw [sorted_mem_inj hs h1 h h2]
theorem findE_eq {l : List Entry} (hs : SortedE l) (p : Str) : findE l p = if hasE l p = true then some (l.getD (eIx l p) default) else none := by
  by_cases h : hasE l p = true
  · rw [if_pos h]
    simp only [hasE, Bool.and_eq_true, decide_eq_true_eq] at h
    have hm : l.getD (eIx l p) default ∈ l := by
      rw [List.getD_eq_getElem?_getD, List.getElem?_eq_getElem h.1]
      exact List.getElem_mem _
    have := findE_mem hs hm
    rwa [h.2] at this
  · rw [if_neg h, findE_none]
    intro x hx hp
    obtain ⟨j, hj, rfl⟩ := List.getElem_of_mem hx
    apply h
    have hjd : l.getD j default = l[j] := by rw [List.getD_eq_getElem?_getD, List.getElem?_eq_getElem hj]; rfl
    have h1 : eIx l p ≤ j := by
      rcases Nat.lt_or_ge j (eIx l p) with h2 | h2
      · have := eIx_lt h2
        rw [hjd, hp] at this
        exact absurd this (lt_irrefl' _)
      · exact h2
    have hlt : eIx l p < l.length := by omega
    simp only [hasE, Bool.and_eq_true, decide_eq_true_eq]
    refine ⟨hlt, ?_⟩
    rcases Nat.eq_or_lt_of_le h1 with h2 | h2
    · rw [h2, hjd, hp]
    · have h3 := List.pairwise_iff_getElem.1 hs (eIx l p) j hlt hj h2
      rw [hp] at h3
      have h4 := eIx_ge hs (Nat.le_refl (eIx l p)) hlt
      rw [List.getD_eq_getElem?_getD, List.getElem?_eq_getElem hlt] at h4
      exact absurd h3 h4
theorem hasE_iff {l : List Entry} (hs : SortedE l) {p : Str} : hasE l p = true ↔ ∃ x ∈ l, x.path = p := by
  have h := findE_eq hs p
  constructor
  · intro h1
    rw [if_pos h1] at h
    exact ⟨_, (findE_some h).1, (findE_some h).2⟩
  · rintro ⟨x, hx, rfl⟩
    rw [findE_mem hs hx] at h
    by_cases h1 : hasE l x.path = true
    · exact h1
    · rw [if_neg h1] at h
      cases h
theorem cmp_lt {l : List Entry} {p : Str} {j : Nat} (h : j < eIx l p) : cmpS (l.getD j default).path p < 0 := cmpS_lt.2 (eIx_lt h)
theorem cmp_ge {l : List Entry} (hs : SortedE l) {p : Str} {j : Nat} (h : eIx l p ≤ j) (hj : j < l.length) : 0 ≤ cmpS (l.getD j default).path p := by
  have := eIx_ge hs h hj
  rw [← cmpS_lt] at this
  omega
/-! ### Sorted lists as maps -/
theorem sorted_ext : ∀ {a b : List Entry}, SortedE a → SortedE b → (∀ x, x ∈ a ↔ x ∈ b) → a = b
  | [], [], _, _, _ => rfl
  | [], y :: b, _, _, h => absurd ((h y).2 (.head _)) (by simp)
  | x :: a, [], _, _, h => absurd ((h x).1 (.head _)) (by simp)
  | x :: a, y :: b, ha, hb, h => by
    have ha1 := (List.pairwise_cons.1 ha).1
    have hb1 := (List.pairwise_cons.1 hb).1
    have e : x = y := by
      rcases List.mem_cons.1 ((h x).1 (.head _)) with e | h1
      · exact e
      · rcases List.mem_cons.1 ((h y).2 (.head _)) with e | h2
        · exact e.symm
        · exact absurd (ha1 y h2) (lt_asymm' (hb1 x h1))
    subst e
    rw [sorted_ext (List.pairwise_cons.1 ha).2 (List.pairwise_cons.1 hb).2 fun z => ?_]
    constructor
    · intro hz
      rcases List.mem_cons.1 ((h z).1 (.tail _ hz)) with e | h1
      · subst e
        exact absurd (ha1 z hz) (lt_irrefl' _)
      · exact h1
    · intro hz
      rcases List.mem_cons.1 ((h z).2 (.tail _ hz)) with e | h1
      · subst e
        exact absurd (hb1 z hz) (lt_irrefl' _)
      · exact h1
/-- put an entry in the place of what is there -/
def putE (l : List Entry) (x : Entry) : List Entry := if hasE l x.path = true then l.set (eIx l x.path) x else l.take (eIx l x.path) ++ x :: l.drop (eIx l x.path)
theorem take_lt {l : List Entry} {p : Str} {x : Entry} (h : x ∈ l.take (eIx l p)) : x.path < p := by
  obtain ⟨j, hj, rfl⟩ := List.getElem_of_mem h
  simp only [List.length_take] at hj
  have := eIx_lt (l := l) (p := p) (j := j) (by omega)
  rw [List.getD_eq_getElem?_getD, List.getElem?_eq_getElem (by omega)] at this
  simpa using this
theorem drop_gt {l : List Entry} (hs : SortedE l) {p : Str} {x : Entry} (h : x ∈ l.drop (if hasE l p = true then eIx l p + 1 else eIx l p)) : p < x.path := by
  obtain ⟨j, hj, rfl⟩ := List.getElem_of_mem h
  simp only [List.length_drop] at hj
  simp only [List.getElem_drop]
  have hjl : (if hasE l p = true then eIx l p + 1 else eIx l p) + j < l.length := by omega
  have h1 : eIx l p ≤ (if hasE l p = true then eIx l p + 1 else eIx l p) + j := by split <;> omega
  have h2 := eIx_ge hs h1 hjl
  rw [List.getD_eq_getElem?_getD, List.getElem?_eq_getElem hjl] at h2
  simp only [Option.getD_some] at h2
  rcases str_tri (l[(if hasE l p = true then eIx l p + 1 else eIx l p) + j]).path p with h3 | h3 | h3
  · exact absurd h3 h2
  · exfalso
    have hh : hasE l p = true := (hasE_iff hs).2 ⟨_, List.getElem_mem hjl, h3⟩
    simp only [hh, if_true] at h3 hjl
    have hh' := hh
    simp only [hasE, Bool.and_eq_true, decide_eq_true_eq] at hh'
    have h5 : (l[eIx l p]'hh'.1).path = p := by
      have := hh'.2
      rw [List.getD_eq_getElem?_getD, List.getElem?_eq_getElem hh'.1] at this
      exact this
    have := sorted_inj hs hjl hh'.1 (by rw [h3, h5])
    omega
  · exact h3
theorem putE_eq (l : List Entry) (x : Entry) : putE l x = l.take (eIx l x.path) ++ x :: l.drop (if hasE l x.path = true then eIx l x.path + 1 else eIx l x.path) := by
  unfold putE
  by_cases h : hasE l x.path = true
  · rw [if_pos h, if_pos h]
    simp only [hasE, Bool.and_eq_true, decide_eq_true_eq] at h
    rw [List.set_eq_take_append_cons_drop, if_pos h.1]
  · rw [if_neg h, if_neg h]
theorem putE_sorted {l : List Entry} (hs : SortedE l) (x : Entry) : SortedE (putE l x) := by
  rw [putE_eq]
  unfold SortedE
  rw [List.pairwise_append]
  refine ⟨hs.sublist (List.take_sublist _ _), List.pairwise_cons.2 ⟨fun y hy => drop_gt hs hy, hs.sublist (List.drop_sublist _ _)⟩, fun a ha b hb => ?_⟩
  rcases List.mem_cons.1 hb with rfl | hb
  · exact take_lt ha
  · exact lt_trans' (take_lt ha) (drop_gt hs hb)
theorem putE_mem {l : List Entry} (hs : SortedE l) {x y : Entry} : y ∈ putE l x ↔ y = x ∨ (y ∈ l ∧ y.path ≠ x.path) := by
  rw [putE_eq]
  constructor
  · intro h
    rcases List.mem_append.1 h with h | h
    · exact .inr ⟨List.mem_of_mem_take h, fun e => lt_irrefl' _ (e ▸ take_lt h)⟩
    · rcases List.mem_cons.1 h with h | h
      · exact .inl h
      · exact .inr ⟨List.mem_of_mem_drop h, fun e => by have := drop_gt hs h; rw [e] at this; exact lt_irrefl' _ this⟩
  · rintro (rfl | ⟨h1, h2⟩)
    · simp
    · have hsplit : l = l.take (eIx l x.path) ++ l.drop (eIx l x.path) := (List.take_append_drop _ _).symm
      rw [hsplit] at h1
      rcases List.mem_append.1 h1 with h | h
      · exact List.mem_append_left _ h
      · apply List.mem_append_right
        apply List.mem_cons_of_mem
        by_cases hh : hasE l x.path = true
        · rw [if_pos hh]
          simp only [hasE, Bool.and_eq_true, decide_eq_true_eq] at hh
          rw [List.drop_eq_getElem_cons hh.1] at h
          rcases List.mem_cons.1 h with e | h
          · exfalso
            have := hh.2
            rw [List.getD_eq_getElem?_getD, List.getElem?_eq_getElem hh.1] at this
            exact h2 (by rw [e]; exact this)
          · exact h
        · rw [if_neg hh]
          exact h
theorem putE_length (l : List Entry) (x : Entry) : (putE l x).length = if hasE l x.path = true then l.length else l.length + 1 := by
  have hle := eIx_le l x.path
  unfold putE
  split
  · simp
  · simp
    omega
theorem filter_sorted {l : List Entry} (hs : SortedE l) (p : Entry → Bool) : SortedE (l.filter p) := List.Pairwise.filter _ hs
theorem sorted_find_ext {a b : List Entry} (ha : SortedE a) (hb : SortedE b) (h : ∀ p, findE a p = findE b p) : a = b := by
  refine sorted_ext ha hb fun x => ?_
  constructor
  · intro hx
    have := findE_mem ha hx
    rw [h] at this
    exact (findE_some this).1
  · intro hx
    have := findE_mem hb hx
    rw [← h] at this
    exact (findE_some this).1
theorem find_of_mem_iff {l : List Entry} (hs : SortedE l) {p : Str} {x : Entry} : findE l p = some x ↔ x ∈ l ∧ x.path = p :=
  ⟨findE_some, fun ⟨h1, h2⟩ => h2 ▸ findE_mem hs h1⟩
theorem putE_find {l : List Entry} (hs : SortedE l) (x : Entry) (p : Str) : findE (putE l x) p = if p = x.path then some x else findE l p := by
  by_cases h : p = x.path
  · rw [if_pos h, find_of_mem_iff (putE_sorted hs x)]
    exact ⟨(putE_mem hs).2 (.inl rfl), h.symm⟩
  · rw [if_neg h]
    cases hf : findE l p with
    | none =>
      rw [findE_none] at hf ⊢
      intro y hy
      rcases (putE_mem hs).1 hy with rfl | ⟨h1, _⟩
      · exact fun e => h e.symm
      · exact hf y h1
    | some y =>
      obtain ⟨h1, h2⟩ := findE_some hf
      exact (find_of_mem_iff (putE_sorted hs x)).2 ⟨(putE_mem hs).2 (.inr ⟨h1, fun e => h (h2 ▸ e)⟩), h2⟩
theorem filter_find {l : List Entry} (hs : SortedE l) (q : Entry → Bool) (p : Str) : findE (l.filter q) p = (findE l p).filter q := by
  cases hf : findE l p with
  | none =>
    rw [Option.filter_none, findE_none]
    rw [findE_none] at hf
    intro y hy
    exact hf y (List.mem_filter.1 hy).1
  | some y =>
    obtain ⟨h1, h2⟩ := findE_some hf
    by_cases hq : q y = true
    · rw [Option.filter_some, if_pos hq]
      exact (find_of_mem_iff (filter_sorted hs q)).2 ⟨List.mem_filter.2 ⟨h1, hq⟩, h2⟩
    · rw [Option.filter_some, if_neg hq, findE_none]
      intro z hz hp
      obtain ⟨g1, g2⟩ := List.mem_filter.1 hz
      rw [sorted_mem_inj hs g1 h1 (hp.trans h2.symm)] at g2
      exact hq g2
end Tether
end
