import Derived.Test.YtbeimhhhgjaaaaaDoorWW3
import Derived.Test.YtbeimhhhgjaaaaaDoorWV6
import Derived.Lib.DecodeN
import Derived.Shelf.Lay
import Derived.Ground.GgwProg
section
set_option maxHeartbeats 4000000
set_option linter.unusedVariables false
set_option linter.unusedSimpArgs false
open Go Go.VM Go.Proofs Tether
namespace Tether
structure Journal where
  base : List Entry
  first : Int
  commits : List Commit
  deriving Inhabited, DecidableEq
end Tether
namespace Go.VM.Tryd
set_option maxRecDepth 100000
def jnE (j : Journal) : List V := [esV j.base, .int .i64 j.first, cmsV j.commits]
theorem jnE_eq (j : Journal) : jnE j = [esV j.base, .int .i64 j.first, cmsV j.commits] := rfl
attribute [go_sem] jnE_eq
def keyN (r : Nat) : Bool := (decide (97 ≤ r) && decide (r ≤ 122)) || (decide (65 ≤ r) && decide (r ≤ 90)) || (decide (48 ≤ r) && decide (r ≤ 57)) || decide (r = 45)
def keyC (c : UInt8) : Bool := keyN c.toNat
theorem keyN_lt {r : Nat} (h : keyN r = true) : r < 128 := by
  simp [keyN] at h
  omega
theorem dec_lo (n b0 b1 b2 b3 : Nat) (h : b0 < 128) : Lib.decodeN n b0 b1 b2 b3 = (b0, 1) := by simp [Lib.decodeN, h]
theorem dec_hi (n b0 b1 b2 b3 : Nat) (h : ¬ b0 < 128) (hb : b0 < 256) : 128 ≤ (Lib.decodeN n b0 b1 b2 b3).1 := by
  unfold Lib.decodeN
  repeat' split
  all_goals first | omega | (simp only; omega)
theorem idx_from (s : ByteArray) : ∀ (f pos : Nat), s.size ≤ pos + f → (Lib.idxFuncFrom (fun r => !keyN r) true s f pos < 0 ↔ (s.data.toList.drop pos).all keyC = true)
  | 0, pos, h => by
    have : s.data.toList.drop pos = [] := List.drop_eq_nil_of_le (by simp; omega)
    simp [Lib.idxFuncFrom, this]
  | f + 1, pos, h => by
    unfold Lib.idxFuncFrom
    by_cases hp : pos < s.size
    · rw [if_pos hp]
      have hp' : pos < s.data.toList.length := by simpa using hp
      rw [List.drop_eq_getElem_cons hp', List.all_cons]
      have hg : s.get! pos = s.data.toList[pos] := by
        simp only [ByteArray.get!]
        rw [getElem!_pos s.data pos hp, Array.getElem_toList]
      have hd := Lib.decode_at s pos
      rw [hg] at hd
      by_cases hlo : (s.data.toList[pos]).toNat < 128
      · rw [dec_lo _ _ _ _ _ hlo] at hd
        rw [hd]
        simp only
        rw [show keyN (s.data.toList[pos]).toNat = keyC (s.data.toList[pos]) from rfl]
        cases hk : keyC (s.data.toList[pos]) with
        | true =>
          simp only [Bool.not_true, Bool.false_eq_true, if_false, Bool.true_and]
          exact idx_from s f (pos + 1) (by omega)
        | false => simp
      · have h1 := dec_hi (s.size - pos) _ (s.get! (pos + 1)).toNat (s.get! (pos + 2)).toNat (s.get! (pos + 3)).toNat hlo (UInt8.toNat_lt _)
        rw [← hd] at h1
        have h2 : keyN (Utf8.decode s pos).1 = false := by
          cases hk : keyN (Utf8.decode s pos).1 with
          | false => rfl
          | true => have := keyN_lt hk; omega
        have h3 : keyC (s.data.toList[pos]) = false := by
          show keyN (s.data.toList[pos]).toNat = false
          cases hk : keyN (s.data.toList[pos]).toNat with
          | false => rfl
          | true => have := keyN_lt hk; omega
        rw [h2, h3]
        simp
    · rw [if_neg hp]
      have : s.data.toList.drop pos = [] := List.drop_eq_nil_of_le (by simp; omega)
      simp [this]
theorem idx_key (s : List UInt8) : Lib.idxFunc (fun r => !keyN r) true ⟨s.toArray⟩ < 0 ↔ s.all keyC = true := by
  have := idx_from ⟨s.toArray⟩ (⟨s.toArray⟩ : ByteArray).size 0 (by omega)
  simpa [Lib.idxFunc] using this
def isKey (s : Str) : Bool := s.all keyC && (decide (1 ≤ s.length) && decide (s.length ≤ 20))
end Go.VM.Tryd
end
section
set_option maxHeartbeats 4000000
set_option linter.unusedVariables false
set_option linter.unusedSimpArgs false
open Go Go.VM Go.Proofs Tether
namespace Go.Proofs
open Go.Shelf
shelf_lay LaysGw.n15 Ggw 15 at Tryd as Tryd.laysIxF
end Go.Proofs
namespace Go.VM.Tryd
set_option maxRecDepth 100000
/-- of a rune -/
theorem okRune_c (W : World) (r : Nat) : Calls Tryd.prog 46 #[.int .i32 (r : Int)] W fun e w' => e = .returned (.bool (keyN r)) ∧ ∃ q, w' = W.drewN q := by
  have z1 : (97 : Int) ≤ (r : Int) ↔ 97 ≤ r := by omega
  have z2 : (r : Int) ≤ 122 ↔ r ≤ 122 := by omega
  have z3 : (65 : Int) ≤ (r : Int) ↔ 65 ≤ r := by omega
  have z4 : (r : Int) ≤ 90 ↔ r ≤ 90 := by omega
  have z5 : (48 : Int) ≤ (r : Int) ↔ 48 ≤ r := by omega
  have z6 : (r : Int) ≤ 57 ↔ r ≤ 57 := by omega
  have z7 : (r : Int) = 45 ↔ r = 45 := by omega
  by_cases h1 : 97 ≤ r <;> by_cases h2 : r ≤ 122 <;> by_cases h3 : 65 ≤ r <;> by_cases h4 : r ≤ 90 <;> by_cases h5 : 48 ≤ r <;> by_cases h6 : r ≤ 57 <;> by_cases h7 : r = 45
  all_goals first | (exfalso; omega) | skip
  all_goals
    go_enter Tryd.func46, Tryd.ntmps46
    go_wp2
    all_goals first | (exfalso; omega) | (go_ret; exact ⟨by first | (simp [keyN, h1, h2, h3, h4, h5, h6, h7]; done) | (simp [keyN, h1, h2, h3, h4, h5, h6, h7]; omega), 0, rfl⟩)
theorem noRune_c (w : World) (B : Nat) (hB : B < w.heap.size) (hc : w.cell? ⟨B, 0, none⟩ = some (.func (.func 46) #[] #[])) :
    PredAt Tryd.prog 48 #[.pointer (some ⟨B, 0, none⟩)] encR (fun r => !keyN r) w := fun W r hb => by
  have hc' : W.cell? ⟨B, 0, none⟩ = some (.func (.func 46) #[] #[]) := (hb.cell (p := ⟨B, 0, none⟩) hB).trans hc
  have hC := okRune_c
  unfold FnGives
  go_enter Tryd.func48, Tryd.ntmps48
  go_wp2_with (go_at_call 46; refine (hC _ r).mono ?_; rintro e w' ⟨rfl, q, rfl⟩)
  go_ret
  exact ⟨rfl, _, rfl⟩
theorem box1 {F : Fr} {c : Ctx} {H : Heap} (hs : SR F c H) {r : Nat} {x : V} (h : hget H r = .box [x]) {u : Value} (hu : VR c (.ptr r 0) u) :
    ∃ b v, u = .pointer (some ⟨b, 0, none⟩) ∧ b < c.w.heap.size ∧ c.w.cell? ⟨b, 0, none⟩ = some v ∧ VR c x v := by
  simp only [VR] at hu
  split at hu
  · rename_i b m hr
    obtain ⟨h1, h2⟩ := hs.get hr
    rw [h] at h2
    obtain ⟨_, g1, ⟨C, el, rfl, g2, g3, g4⟩, _⟩ := h2 trivial
    simp only [VRs] at g4
    obtain ⟨⟨v, g5, g6⟩, -⟩ := g4
    refine ⟨b, v, hu, (Array.getElem?_eq_some_iff.1 g1).1, ?_, g6⟩
    rw [cell_row g1]
    exact g5
  · exact hu.elim
theorem IsKey_c (s : Str) (hs : s.length < 4611686018427387904) : Meets Tryd.prog 32 [.str s] (.bool (isKey s)) [] := by
  refine meets_x (fn := Tryd.f32) Tryd.func32 rfl fb32 (by kernel_rfl) (Nat.le_of_ble_eq_true rfl) ?_
  refine cx_sr ?_
  simp only [go_sem]
  repeat first | (with_reducible refine side_d ?_ ?_; exact byD) | (with_reducible refine side_q ?_ ?_; exact byQ)
  refine cx_sr ?_
  simp only [go_sem]
  refine cx_sr ?_
  simp only [go_sem]
  intro t5 e5
  intro t9 e9
  intro t10 e10
  rw [bsel_and] at e10
  refine ⟨.int .i64 (Lib.idxFunc (fun r => !keyN r) true ⟨s.toArray⟩), fun hp => ?_, ?_⟩
  · refine cw_indexFunc fb47 (fun g lb eg p s w hp => Any.strings_IndexFunc Tryd.laysIxF g lb eg p s w hp) (enters_of Tryd.func48 (by kernel_rfl) rfl) (fun r => !keyN r) s (fun F c hs lb hsz hlb => ?_) ⟨rfl, rfl⟩
    simp only [VRs] at hlb
    obtain ⟨⟨u, g1, g2⟩, -⟩ := hlb
    obtain ⟨b, v, rfl, hb, hc, hv⟩ := box1 hs (x := .fn 46 [] []) rfl g2
    simp only [VR] at hv
    obtain ⟨us, ws, rfl, z1, z2, -, -⟩ := hv
    obtain rfl : us = #[] := Array.eq_empty_of_size_eq_zero z1
    obtain rfl : ws = #[] := Array.eq_empty_of_size_eq_zero z2
    have hl : lb = #[.pointer (some ⟨b, 0, none⟩)] := by
      apply Array.ext'
      apply List.ext_getElem?
      intro j
      rcases j with _ | j
      · simpa using g1
      · have : lb.toList.length = 1 := by simpa using hsz
        rw [List.getElem?_eq_none (by omega)]
        simp
    subst hl
    exact noRune_c c.w b hb hc
  simp only [go_sem]
  intro t15 e15
  intro t16 e16
  rw [bsel_and] at e16
  subst e5 e9 e10 e15 e16
  refine cx_ret ?_
  simp only [go_sem]
  refine finw_bool ?_
  have hk := idx_key s
  rw [isKey]
  by_cases h0 : s.all keyC = true
  · rw [h0]
    have := hk.2 h0
    have hne : s = [] ↔ s.length = 0 := by simp
    have h2 : ¬ s = [] ↔ 1 ≤ s.length := by rw [hne]; omega
    by_cases h3 : s = []
    · subst h3; simp
    · simp [this, h3, h2.1 h3]
      omega
  · have h1 : ¬ Lib.idxFunc (fun r => !keyN r) true ⟨s.toArray⟩ < 0 := fun e => h0 (hk.1 e)
    simp only [Bool.not_eq_true] at h0
    rw [h0]
    simp
    intro _ _
    omega
end Go.VM.Tryd
end
section
set_option maxHeartbeats 4000000
set_option linter.unusedVariables false
set_option linter.unusedSimpArgs false
open Go Go.VM Go.Proofs Tether
namespace Go.VM.Tryd
set_option maxRecDepth 100000
def kpE (j : Journal) (t : List Entry) : List V := [esV j.base, .int .i64 j.first, cmsV j.commits, esV t]
theorem kpE_eq (j : Journal) (t : List Entry) : kpE j t = [esV j.base, .int .i64 j.first, cmsV j.commits, esV t] := rfl
attribute [go_sem] kpE_eq
theorem All_v (l : List Entry) (cs : List Change) (v : Int) (okl : okE l) (ok : okCs cs) : Meets Tryd.prog 11 [esV l, csV cs, .int .i64 v]
    (.tup [esV (allP l cs v).1, .int .i64 (allP l cs v).2.1, .int .i64 (allP l cs v).2.2]) [] :=
  ((All_c l cs v okl ok).freeze 1 byC).wk (wks_refl _) byC rfl
theorem mSet_bo {m : List (Str × Bool)} {k : Str} {b : Bool} : mSet (mE boE m) k (.bool b) = mE boE (aSet m k b) := mSet_mE (enc := boE)
attribute [go_sem] mSet_bo
end Go.VM.Tryd
end
