import Derived.Test.YtbmgjdklflaboaaDoorEW3
import Derived.Test.YtbmgjdklflaboaaDoorEV5
import Derived.Lib.DecodeN
import Derived.Shelf.Lay
import Derived.Ground.GgwProg
section
set_option maxHeartbeats 4000000
set_option linter.unusedVariables false
set_option linter.unusedSimpArgs false
open Go Go.VM Go.Proofs Tether
namespace Tether
structure Journal where
  base : List Entry
  first : Int
  commits : List Commit
  deriving Inhabited, DecidableEq
end Tether
namespace Go.VM.Tryd
set_option maxRecDepth 100000
def jnE (j : Journal) : List V := [esV j.base, .int .i64 j.first, cmsV j.commits]
theorem jnE_eq (j : Journal) : jnE j = [esV j.base, .int .i64 j.first, cmsV j.commits] := rfl
attribute [go_sem] jnE_eq
def okJ (j : Journal) : Prop := okE j.base ∧ okMs j.commits
def keyN (r : Nat) : Bool := (decide (97 ≤ r) && decide (r ≤ 122)) || (decide (65 ≤ r) && decide (r ≤ 90)) || (decide (48 ≤ r) && decide (r ≤ 57)) || decide (r = 45)
def keyC (c : UInt8) : Bool := keyN c.toNat
theorem keyN_lt {r : Nat} (h : keyN r = true) : r < 128 := by
  simp [keyN] at h
  omega
theorem dec_lo (n b0 b1 b2 b3 : Nat) (h : b0 < 128) : Lib.decodeN n b0 b1 b2 b3 = (b0, 1) := by simp [Lib.decodeN, h]
theorem dec_hi (n b0 b1 b2 b3 : Nat) (h : ¬ b0 < 128) (hb : b0 < 256) : 128 ≤ (Lib.decodeN n b0 b1 b2 b3).1 := by
  unfold Lib.decodeN
  repeat' split
  all_goals first | omega | (simp only; omega)
theorem idx_from (s : ByteArray) : ∀ (f pos : Nat), s.size ≤ pos + f → (Lib.idxFuncFrom (fun r => !keyN r) true s f pos < 0 ↔ (s.data.toList.drop pos).all keyC = true)
  | 0, pos, h => by
    have : s.data.toList.drop pos = [] := List.drop_eq_nil_of_le (by simp; omega)
    simp [Lib.idxFuncFrom, this]
  | f + 1, pos, h => by
    unfold Lib.idxFuncFrom
    by_cases hp : pos < s.size
    · rw [if_pos hp]
      have hp' : pos < s.data.toList.length := by simpa using hp
      rw [List.drop_eq_getElem_cons hp', List.all_cons]
      have hg : s.get! pos = s.data.toList[pos] := by
        simp only [ByteArray.get!]
        rw [getElem!_pos s.data pos hp, Array.getElem_toList]
      have hd := Lib.decode_at s pos
      rw [hg] at hd
      by_cases hlo : (s.data.toList[pos]).toNat < 128
      · rw [dec_lo _ _ _ _ _ hlo] at hd
        rw [hd]
        simp only
        rw [show keyN (s.data.toList[pos]).toNat = keyC (s.data.toList[pos]) from rfl]
        cases hk : keyC (s.data.toList[pos]) with
        | true =>
          simp only [Bool.not_true, Bool.false_eq_true, if_false, Bool.true_and]
          exact idx_from s f (pos + 1) (by omega)
        | false => simp
      · have h1 := dec_hi (s.size - pos) _ (s.get! (pos + 1)).toNat (s.get! (pos + 2)).toNat (s.get! (pos + 3)).toNat hlo (UInt8.toNat_lt _)
        rw [← hd] at h1
        have h2 : keyN (Utf8.decode s pos).1 = false := by
          cases hk : keyN (Utf8.decode s pos).1 with
          | false => rfl
          | true => have := keyN_lt hk; omega
        have h3 : keyC (s.data.toList[pos]) = false := by
          show keyN (s.data.toList[pos]).toNat = false
          cases hk : keyN (s.data.toList[pos]).toNat with
          | false => rfl
          | true => have := keyN_lt hk; omega
        rw [h2, h3]
        simp
    · rw [if_neg hp]
      have : s.data.toList.drop pos = [] := List.drop_eq_nil_of_le (by simp; omega)
      simp [this]
theorem idx_key (s : List UInt8) : Lib.idxFunc (fun r => !keyN r) true ⟨s.toArray⟩ < 0 ↔ s.all keyC = true := by
  have := idx_from ⟨s.toArray⟩ (⟨s.toArray⟩ : ByteArray).size 0 (by omega)
  simpa [Lib.idxFunc] using this
def isKey (s : Str) : Bool := s.all keyC && (decide (1 ≤ s.length) && decide (s.length ≤ 20))
def comErr (n : Int) (c : Commit) : Int := if c.number ≠ n then 4 else if 1000000 < c.number then 3 else if isKey c.key = false ∨ c.changes = [] then 1 else 0
def opRun : List Entry → Int → List Commit → List Entry × Int
  | t, _, [] => (t, 0)
  | t, n, c :: r => if comErr n c ≠ 0 then ([], comErr n c) else if (allP t c.changes n).2.2 ≠ 0 then ([], (allP t c.changes n).2.2) else opRun (allP t c.changes n).1 (n + 1) r
def keysOf (l : List Commit) : List Str := l.map (·.key)
def openP (j : Journal) : List Entry × Int :=
  if checkT j.base ≠ 0 then ([], checkT j.base) else if j.first < 1 ∨ 1000000 < j.first then ([], 3) else if 30 < j.commits.length then ([], 2)
  else if (opRun j.base j.first j.commits).2 ≠ 0 then ([], (opRun j.base j.first j.commits).2) else if (keysOf j.commits).Nodup then ((opRun j.base j.first j.commits).1, 0) else ([], 6)
theorem opRun_err : ∀ (l : List Commit) (t : List Entry) (n : Int), (opRun t n l).2 ≠ 0 → (opRun t n l).1 = []
  | [], t, n, h => absurd rfl h
  | c :: r, t, n, h => by
    rw [opRun] at h ⊢
    split
    · rfl
    · split
      · rfl
      · rename_i h1 h2
        rw [if_neg h1, if_neg h2] at h
        exact opRun_err r _ _ h
theorem opRun_app : ∀ (a b : List Commit) (t : List Entry) (n : Int), opRun t n (a ++ b) = if (opRun t n a).2 ≠ 0 then opRun t n a else opRun (opRun t n a).1 (n + a.length) b
  | [], b, t, n => by simp [opRun]
  | c :: r, b, t, n => by
    rw [List.cons_append, opRun, opRun]
    by_cases h1 : comErr n c ≠ 0
    · rw [if_pos h1, if_pos h1, if_pos h1]
    · rw [if_neg h1, if_neg h1]
      by_cases h2 : (allP t c.changes n).2.2 ≠ 0
      · rw [if_pos h2, if_pos h2, if_pos h2]
      · rw [if_neg h2, if_neg h2, opRun_app r b]
        have : n + 1 + (r.length : Int) = n + ((c :: r).length : Nat) := by simp; omega
        rw [this]
theorem opRun_next {t u : List Entry} {n : Int} {l : List Commit} {i : Nat} (hi : i < l.length) (h : opRun t n (l.take i) = (u, 0)) :
    opRun t n (l.take (i + 1)) = if comErr (n + i) (l.getD i default) ≠ 0 then ([], comErr (n + i) (l.getD i default)) else if (allP u (l.getD i default).changes (n + i)).2.2 ≠ 0 then ([], (allP u (l.getD i default).changes (n + i)).2.2) else ((allP u (l.getD i default).changes (n + i)).1, 0) := by
  have hd : l.getD i default = l[i] := by simp [List.getD, hi]
  have hl : (l.take i).length = i := by simp; omega
  rw [List.take_add_one, List.getElem?_eq_getElem hi, opRun_app, h, hl, hd]
  simp only [Option.toList, ne_eq, not_true_eq_false, if_false, opRun]
theorem opRun_stop {t : List Entry} {n : Int} {l : List Commit} {i : Nat} {e : Int} (he : e ≠ 0) (h : opRun t n (l.take i) = ([], e)) : opRun t n l = ([], e) := by
  have := opRun_app (l.take i) (l.drop i) t n
  rw [List.take_append_drop, h, if_pos he] at this
  exact this
theorem opRun_pre {t : List Entry} {n : Int} {l : List Commit} (h : (opRun t n l).2 = 0) (i : Nat) : (opRun t n (l.take i)).2 = 0 := by
  by_cases h0 : (opRun t n (l.take i)).2 = 0
  · exact h0
  · have h1 := opRun_err _ _ _ h0
    have h2 := opRun_stop (t := t) (n := n) (l := l) (i := i) h0 (Prod.ext h1 rfl)
    rw [h2] at h
    exact absurd h h0
theorem opRun_full : ∀ (l : List Commit) (t : List Entry) (n : Int), FullT t → (opRun t n l).2 = 0 → FullT (opRun t n l).1
  | [], t, n, g, _ => g
  | c :: r, t, n, g, h => by
    rw [opRun] at h ⊢
    split at h
    · rename_i h1
      exact absurd h h1
    · split at h
      · rename_i h1 h2
        exact absurd h h2
      · rename_i h1 h2
        rw [if_neg h1, if_neg h2]
        refine opRun_full r _ _ ?_ h
        rw [allP_full g] at h2 ⊢
        exact allR_full g (by simpa using h2)
def kM (ks : List Str) : List (Str × Bool) := ks.foldl (fun m k => aSet m k true) []
theorem kM_next {ks : List Str} {i : Nat} (h : i < ks.length) : kM (ks.take (i + 1)) = aSet (kM (ks.take i)) (ks.getD i []) true := by
  have hd : ks.getD i [] = ks[i] := by simp [List.getD, h]
  rw [hd, List.take_add_one, List.getElem?_eq_getElem h]
  simp only [kM, List.foldl_append, Option.toList, List.foldl_cons, List.foldl_nil]
theorem aGet_aSet {m : List (Str × Bool)} {k q : Str} {v : Bool} : aGet (aSet m k v) q = if k = q then some v else aGet m q := by
  induction m with
  | nil => by_cases h : k = q <;> simp [aSet, aGet, keq, h]
  | cons x m ih =>
    by_cases h : x.1 = k
    · by_cases h2 : k = q
      · simp [aSet, aGet, keq, h, h2]
      · simp [aSet, aGet, keq, h, h2]
    · by_cases h2 : x.1 = q
      · have : ¬ k = q := fun e => h (h2.trans e.symm)
        have h3 : ¬ q = k := fun e => this e.symm
        subst h2
        simp [aSet, aGet, keq, this, h]
      · simp [aSet, aGet, keq, h, h2, ih]
theorem aSet_length {m : List (Str × Bool)} {k : Str} {v : Bool} : (aSet m k v).length = if (aGet m k).isSome = true then m.length else m.length + 1 := by
  induction m with
  | nil => simp [aSet, aGet]
  | cons x m ih =>
    by_cases h : x.1 = k
    · simp [aSet, aGet, keq, h]
    · simp only [aSet, aGet, keq, h, decide_false, cond_false, List.length_cons, ih]
      split <;> simp_all
theorem kM_get : ∀ (ks : List Str) (q : Str), (aGet (kM ks) q).isSome = true ↔ q ∈ ks := by
  intro ks q
  have key : ∀ (ks : List Str) (m : List (Str × Bool)), (aGet (ks.foldl (fun m k => aSet m k true) m) q).isSome = true ↔ q ∈ ks ∨ (aGet m q).isSome = true := by
    intro ks
    induction ks with
    | nil => simp
    | cons k ks ih =>
      intro m
      rw [List.foldl_cons, ih, aGet_aSet]
      by_cases h : k = q
      · simp [h]
      · have : ¬ q = k := fun e => h e.symm
        simp [h, this]
  have := key ks []
  simpa [kM, aGet] using this
theorem kM_snoc (ks : List Str) (k : Str) : kM (ks ++ [k]) = aSet (kM ks) k true := by simp [kM, List.foldl_append]
theorem kM_len : ∀ (n : Nat) (ks : List Str), ks.length = n → (kM ks).length ≤ ks.length ∧ ((kM ks).length = ks.length ↔ ks.Nodup)
  | 0, ks, h => by
    obtain rfl := List.length_eq_zero_iff.1 h
    simp [kM]
  | n + 1, ks, h => by
    have hne : ks ≠ [] := by rintro rfl; simp at h
    have hs := List.dropLast_concat_getLast hne
    have hl : ks.dropLast.length = n := by simp; omega
    obtain ⟨h1, h2⟩ := kM_len n ks.dropLast hl
    rw [← hs, kM_snoc, aSet_length]
    have hg := kM_get ks.dropLast (ks.getLast hne)
    have hn : (ks.dropLast ++ [ks.getLast hne]).Nodup ↔ ks.dropLast.Nodup ∧ ks.getLast hne ∉ ks.dropLast := by
      rw [List.nodup_append]
      constructor
      · rintro ⟨a, _, b⟩
        exact ⟨a, fun hm => b _ hm _ (by simp) rfl⟩
      · rintro ⟨a, b⟩
        refine ⟨a, by simp, fun x hx y hy e => ?_⟩
        rw [List.mem_singleton.1 hy] at e
        exact b (e ▸ hx)
    rw [hn, List.length_append, List.length_singleton]
    by_cases hm : ks.getLast hne ∈ ks.dropLast
    · rw [if_pos (hg.2 hm)]
      exact ⟨by omega, ⟨fun e => by omega, fun e => absurd hm e.2⟩⟩
    · rw [if_neg fun e => hm (hg.1 e)]
      exact ⟨by omega, ⟨fun e => ⟨h2.1 (by omega), hm⟩, fun e => by have := h2.2 e.1; omega⟩⟩
theorem kM_nodup (ks : List Str) : (kM ks).length < ks.length ↔ ¬ ks.Nodup := by
  obtain ⟨h1, h2⟩ := kM_len _ ks rfl
  rw [← h2]
  omega
end Go.VM.Tryd
end
section
set_option maxHeartbeats 4000000
set_option linter.unusedVariables false
set_option linter.unusedSimpArgs false
open Go Go.VM Go.Proofs Tether
namespace Go.Proofs
open Go.Shelf
shelf_lay LaysGw.n15 Ggw 15 at Tryd as Tryd.laysIxF
end Go.Proofs
namespace Go.VM.Tryd
set_option maxRecDepth 100000
theorem RIsKey_c (s : Str) (hs : s.length < 4611686018427387904) : Meets Tryd.prog 42 [.str s] (.bool (isKey s)) [] := by
  refine meets_x (fn := Tryd.f42) Tryd.func42 rfl fb42 (by kernel_rfl) (Nat.le_of_ble_eq_true rfl) ?_
  refine cx_sr ?_
  simp only [go_sem]
  repeat first | (with_reducible refine side_d ?_ ?_; exact byD) | (with_reducible refine side_q ?_ ?_; exact byQ)
  refine cx_seq ?_
  refine cx_sr ?_
  simp only [go_sem]
  refine cx_block ?_
  refine cx_loop0 (σ := Nat) (fun i => i ≤ s.length ∧ (s.take i).all keyC = true) (fun i => [⟨3, 0, [], .int .i64 (i : Nat)⟩]) [0] (fun i => s.length - i) 0 ⟨Nat.zero_le _, rfl⟩ (Nat.zero_le _) byC (fun i hI1 => ?_)
  simp only [go_sem]
  refine cx_seq ?_
  refine cx_sr ?_
  simp only [go_sem]
  repeat first | (with_reducible refine side_d ?_ ?_; exact byD) | (with_reducible refine side_q ?_ ?_; exact byQ)
  intro t8 e8
  subst e8
  refine cx_if _ rfl (fun h8 => ?_) (fun h8 => ?_)
  ·
   (try simp only [go_sem] at h8)
   have hd : s.getD i 0 = s[i] := by simp [List.getD, (by omega : i < s.length)]
   have htk : s.take (i + 1) = s.take i ++ [s.getD i 0] := by rw [hd, List.take_add_one, List.getElem?_eq_getElem (by omega)]; rfl
   refine cx_skip ?_
   (try simp only [go_sem])
   refine cx_seq (cx_block ?_)
   refine cx_sr ?_
   simp only [go_sem]
   repeat first | (with_reducible refine side_d ?_ ?_; exact byD) | (with_reducible refine side_q ?_ ?_; exact byQ)
   intro t13 e13
   refine cx_sr ?_
   simp only [go_sem]
   intro t15 e15
   intro t18 e18
   intro t19 e19
   rw [bsel_and] at e19
   intro t22 e22
   intro t25 e25
   intro t26 e26
   rw [bsel_and] at e26
   intro t27 e27
   rw [bsel_or] at e27
   intro t30 e30
   intro t33 e33
   intro t34 e34
   rw [bsel_and] at e34
   intro t35 e35
   rw [bsel_or] at e35
   intro t38 e38
   intro t39 e39
   rw [bsel_or] at e39
   intro t40 e40
   subst e15 e18 e19 e22 e25 e26 e27 e30 e33 e34 e35 e38 e39 e40
   refine cx_if _ rfl (fun h40 => ?_) (fun h40 => ?_)
   ·
    (try simp only [go_sem] at h40)
    refine cx_sr ?_
    simp only [go_sem]
    refine cx_ret ?_
    simp only [go_sem]
    refine finw_bool ?_
    have hk : keyC (s.getD i 0) = false := by
      simp only [keyC, keyN, Bool.or_eq_false_iff, Bool.and_eq_false_iff, decide_eq_false_iff_not]
      omega
    have : s.all keyC = false := by
      rw [← List.take_append_drop (i + 1) s, List.all_append, htk, List.all_append, List.all_cons, hk, Bool.false_and, Bool.and_false, Bool.false_and]
    rw [isKey, this, Bool.false_and]
   ·
    (try simp only [go_sem] at h40)
    refine cx_skip ?_
    (try simp only [go_sem])
    refine cx_region ?_
    simp only [go_sem]
    intro t10 e10
    (try replace e10 := w64 e10 (by omega) (by omega))
    have hk : keyC (s.getD i 0) = true := by
      simp only [keyC, keyN, Bool.or_eq_true, Bool.and_eq_true, decide_eq_true_eq]
      omega
    refine rnd_next (i + 1) ⟨by omega, by rw [htk, List.all_append, hI1.2, List.all_cons, hk]; rfl⟩ (by first | omega | (dsimp only; omega)) byC
  ·
   (try simp only [go_sem] at h8)
   refine cx_exit ?_
   simp only [go_sem]
   refine cx_sr ?_
   simp only [go_sem]
   intro t43 e43
   intro t47 e47
   intro t48 e48
   rw [bsel_and] at e48
   subst e43 e47 e48
   refine cx_ret ?_
   simp only [go_sem]
   refine finw_bool ?_
   have hi : s.take i = s := List.take_of_length_le (by omega)
   have := hI1.2
   rw [hi] at this
   rw [isKey, this, Bool.true_and]
   congr 1 <;> (congr 1; apply propext; omega)
/-- of a rune -/
theorem okRune_c (W : World) (r : Nat) : Calls Tryd.prog 56 #[.int .i32 (r : Int)] W fun e w' => e = .returned (.bool (keyN r)) ∧ ∃ q, w' = W.drewN q := by
  have z1 : (97 : Int) ≤ (r : Int) ↔ 97 ≤ r := by omega
  have z2 : (r : Int) ≤ 122 ↔ r ≤ 122 := by omega
  have z3 : (65 : Int) ≤ (r : Int) ↔ 65 ≤ r := by omega
  have z4 : (r : Int) ≤ 90 ↔ r ≤ 90 := by omega
  have z5 : (48 : Int) ≤ (r : Int) ↔ 48 ≤ r := by omega
  have z6 : (r : Int) ≤ 57 ↔ r ≤ 57 := by omega
  have z7 : (r : Int) = 45 ↔ r = 45 := by omega
  by_cases h1 : 97 ≤ r <;> by_cases h2 : r ≤ 122 <;> by_cases h3 : 65 ≤ r <;> by_cases h4 : r ≤ 90 <;> by_cases h5 : 48 ≤ r <;> by_cases h6 : r ≤ 57 <;> by_cases h7 : r = 45
  all_goals first | (exfalso; omega) | skip
  all_goals
    go_enter Tryd.func56, Tryd.ntmps56
    go_wp2
    all_goals first | (exfalso; omega) | (go_ret; exact ⟨by first | (simp [keyN, h1, h2, h3, h4, h5, h6, h7]; done) | (simp [keyN, h1, h2, h3, h4, h5, h6, h7]; omega), 0, rfl⟩)
theorem noRune_c (w : World) (B : Nat) (hB : B < w.heap.size) (hc : w.cell? ⟨B, 0, none⟩ = some (.func (.func 56) #[] #[])) :
    PredAt Tryd.prog 58 #[.pointer (some ⟨B, 0, none⟩)] encR (fun r => !keyN r) w := fun W r hb => by
  have hc' : W.cell? ⟨B, 0, none⟩ = some (.func (.func 56) #[] #[]) := (hb.cell (p := ⟨B, 0, none⟩) hB).trans hc
  have hC := okRune_c
  unfold FnGives
  go_enter Tryd.func58, Tryd.ntmps58
  go_wp2_with (go_at_call 56; refine (hC _ r).mono ?_; rintro e w' ⟨rfl, q, rfl⟩)
  go_ret
  exact ⟨rfl, _, rfl⟩
theorem box1 {F : Fr} {c : Ctx} {H : Heap} (hs : SR F c H) {r : Nat} {x : V} (h : hget H r = .box [x]) {u : Value} (hu : VR c (.ptr r 0) u) :
    ∃ b v, u = .pointer (some ⟨b, 0, none⟩) ∧ b < c.w.heap.size ∧ c.w.cell? ⟨b, 0, none⟩ = some v ∧ VR c x v := by
  simp only [VR] at hu
  split at hu
  · rename_i b m hr
    obtain ⟨h1, h2⟩ := hs.get hr
    rw [h] at h2
    obtain ⟨_, g1, ⟨C, el, rfl, g2, g3, g4⟩, _⟩ := h2 trivial
    simp only [VRs] at g4
    obtain ⟨⟨v, g5, g6⟩, -⟩ := g4
    refine ⟨b, v, hu, (Array.getElem?_eq_some_iff.1 g1).1, ?_, g6⟩
    rw [cell_row g1]
    exact g5
  · exact hu.elim
theorem IsKey_c (s : Str) (hs : s.length < 4611686018427387904) : Meets Tryd.prog 34 [.str s] (.bool (isKey s)) [] := by
  refine meets_x (fn := Tryd.f34) Tryd.func34 rfl fb34 (by kernel_rfl) (Nat.le_of_ble_eq_true rfl) ?_
  refine cx_sr ?_
  simp only [go_sem]
  repeat first | (with_reducible refine side_d ?_ ?_; exact byD) | (with_reducible refine side_q ?_ ?_; exact byQ)
  refine cx_sr ?_
  simp only [go_sem]
  refine cx_sr ?_
  simp only [go_sem]
  intro t5 e5
  intro t9 e9
  intro t10 e10
  rw [bsel_and] at e10
  refine ⟨.int .i64 (Lib.idxFunc (fun r => !keyN r) true ⟨s.toArray⟩), fun hp => ?_, ?_⟩
  · refine cw_indexFunc fb57 (fun g lb eg p s w hp => Any.strings_IndexFunc Tryd.laysIxF g lb eg p s w hp) (enters_of Tryd.func58 (by kernel_rfl) rfl) (fun r => !keyN r) s (fun F c hs lb hsz hlb => ?_) ⟨rfl, rfl⟩
    simp only [VRs] at hlb
    obtain ⟨⟨u, g1, g2⟩, -⟩ := hlb
    obtain ⟨b, v, rfl, hb, hc, hv⟩ := box1 hs (x := .fn 56 [] []) rfl g2
    simp only [VR] at hv
    obtain ⟨us, ws, rfl, z1, z2, -, -⟩ := hv
    obtain rfl : us = #[] := Array.eq_empty_of_size_eq_zero z1
    obtain rfl : ws = #[] := Array.eq_empty_of_size_eq_zero z2
    have hl : lb = #[.pointer (some ⟨b, 0, none⟩)] := by
      apply Array.ext'
      apply List.ext_getElem?
      intro j
      rcases j with _ | j
      · simpa using g1
      · have : lb.toList.length = 1 := by simpa using hsz
        rw [List.getElem?_eq_none (by omega)]
        simp
    subst hl
    exact noRune_c c.w b hb hc
  simp only [go_sem]
  intro t15 e15
  intro t16 e16
  rw [bsel_and] at e16
  subst e5 e9 e10 e15 e16
  refine cx_ret ?_
  simp only [go_sem]
  refine finw_bool ?_
  have hk := idx_key s
  rw [isKey]
  by_cases h0 : s.all keyC = true
  · rw [h0]
    have := hk.2 h0
    have hne : s = [] ↔ s.length = 0 := by simp
    have h2 : ¬ s = [] ↔ 1 ≤ s.length := by rw [hne]; omega
    by_cases h3 : s = []
    · subst h3; simp
    · simp [this, h3, h2.1 h3]
      omega
  · have h1 : ¬ Lib.idxFunc (fun r => !keyN r) true ⟨s.toArray⟩ < 0 := fun e => h0 (hk.1 e)
    simp only [Bool.not_eq_true] at h0
    rw [h0]
    simp
    intro _ _
    omega
end Go.VM.Tryd
end
section
set_option maxHeartbeats 4000000
set_option linter.unusedVariables false
set_option linter.unusedSimpArgs false
open Go Go.VM Go.Proofs Tether
namespace Go.VM.Tryd
set_option maxRecDepth 100000
def kpE (j : Journal) (t : List Entry) : List V := [esV j.base, .int .i64 j.first, cmsV j.commits, esV t]
theorem kpE_eq (j : Journal) (t : List Entry) : kpE j t = [esV j.base, .int .i64 j.first, cmsV j.commits, esV t] := rfl
attribute [go_sem] kpE_eq
theorem last_c (j : Journal) (t : List Entry) (h1 : -1000000000 ≤ j.first) (h2 : j.first ≤ 1000000000) (hl : j.commits.length ≤ 1048576) :
    Meets Tryd.prog 39 [.iptr (kpE j t) 0] (.int .i64 (j.first + j.commits.length - 1)) [] := by
  refine meets_x (fn := Tryd.f39) Tryd.func39 rfl fb39 (by kernel_rfl) (Nat.le_of_ble_eq_true rfl) ?_
  refine cx_sr ?_
  simp only [go_sem]
  repeat first | (with_reducible refine side_d ?_ ?_; exact byD) | (with_reducible refine side_q ?_ ?_; exact byQ)
  refine cx_seq (cx_draw mixed [] (.first 0 (.first 1 (.first 2 (.first 3 (.first 4 (.first 5 (.first 6 (.first 7 (.first 8 (.first 9 (.first 10 (.first 11 (.first 12 (.first 13 (.done))))))))))))))) (by kernel_rfl) ?_)
  simp only [go_sem]
  intro t14 e14
  (try replace e14 := w64 e14 (by omega) (by omega))
  intro t15 e15
  (try replace e15 := w64 e15 (by omega) (by omega))
  refine cx_ret ?_
  simp only [go_sem]
  exact finw_int (by omega)
/-- what a journal's opening goes by: an error, and how far it is right -/
theorem open_base {j : Journal} (h : ¬ checkT j.base = 0) : openP j = ([], checkT j.base) := by rw [openP, if_pos h]
theorem open_first {j : Journal} (h : checkT j.base = 0) (h1 : j.first < 1 ∨ 1000000 < j.first) : openP j = ([], 3) := by rw [openP, if_neg (by simpa using h), if_pos h1]
theorem open_many {j : Journal} (h : checkT j.base = 0) (h1 : ¬ (j.first < 1 ∨ 1000000 < j.first)) (h2 : 30 < j.commits.length) : openP j = ([], 2) := by rw [openP, if_neg (by simpa using h), if_neg h1, if_pos h2]
theorem open_stop {j : Journal} (h : checkT j.base = 0) (h1 : ¬ (j.first < 1 ∨ 1000000 < j.first)) (h2 : ¬ 30 < j.commits.length) {e : Int} (he : e ≠ 0) (h3 : opRun j.base j.first j.commits = ([], e)) : openP j = ([], e) := by
  rw [openP, if_neg (by simpa using h), if_neg h1, if_neg h2, h3, if_pos he]
theorem open_end {j : Journal} (h : checkT j.base = 0) (h1 : ¬ (j.first < 1 ∨ 1000000 < j.first)) (h2 : ¬ 30 < j.commits.length) {t : List Entry} (h3 : opRun j.base j.first j.commits = (t, 0)) :
    openP j = if (keysOf j.commits).Nodup then (t, 0) else ([], 6) := by
  rw [openP, if_neg (by simpa using h), if_neg h1, if_neg h2, h3, if_neg (by simp)]
theorem keys_getD (l : List Commit) (i : Nat) : (keysOf l).getD i [] = (l.getD i default).key := by
  unfold keysOf
  simp only [List.getD, List.getElem?_map]
  cases l[i]? <;> rfl
theorem keys_length (l : List Commit) : (keysOf l).length = l.length := by simp [keysOf]
theorem All_v (l : List Entry) (cs : List Change) (v : Int) (okl : okE l) (ok : okCs cs) : Meets Tryd.prog 40 [esV l, csV cs, .int .i64 v]
    (.tup [esV (allP l cs v).1, .int .i64 (allP l cs v).2.1, .int .i64 (allP l cs v).2.2]) [] :=
  ((All_c l cs v okl ok).freeze 1 byC).wk (wks_refl _) byC rfl
theorem mSet_bo {m : List (Str × Bool)} {k : Str} {b : Bool} : mSet (mE boE m) k (.bool b) = mE boE (aSet m k b) := mSet_mE (enc := boE)
attribute [go_sem] mSet_bo
theorem Open_c (j : Journal) (ok : okJ j) (v : V) (H : Heap) (h0 : (openP j).2 = 0 → v = .tup [.ptr 0 0, .int .i64 0] ∧ H = [.box (kpE j (openP j).1)]) (h1 : (openP j).2 ≠ 0 → v = .tup [.bad, .int .i64 (openP j).2] ∧ H = []) :
    Meets Tryd.prog 33 [.agg (jnE j)] v H := by
  refine meets_x (fn := Tryd.f33) Tryd.func33 rfl fb33 (by kernel_rfl) (Nat.le_of_ble_eq_true rfl) ?_
  have hbl := ok.1.1
  have hcl := ok.2.1
  refine cx_sr ?_
  simp only [go_sem]
  repeat first | (with_reducible refine side_d ?_ ?_; exact byD) | (with_reducible refine side_q ?_ ?_; exact byQ)
  refine cx_seq ?_
  refine cx_sr ?_
  simp only [go_sem]
  refine cw_m (TCheck_c j.base ok.1) byW byT ?_
  simp only [go_sem]
  refine cx_sr ?_
  simp only [go_sem]
  intro t16 e16
  subst e16
  refine cx_if _ rfl (fun h16 => ?_) (fun h16 => ?_)
  ·
   (try simp only [go_sem] at h16)
   refine cx_sr ?_
   simp only [go_sem]
   refine cx_ret ?_
   simp only [go_sem]
   have h : ¬ checkT j.base = 0 := by simpa using h16
   rw [open_base h] at h0 h1
   obtain ⟨rfl, rfl⟩ := h1 h
   exact finx_of 1 [] rfl byC byC byC byC
  ·
   (try simp only [go_sem] at h16)
   have hc0 : checkT j.base = 0 := by simpa using h16
   refine cx_skip ?_
   (try simp only [go_sem])
   refine cx_seq (cx_block ?_)
   refine cx_sr ?_
   simp only [go_sem]
   intro t21 e21
   intro t25 e25
   intro t26 e26
   rw [bsel_or] at e26
   subst e21 e25 e26
   refine cx_if _ rfl (fun h18 => ?_) (fun h18 => ?_)
   ·
    (try simp only [go_sem] at h18)
    refine cx_sr ?_
    simp only [go_sem]
    refine cx_ret ?_
    simp only [go_sem]
    rw [open_first hc0 (by omega)] at h0 h1
    obtain ⟨rfl, rfl⟩ := h1 (by decide)
    exact finx_of 1 [] rfl byC byC byC byC
   ·
    (try simp only [go_sem] at h18)
    have hf0 : ¬ (j.first < 1 ∨ 1000000 < j.first) := by omega
    refine cx_sr ?_
    simp only [go_sem]
    intro t31 e31
    subst e31
    refine cx_if _ rfl (fun h27 => ?_) (fun h27 => ?_)
    ·
     (try simp only [go_sem] at h27)
     refine cx_sr ?_
     simp only [go_sem]
     refine cx_ret ?_
     simp only [go_sem]
     rw [open_many hc0 hf0 (by omega)] at h0 h1
     obtain ⟨rfl, rfl⟩ := h1 (by decide)
     exact finx_of 1 [] rfl byC byC byC byC
    ·
     (try simp only [go_sem] at h27)
     have hm0 : ¬ 30 < j.commits.length := by omega
     have hkl := keys_length j.commits
     refine cx_skip ?_
     (try simp only [go_sem])
     refine cx_sr ?_
     simp only [go_sem]
     refine cx_sr ?_
     simp only [go_sem]
     refine cx_seq ?_
     refine cx_sr ?_
     simp only [go_sem]
     refine cx_block ?_
     refine cx_loopk (σ := Nat × List Entry) (fun s => s.1 ≤ j.commits.length ∧ okE s.2 ∧ opRun j.base j.first (j.commits.take s.1) = (s.2, 0)) (fun s => [⟨41, 0, [], .int .i64 (s.1 : Nat)⟩]) [1, 5, 6, 39, 40] (fun s => [.box (jnE j), .box (kpE j s.2), .mp (mE boE (kM ((keysOf j.commits).take s.1)))]) (fun s => j.commits.length - s.1) (0, j.base) ⟨Nat.zero_le _, ok.1, rfl⟩ (fun _ => (Nat.zero_le _)) byC (fun s hI1 => ?_)
     simp only [go_sem]
     refine cx_sr ?_
     simp only [go_sem]
     repeat first | (with_reducible refine side_d ?_ ?_; exact byD) | (with_reducible refine side_q ?_ ?_; exact byQ)
     intro t42 e42
     subst e42
     refine cx_seq ?_
     refine cx_if _ rfl (fun h42 => ?_) (fun h42 => ?_)
     ·
      (try simp only [go_sem] at h42)
      have hcc := ok.2.2 _ (getD_mem (l := j.commits) (i := s.1) (d := default) (by omega))
      have hon := opRun_next (l := j.commits) (i := s.1) (by omega) hI1.2.2
      have hal := allP_len s.2 (j.commits.getD s.1 default).changes (j.commits.getD s.1 default).number
      have hsl := hI1.2.1.1
      have hkn := kM_next (ks := keysOf j.commits) (i := s.1) (by omega)
      rw [keys_getD] at hkn
      refine cx_skip ?_
      (try simp only [go_sem])
      refine cx_seq (cx_block ?_)
      refine cx_sr ?_
      simp only [go_sem]
      repeat first | (with_reducible refine side_d ?_ ?_; exact byD) | (with_reducible refine side_q ?_ ?_; exact byQ)
      refine cx_seq (cx_block ?_)
      refine cx_sr ?_
      simp only [go_sem]
      intro t52 e52
      (try replace e52 := w64 e52 (by omega) (by omega))
      intro t53 e53
      subst e53
      refine cx_if _ rfl (fun h46 => ?_) (fun h46 => ?_)
      ·
       (try simp only [go_sem] at h46)
       refine cx_sr ?_
       simp only [go_sem]
       refine cx_ret ?_
       simp only [go_sem]
       have hx : comErr (j.first + s.1) (j.commits.getD s.1 default) = 4 := by rw [comErr, if_pos (by omega)]
       rw [if_pos (by rw [hx]; decide), hx] at hon
       rw [open_stop hc0 hf0 hm0 (by decide) (opRun_stop (by decide) hon)] at h0 h1
       obtain ⟨rfl, rfl⟩ := h1 (by decide)
       exact finx_of 1 [] rfl byC byC byC byC
      ·
       (try simp only [go_sem] at h46)
       refine cx_sr ?_
       simp only [go_sem]
       intro t57 e57
       subst e57
       refine cx_if _ rfl (fun h54 => ?_) (fun h54 => ?_)
       ·
        (try simp only [go_sem] at h54)
        refine cx_sr ?_
        simp only [go_sem]
        refine cx_ret ?_
        simp only [go_sem]
        have hx : comErr (j.first + s.1) (j.commits.getD s.1 default) = 3 := by rw [comErr, if_neg (by omega), if_pos (by omega)]
        rw [if_pos (by rw [hx]; decide), hx] at hon
        rw [open_stop hc0 hf0 hm0 (by decide) (opRun_stop (by decide) hon)] at h0 h1
        obtain ⟨rfl, rfl⟩ := h1 (by decide)
        exact finx_of 1 [] rfl byC byC byC byC
       ·
        (try simp only [go_sem] at h54)
        refine cx_seq ?_
        refine cx_sr ?_
        simp only [go_sem]
        refine cw_m (IsKey_c (j.commits.getD s.1 default).key (by have := hcc.1; omega)) byW byT ?_
        simp only [go_sem]
        intro t62 e62
        subst e62
        refine cx_if _ rfl (fun h58 => ?_) (fun h58 => ?_)
        ·
         (try simp only [go_sem] at h58)
         refine cx_skip ?_
         (try simp only [go_sem])
         refine cx_if _ rfl (fun h58b => ?_) (fun h58b => no_if h58b)
         refine cx_sr ?_
         simp only [go_sem]
         refine cx_ret ?_
         simp only [go_sem]
         have hx : comErr (j.first + s.1) (j.commits.getD s.1 default) = 1 := by rw [comErr, if_neg (by omega), if_neg (by omega), if_pos (by left; simpa using h58)]
         rw [if_pos (by rw [hx]; decide), hx] at hon
         rw [open_stop hc0 hf0 hm0 (by decide) (opRun_stop (by decide) hon)] at h0 h1
         obtain ⟨rfl, rfl⟩ := h1 (by decide)
         exact finx_of 1 [] rfl byC byC byC byC
        ·
         (try simp only [go_sem] at h58)
         refine cx_region ?_
         simp only [go_sem]
         intro t66 e66
         subst e66
         refine cx_if _ rfl (fun h58b => ?_) (fun h58b => ?_)
         ·
          (try simp only [go_sem] at h58b)
          refine cx_sr ?_
          simp only [go_sem]
          refine cx_ret ?_
          simp only [go_sem]
          have hx : comErr (j.first + s.1) (j.commits.getD s.1 default) = 1 := by rw [comErr, if_neg (by omega), if_neg (by omega), if_pos (by right; exact List.length_eq_zero_iff.1 (by omega))]
          rw [if_pos (by rw [hx]; decide), hx] at hon
          rw [open_stop hc0 hf0 hm0 (by decide) (opRun_stop (by decide) hon)] at h0 h1
          obtain ⟨rfl, rfl⟩ := h1 (by decide)
          exact finx_of 1 [] rfl byC byC byC byC
         ·
          (try simp only [go_sem] at h58b)
          have hx : comErr (j.first + s.1) (j.commits.getD s.1 default) = 0 := by
            rw [comErr, if_neg (by omega), if_neg (by omega), if_neg]
            rintro (h | h)
            · rw [h] at h58; simp at h58
            · rw [h] at h58b; simp at h58b
          rw [if_neg (by simpa using hx), ← show (j.commits.getD s.1 default).number = j.first + s.1 by omega] at hon
          refine cx_skip ?_
          (try simp only [go_sem])
          refine cx_seq (cx_draw mixed [] (.first 0 (.first 1 (.first 2 (.first 3 (.first 4 (.first 5 (.first 6 (.first 7 (.one 8 (.first 9 (.first 10 (.first 11 (.first 12 (.first 13 (.first 14 (.first 15 (.done))))))))))))))))) (by kernel_rfl) ?_)
          simp only [go_sem]
          refine cwE_m (All_v s.2 (j.commits.getD s.1 default).changes (j.commits.getD s.1 default).number hI1.2.1 hcc.2) byW byT ?_
          simp only [go_sem]
          refine cx_seq ?_
          refine cx_sr ?_
          simp only [go_sem]
          intro t81 e81
          subst e81
          refine cx_if _ rfl (fun h81 => ?_) (fun h81 => ?_)
          ·
           (try simp only [go_sem] at h81)
           refine cx_sr ?_
           simp only [go_sem]
           refine cx_ret ?_
           simp only [go_sem]
           have h : (allP s.2 (j.commits.getD s.1 default).changes (j.commits.getD s.1 default).number).2.2 ≠ 0 := by simpa using h81
           rw [if_pos h] at hon
           rw [open_stop hc0 hf0 hm0 h (opRun_stop h hon)] at h0 h1
           obtain ⟨rfl, rfl⟩ := h1 h
           exact finx_of 1 [] rfl byC byC byC byC
          ·
           (try simp only [go_sem] at h81)
           refine cx_skip ?_
           (try simp only [go_sem])
           refine cx_sr ?_
           simp only [go_sem]
           refine cx_region ?_
           simp only [go_sem]
           repeat first | (with_reducible refine side_d ?_ ?_; exact byD) | (with_reducible refine side_q ?_ ?_; exact byQ)
           refine cx_region ?_
           simp only [go_sem]
           intro t90 e90
           (try replace e90 := w64 e90 (by omega) (by omega))
           have h : (allP s.2 (j.commits.getD s.1 default).changes (j.commits.getD s.1 default).number).2.2 = 0 := by simpa using h81
           rw [if_neg (by simpa using h)] at hon
           refine rnd_nextr (s.1 + 1, (allP s.2 (j.commits.getD s.1 default).changes (j.commits.getD s.1 default).number).1) [0, 1, 2] ⟨by dsimp only; omega, (allP_good hI1.2.1 hcc.2 h).ok, hon⟩ (by first | omega | (dsimp only; omega)) ⟨rfl, rfl, ?_, ?_⟩
           · exact byC
           · dsimp only
             rw [hkn]
             exact byC
     ·
      (try simp only [go_sem] at h42)
      have hi1 : s.1 = j.commits.length := by omega
      have hrun : opRun j.base j.first j.commits = (s.2, 0) := by
        have := hI1.2.2
        rwa [hi1, List.take_length] at this
      have htk : (keysOf j.commits).take s.1 = keysOf j.commits := List.take_of_length_le (by omega)
      have hop := open_end hc0 hf0 hm0 hrun
      have hnd := kM_nodup (keysOf j.commits)
      rw [htk]
      refine cx_exit ?_
      simp only [go_sem]
      refine cx_seq ?_
      refine cx_sr ?_
      simp only [go_sem]
      intro t96 e96
      subst e96
      refine cx_if _ rfl (fun h96 => ?_) (fun h96 => ?_)
      ·
       (try simp only [go_sem] at h96)
       refine cx_sr ?_
       simp only [go_sem]
       refine cx_ret ?_
       simp only [go_sem]
       rw [if_neg (hnd.1 (by omega))] at hop
       rw [hop] at h0 h1
       obtain ⟨rfl, rfl⟩ := h1 (by decide)
       exact finx_of 1 [] rfl byC byC byC byC
      ·
       (try simp only [go_sem] at h96)
       refine cx_skip ?_
       (try simp only [go_sem])
       refine cx_sr ?_
       simp only [go_sem]
       refine cx_ret ?_
       simp only [go_sem]
       rw [if_pos (Classical.not_not.1 fun e => h96 (by have := hnd.2 e; omega))] at hop
       rw [hop] at h0 h1
       obtain ⟨rfl, rfl⟩ := h0 rfl
       exact finx_of 1 [1] rfl byC byC byC byC
end Go.VM.Tryd
end
section
set_option maxHeartbeats 4000000
set_option linter.unusedVariables false
set_option linter.unusedSimpArgs false
open Go Go.VM Go.Proofs Tether
namespace Go.VM.Tryd
set_option maxRecDepth 100000
def treeAt (j : Journal) (i : Nat) : List Entry := (opRun j.base j.first (j.commits.take i)).1
def treesTo (j : Journal) (i : Nat) : List (List Entry) := (List.range (i + 1)).map (treeAt j)
def treesP (j : Journal) : List (List Entry) := if (openP j).2 = 0 then treesTo j j.commits.length else []
theorem treesTo_next (j : Journal) (i : Nat) : treesTo j (i + 1) = treesTo j i ++ [treeAt j (i + 1)] := by
  rw [treesTo, List.range_succ, List.map_append]
  rfl
theorem treesTo_len (j : Journal) (i : Nat) : (treesTo j i).length = i + 1 := by simp [treesTo]
theorem nodup_of {l : List Commit} (h : ∀ b, b < l.length → ∀ a, a < b → (l.getD a default).key ≠ (l.getD b default).key) : (keysOf l).Nodup := by
  unfold List.Nodup
  rw [List.pairwise_iff_getElem]
  intro a b ha hb hab
  have h1 := h b (by simpa [keysOf] using hb) a hab
  rw [← keys_getD, ← keys_getD] at h1
  simpa [List.getD, ha, hb] using h1
theorem nodup_not {l : List Commit} {a b : Nat} (hb : b < l.length) (hab : a < b) (h : (l.getD a default).key = (l.getD b default).key) : ¬ (keysOf l).Nodup := by
  intro hn
  unfold List.Nodup at hn
  rw [List.pairwise_iff_getElem] at hn
  have hl : (keysOf l).length = l.length := keys_length l
  have := hn a b (by omega) (by omega) hab
  rw [← keys_getD, ← keys_getD] at h
  exact this (by simpa [List.getD, show a < (keysOf l).length by omega, show b < (keysOf l).length by omega] using h)
theorem OpenJournal_c (j : Journal) (ok : okJ j) : Meets Tryd.prog 29 [.agg (jnE j)] (.tup [lstV 1 treeE [] (treesP j), .int .i64 (openP j).2]) [] := by
  refine meets_x (fn := Tryd.f29) Tryd.func29 rfl fb29 (by kernel_rfl) (Nat.le_of_ble_eq_true rfl) ?_
  have hbl := ok.1.1
  have hcl := ok.2.1
  have hbad : (openP j).2 ≠ 0 → treesP j = [] := fun h => by rw [treesP, if_neg h]
  refine cx_sr ?_
  simp only [go_sem]
  repeat first | (with_reducible refine side_d ?_ ?_; exact byD) | (with_reducible refine side_q ?_ ?_; exact byQ)
  refine cx_sr ?_
  simp only [go_sem]
  refine cw_m (RCheckTree_c j.base ok.1) byW byT ?_
  simp only [go_sem]
  refine cx_seq ?_
  refine cx_sr ?_
  simp only [go_sem]
  intro t15 e15
  subst e15
  refine cx_if _ rfl (fun h15 => ?_) (fun h15 => ?_)
  ·
   (try simp only [go_sem] at h15)
   refine cx_sr ?_
   simp only [go_sem]
   refine cx_ret ?_
   simp only [go_sem]
   have h : ¬ checkT j.base = 0 := by simpa using h15
   have ho := open_base h
   rw [hbad (by rw [ho]; exact h), ho]
   exact finx_of 1 [] rfl byC byC byC byC
  ·
   (try simp only [go_sem] at h15)
   have hc0 : checkT j.base = 0 := by simpa using h15
   refine cx_skip ?_
   (try simp only [go_sem])
   refine cx_seq ?_
   refine cx_sr ?_
   simp only [go_sem]
   refine cw_m (RIsVersion_c j.first) byW byT ?_
   simp only [go_sem]
   intro t20 e20
   subst e20
   refine cx_if _ rfl (fun h20 => ?_) (fun h20 => ?_)
   ·
    (try simp only [go_sem] at h20)
    refine cx_sr ?_
    simp only [go_sem]
    refine cx_ret ?_
    simp only [go_sem]
    have ho := open_first (j := j) hc0 (by omega)
    rw [hbad (by rw [ho]; decide), ho]
    exact finx_of 1 [] rfl byC byC byC byC
   ·
    (try simp only [go_sem] at h20)
    have hf0 : ¬ (j.first < 1 ∨ 1000000 < j.first) := by omega
    refine cx_skip ?_
    (try simp only [go_sem])
    refine cx_seq ?_
    refine cx_sr ?_
    simp only [go_sem]
    intro t24 e24
    subst e24
    refine cx_if _ rfl (fun h24 => ?_) (fun h24 => ?_)
    ·
     (try simp only [go_sem] at h24)
     refine cx_sr ?_
     simp only [go_sem]
     refine cx_ret ?_
     simp only [go_sem]
     have ho := open_many (j := j) hc0 hf0 (by omega)
     rw [hbad (by rw [ho]; decide), ho]
     exact finx_of 1 [] rfl byC byC byC byC
    ·
     (try simp only [go_sem] at h24)
     have hm0 : ¬ 30 < j.commits.length := by omega
     refine cx_skip ?_
     (try simp only [go_sem])
     refine cx_sr ?_
     simp only [go_sem]
     refine cx_sr ?_
     simp only [go_sem]
     refine cx_seq ?_
     refine cx_sr ?_
     simp only [go_sem]
     refine cx_block ?_
     refine cx_loopk (σ := Nat × List Entry) (fun s => s.1 ≤ j.commits.length ∧ okE s.2 ∧ FullT s.2 ∧ opRun j.base j.first (j.commits.take s.1) = (s.2, 0)) (fun s => [⟨7, 0, [], .int .i64 (s.1 : Nat)⟩, ⟨6, 0, [], esV s.2⟩, ⟨5, 0, [], .own none 1 1 0 (treesTo j s.1).length .loose⟩]) [1] (fun s => [.box (jnE j), .arr 1 (treesTo j s.1).length (En treeE [] (treesTo j s.1))]) (fun s => j.commits.length - s.1) (0, j.base) ⟨Nat.zero_le _, ok.1, checkT_iff.1 hc0, rfl⟩ (fun _ => (Nat.zero_le _)) (by simp only [go_sem, wk, wks, wkB, wkH, subw, subEw, hprew, ltb, subr, subEr]; rw [show treesTo j 0 = [j.base] from rfl]; refine ⟨⟨rfl, rfl⟩, Nat.le_refl _, fun i hi => ?_⟩; obtain rfl : i = 0 := (by simpa using hi); exact ⟨⟨rfl, rfl, .inr rfl, .inr rfl, fun i hi => wks_refl _⟩, rfl⟩) (fun s hI1 => ?_)
     simp only [go_sem]
     have htl := treesTo_len j s.1
     refine cx_seq ?_
     refine cx_sr ?_
     simp only [go_sem]
     repeat first | (with_reducible refine side_d ?_ ?_; exact byD) | (with_reducible refine side_q ?_ ?_; exact byQ)
     intro t34 e34
     subst e34
     refine cx_if _ rfl (fun h34 => ?_) (fun h34 => ?_)
     ·
      (try simp only [go_sem] at h34)
      have hcc := ok.2.2 _ (getD_mem (l := j.commits) (i := s.1) (d := default) (by omega))
      have hon := opRun_next (l := j.commits) (i := s.1) (by omega) hI1.2.2.2
      rw [allP_full hI1.2.2.1] at hon
      have hgd := checkT_good hI1.2.1 (checkT_iff.2 hI1.2.2.1)
      have hal := allR_len s.2 (j.commits.getD s.1 default).changes (j.commits.getD s.1 default).number
      have hsl := hI1.2.1.1
      have htn := treesTo_next j s.1
      refine cx_skip ?_
      (try simp only [go_sem])
      refine cx_seq (cx_block ?_)
      refine cx_sr ?_
      simp only [go_sem]
      repeat first | (with_reducible refine side_d ?_ ?_; exact byD) | (with_reducible refine side_q ?_ ?_; exact byQ)
      refine cx_seq (cx_block ?_)
      refine cx_sr ?_
      simp only [go_sem]
      intro t48 e48
      (try replace e48 := w64 e48 (by omega) (by omega))
      intro t49 e49
      subst e49
      refine cx_if _ rfl (fun h42 => ?_) (fun h42 => ?_)
      ·
       (try simp only [go_sem] at h42)
       refine cx_sr ?_
       simp only [go_sem]
       refine cx_ret ?_
       simp only [go_sem]
       have hx : comErr (j.first + s.1) (j.commits.getD s.1 default) = 4 := by rw [comErr, if_pos (by omega)]
       rw [if_pos (by rw [hx]; decide), hx] at hon
       have ho := open_stop hc0 hf0 hm0 (by decide) (opRun_stop (by decide) hon)
       rw [hbad (by rw [ho]; decide), ho]
       exact finx_of 1 [] rfl byC byC byC byC
      ·
       (try simp only [go_sem] at h42)
       refine cx_sr ?_
       simp only [go_sem]
       intro t53 e53
       subst e53
       refine cx_if _ rfl (fun h50 => ?_) (fun h50 => ?_)
       ·
        (try simp only [go_sem] at h50)
        refine cx_sr ?_
        simp only [go_sem]
        refine cx_ret ?_
        simp only [go_sem]
        have hx : comErr (j.first + s.1) (j.commits.getD s.1 default) = 3 := by rw [comErr, if_neg (by omega), if_pos (by omega)]
        rw [if_pos (by rw [hx]; decide), hx] at hon
        have ho := open_stop hc0 hf0 hm0 (by decide) (opRun_stop (by decide) hon)
        rw [hbad (by rw [ho]; decide), ho]
        exact finx_of 1 [] rfl byC byC byC byC
       ·
        (try simp only [go_sem] at h50)
        refine cx_seq ?_
        refine cx_sr ?_
        simp only [go_sem]
        refine cw_m (RIsKey_c (j.commits.getD s.1 default).key (by have := hcc.1; omega)) byW byT ?_
        simp only [go_sem]
        intro t58 e58
        subst e58
        refine cx_if _ rfl (fun h54 => ?_) (fun h54 => ?_)
        ·
         (try simp only [go_sem] at h54)
         refine cx_skip ?_
         (try simp only [go_sem])
         refine cx_if _ rfl (fun h54b => ?_) (fun h54b => no_if h54b)
         refine cx_sr ?_
         simp only [go_sem]
         refine cx_ret ?_
         simp only [go_sem]
         have hx : comErr (j.first + s.1) (j.commits.getD s.1 default) = 1 := by rw [comErr, if_neg (by omega), if_neg (by omega), if_pos (by left; simpa using h54)]
         rw [if_pos (by rw [hx]; decide), hx] at hon
         have ho := open_stop hc0 hf0 hm0 (by decide) (opRun_stop (by decide) hon)
         rw [hbad (by rw [ho]; decide), ho]
         exact finx_of 1 [] rfl byC byC byC byC
        ·
         (try simp only [go_sem] at h54)
         refine cx_region ?_
         simp only [go_sem]
         intro t62 e62
         subst e62
         refine cx_if _ rfl (fun h54b => ?_) (fun h54b => ?_)
         ·
          (try simp only [go_sem] at h54b)
          refine cx_sr ?_
          simp only [go_sem]
          refine cx_ret ?_
          simp only [go_sem]
          have hx : comErr (j.first + s.1) (j.commits.getD s.1 default) = 1 := by rw [comErr, if_neg (by omega), if_neg (by omega), if_pos (by right; exact List.length_eq_zero_iff.1 (by omega))]
          rw [if_pos (by rw [hx]; decide), hx] at hon
          have ho := open_stop hc0 hf0 hm0 (by decide) (opRun_stop (by decide) hon)
          rw [hbad (by rw [ho]; decide), ho]
          exact finx_of 1 [] rfl byC byC byC byC
         ·
          (try simp only [go_sem] at h54b)
          have hx : comErr (j.first + s.1) (j.commits.getD s.1 default) = 0 := by
            rw [comErr, if_neg (by omega), if_neg (by omega), if_neg]
            rintro (h | h)
            · rw [h] at h54; simp at h54
            · rw [h] at h54b; simp at h54b
          rw [if_neg (by simpa using hx), ← show (j.commits.getD s.1 default).number = j.first + s.1 by omega] at hon
          refine cx_skip ?_
          (try simp only [go_sem])
          refine cx_sr ?_
          simp only [go_sem]
          refine cw_m (AllOf_c s.2 (j.commits.getD s.1 default).changes (j.commits.getD s.1 default).number hgd hcc.2) byW byT ?_
          simp only [go_sem]
          refine cx_seq ?_
          refine cx_sr ?_
          simp only [go_sem]
          intro t74 e74
          subst e74
          refine cx_if _ rfl (fun h74 => ?_) (fun h74 => ?_)
          ·
           (try simp only [go_sem] at h74)
           refine cx_sr ?_
           simp only [go_sem]
           refine cx_ret ?_
           simp only [go_sem]
           have h : (allR s.2 (j.commits.getD s.1 default).changes (j.commits.getD s.1 default).number).2.2 ≠ 0 := by simpa using h74
           rw [if_pos h] at hon
           have ho := open_stop hc0 hf0 hm0 h (opRun_stop h hon)
           rw [hbad (by rw [ho]; exact h), ho]
           exact finx_of 1 [] rfl byC byC byC byC
          ·
           (try simp only [go_sem] at h74)
           refine cx_skip ?_
           (try simp only [go_sem])
           refine cx_region ?_
           simp only [go_sem]
           repeat first | (with_reducible refine side_d ?_ ?_; exact byD) | (with_reducible refine side_q ?_ ?_; exact byQ)
           refine cx_region ?_
           simp only [go_sem]
           intro t36 e36
           (try replace e36 := w64 e36 (by omega) (by omega))
           have h : (allR s.2 (j.commits.getD s.1 default).changes (j.commits.getD s.1 default).number).2.2 = 0 := by simpa using h74
           rw [if_neg (by simpa using h)] at hon
           have hok : okE (allR s.2 (j.commits.getD s.1 default).changes (j.commits.getD s.1 default).number).1 := by
             have := allP_good (v := (j.commits.getD s.1 default).number) hI1.2.1 hcc.2 (by rw [allP_full hI1.2.2.1]; exact h)
             rw [allP_full hI1.2.2.1] at this
             exact this.ok
           rw [show treeAt j (s.1 + 1) = (allR s.2 (j.commits.getD s.1 default).changes (j.commits.getD s.1 default).number).1 by rw [treeAt, hon]] at htn
           refine rnd_nextr (s.1 + 1, (allR s.2 (j.commits.getD s.1 default).changes (j.commits.getD s.1 default).number).1) [0, 4] ⟨by dsimp only; omega, hok, allR_full hI1.2.2.1 h, hon⟩ (by first | omega | (dsimp only; omega)) ⟨rfl, rfl, ?_, ?_⟩
           · (try rw [htn]); exact byC
           · rw [htn]; skip
             simp only [go_sem, wk, wks, wkB, wkH, List.length_append, List.length_cons, List.length_nil]
             first | exact fun q hq => wks_mp_snoc (fun x => rnVs_no _ rfl) (by rfl) hq | (and_intros <;> first | trivial | rfl | omega | (exact fun q hq => wks_mp_snoc (fun x => rnVs_no _ rfl) (by rfl) hq) | exact wks_refl _ | exact byC)
     ·
      (try simp only [go_sem] at h34)
      have hi1 : s.1 = j.commits.length := by omega
      have hrun : opRun j.base j.first j.commits = (s.2, 0) := by
        have := hI1.2.2.2
        rwa [hi1, List.take_length] at this
      have hop := open_end hc0 hf0 hm0 hrun
      refine cx_exit ?_
      simp only [go_sem]
      refine cx_seq ?_
      refine cx_sr ?_
      simp only [go_sem]
      refine cx_block ?_
      refine cx_loopk (σ := Nat) (fun i => i ≤ j.commits.length ∧ ∀ b, b < i → ∀ a, a < b → (j.commits.getD a default).key ≠ (j.commits.getD b default).key) (fun i => [⟨9, 0, [], .int .i64 (i : Nat)⟩]) [1, 5] (fun i => [.box (jnE j), .arr 1 (treesTo j s.1).length (En treeE [] (treesTo j s.1))]) (fun i => j.commits.length - i) 0 ⟨Nat.zero_le _, fun b hb => absurd hb (Nat.not_lt_zero b)⟩ (fun _ => (Nat.zero_le _)) byC (fun i hI2 => ?_)
      simp only [go_sem]
      refine cx_seq ?_
      refine cx_sr ?_
      simp only [go_sem]
      repeat first | (with_reducible refine side_d ?_ ?_; exact byD) | (with_reducible refine side_q ?_ ?_; exact byQ)
      intro t84 e84
      subst e84
      refine cx_if _ rfl (fun h84 => ?_) (fun h84 => ?_)
      ·
       (try simp only [go_sem] at h84)
       refine cx_skip ?_
       (try simp only [go_sem])
       refine cx_seq (cx_block ?_)
       refine cx_sr ?_
       simp only [go_sem]
       refine cx_block ?_
       refine cx_loopk (σ := Nat) (fun k => k ≤ i ∧ ∀ a, a < k → (j.commits.getD a default).key ≠ (j.commits.getD i default).key) (fun k => [⟨10, 0, [], .int .i64 (k : Nat)⟩]) [1, 5, 9] (fun k => [.box (jnE j), .arr 1 (treesTo j s.1).length (En treeE [] (treesTo j s.1))]) (fun k => i - k) 0 ⟨Nat.zero_le _, fun b hb => absurd hb (Nat.not_lt_zero b)⟩ (fun _ => (Nat.zero_le _)) byC (fun k hI3 => ?_)
       simp only [go_sem]
       refine cx_seq ?_
       refine cx_sr ?_
       simp only [go_sem]
       repeat first | (with_reducible refine side_d ?_ ?_; exact byD) | (with_reducible refine side_q ?_ ?_; exact byQ)
       intro t89 e89
       subst e89
       refine cx_if _ rfl (fun h89 => ?_) (fun h89 => ?_)
       ·
        (try simp only [go_sem] at h89)
        refine cx_skip ?_
        (try simp only [go_sem])
        refine cx_seq (cx_block ?_)
        refine cx_seq (cx_draw mixed [] (.first 0 (.first 1 (.first 2 (.first 3 (.first 4 (.first 5 (.first 6 (.first 7 (.first 8 (.first 9 (.first 10 (.first 11 (.first 12 (.done)))))))))))))) (by kernel_rfl) ?_)
        simp only [go_sem]
        repeat first | (with_reducible refine side_d ?_ ?_; exact byD) | (with_reducible refine side_q ?_ ?_; exact byQ)
        intro t104 e104
        subst e104
        refine cx_if _ rfl (fun h104 => ?_) (fun h104 => ?_)
        ·
         (try simp only [go_sem] at h104)
         refine cx_sr ?_
         simp only [go_sem]
         refine cx_ret ?_
         simp only [go_sem]
         rw [if_neg (nodup_not (a := k) (b := i) (by omega) (by omega) h104)] at hop
         rw [hbad (by rw [hop]; decide), hop]
         exact finx_of 1 [] rfl byC byC byC byC
        ·
         (try simp only [go_sem] at h104)
         refine cx_skip ?_
         (try simp only [go_sem])
         refine cx_region ?_
         simp only [go_sem]
         intro t91 e91
         (try replace e91 := w64 e91 (by omega) (by omega))
         refine rnd_next (k + 1) ⟨by omega, fun a ha => ?_⟩ (by first | omega | (dsimp only; omega)) byC
         rcases Nat.lt_or_ge a k with h | h
         · exact hI3.2 a h
         · obtain rfl : a = k := by omega
           exact h104
       ·
        (try simp only [go_sem] at h89)
        refine cx_exit ?_
        simp only [go_sem]
        refine cx_region ?_
        simp only [go_sem]
        intro t86 e86
        (try replace e86 := w64 e86 (by omega) (by omega))
        refine rnd_next (i + 1) ⟨by omega, fun b hb a ha => ?_⟩ (by first | omega | (dsimp only; omega)) byC
        rcases Nat.lt_or_ge b i with h | h
        · exact hI2.2 b h a ha
        · obtain rfl : b = i := by omega
          exact hI3.2 a (by omega)
      ·
       (try simp only [go_sem] at h84)
       refine cx_exit ?_
       simp only [go_sem]
       refine cx_sr ?_
       simp only [go_sem]
       refine cx_ret ?_
       simp only [go_sem]
       rw [if_pos (nodup_of fun b hb a ha => hI2.2 b (by omega) a ha)] at hop
       have ht : treesP j = treesTo j s.1 := by rw [treesP, hop, if_pos rfl, hi1]
       rw [ht, hop]
       exact finx_of 2 [] rfl byC byC byC byC
theorem RCheckJournal_c (j : Journal) (ok : okJ j) : Meets Tryd.prog 13 [.agg (jnE j)] (.int .i64 (openP j).2) [] := by
  refine meets_x (fn := Tryd.f13) Tryd.func13 rfl fb13 (by kernel_rfl) (Nat.le_of_ble_eq_true rfl) ?_
  refine cx_sr ?_
  simp only [go_sem]
  repeat first | (with_reducible refine side_d ?_ ?_; exact byD) | (with_reducible refine side_q ?_ ?_; exact byQ)
  refine cx_sr ?_
  simp only [go_sem]
  refine cw_m (OpenJournal_c j ok) byW byT ?_
  simp only [go_sem]
  refine cx_sr ?_
  simp only [go_sem]
  refine cx_ret ?_
  simp only [go_sem]
  exact finw_int rfl
theorem treesP_last {j : Journal} (h : (openP j).2 = 0) : (treesP j).length = j.commits.length + 1 ∧ (treesP j).getD j.commits.length [] = (openP j).1 := by
  rw [treesP, if_pos h]
  refine ⟨treesTo_len _ _, ?_⟩
  have h1 : (openP j).1 = (opRun j.base j.first j.commits).1 := by
    unfold openP at h ⊢
    grind
  rw [h1]
  simp [treesTo, List.getD, treeAt]
theorem TreeOf_c (j : Journal) (ok : okJ j) (h : (openP j).2 = 0) : Meets Tryd.prog 22 [.agg (jnE j)] (esV (openP j).1) [] := by
  refine meets_x (fn := Tryd.f22) Tryd.func22 rfl fb22 (by kernel_rfl) (Nat.le_of_ble_eq_true rfl) ?_
  obtain ⟨hl1, hl2⟩ := treesP_last h
  have hcl := ok.2.1
  refine cx_sr ?_
  simp only [go_sem]
  repeat first | (with_reducible refine side_d ?_ ?_; exact byD) | (with_reducible refine side_q ?_ ?_; exact byQ)
  refine cx_sr ?_
  simp only [go_sem]
  refine cw_m (OpenJournal_c j ok) byW byT ?_
  simp only [go_sem]
  refine cx_sr ?_
  simp only [go_sem]
  intro t13 e13
  (try replace e13 := w64 e13 (by omega) (by omega))
  repeat first | (with_reducible refine side_d ?_ ?_; exact byD) | (with_reducible refine side_q ?_ ?_; exact byQ)
  refine cx_ret ?_
  simp only [go_sem]
  rw [show t13.toNat = j.commits.length by omega, hl2]
  exact finx_of 1 [] rfl byC byC byC byC
end Go.VM.Tryd
end
section
set_option maxHeartbeats 4000000
set_option linter.unusedVariables false
set_option linter.unusedSimpArgs false
open Go Go.VM Go.Proofs Tether
namespace Go.VM.Tryd
set_option maxRecDepth 100000
theorem IndexFunc_Commit (f : Nat) (caps : List V) (hc : ltrs 0 caps = true) (p : Commit → Bool) (l : List Commit) (hp : ∀ x ∈ l, Meets Tryd.prog f (.agg (cmE x) :: caps) (.bool (p x)) []) (hl : l.length < 4611686018427387904) :
    Meets Tryd.prog 37 [lstV 3 cmE default l, .fn f [] caps] (.int .i64 (idxF p l)) [] := by
  refine meets_x (fn := Tryd.f37) Tryd.func37 rfl fb37 (by kernel_rfl) (Nat.le_of_ble_eq_true rfl) ?_
  refine cx_sr ?_
  simp only [go_sem]
  repeat first | (with_reducible refine side_d ?_ ?_; exact byD) | (with_reducible refine side_q ?_ ?_; exact byQ)
  refine cx_seq ?_
  refine cx_sr ?_
  simp only [go_sem]
  refine cx_block ?_
  refine cx_loop0 (σ := Nat) (fun i => i ≤ l.length ∧ ∀ j, j < i → p (l.getD j default) = false) (fun i => [⟨8, 0, [], .int .i64 (i : Nat)⟩]) [0, 1, 7] (fun i => l.length - i) 0 ⟨Nat.zero_le _, fun j hj => absurd hj (Nat.not_lt_zero j)⟩ (Nat.zero_le _) byC (fun i hI1 => ?_)
  simp only [go_sem]
  refine cx_sr ?_
  simp only [go_sem]
  repeat first | (with_reducible refine side_d ?_ ?_; exact byD) | (with_reducible refine side_q ?_ ?_; exact byQ)
  intro t9 e9
  subst e9
  refine cx_seq ?_
  refine cx_if _ rfl (fun h9 => ?_) (fun h9 => ?_)
  ·
   (try simp only [go_sem] at h9)
   refine cx_skip ?_
   (try simp only [go_sem])
   refine cx_seq (cx_block ?_)
   refine cx_sr ?_
   simp only [go_sem]
   refine cx_sr ?_
   simp only [go_sem]
   repeat first | (with_reducible refine side_d ?_ ?_; exact byD) | (with_reducible refine side_q ?_ ?_; exact byQ)
   refine cw_m (hp (l.getD i default) (getD_mem (by omega))) byW byT ?_
   simp only [go_sem]
   refine cx_if _ rfl (fun h16 => ?_) (fun h16 => ?_)
   ·
    (try simp only [go_sem] at h16)
    refine cx_sr ?_
    simp only [go_sem]
    refine cx_ret ?_
    simp only [go_sem]
    refine finw_int ?_
    rw [idxF_at (by omega) hI1.2 h16]
   ·
    (try simp only [go_sem] at h16)
    refine cx_skip ?_
    (try simp only [go_sem])
    refine cx_region ?_
    simp only [go_sem]
    intro t18 e18
    (try replace e18 := w64 e18 (by omega) (by omega))
    refine rnd_next (i + 1) ⟨by omega, all_next hI1.2 h16⟩ (by first | omega | (dsimp only; omega)) byC
  ·
   (try simp only [go_sem] at h9)
   refine cx_exit ?_
   simp only [go_sem]
   refine cx_sr ?_
   simp only [go_sem]
   refine cx_ret ?_
   simp only [go_sem]
   refine finw_int ?_
   rw [idxF_none fun j hj => hI1.2 j (by omega)]
theorem Clone_Commit (l : List Commit) (hl : l.length * 48 ≤ 140737488355328) : Meets Tryd.prog 59 [lstV 3 cmE default l] (.own none 0 3 0 l.length .loose) [.arr 3 l.length (En cmE default l)] := by
  refine meets_x (fn := Tryd.f59) Tryd.func59 rfl fb59 (by kernel_rfl) (Nat.le_of_ble_eq_true rfl) ?_
  refine cx_nil 0 rfl fun b hb => ?_
  refine cx_sr ?_
  simp only [go_sem]
  repeat first | (with_reducible refine side_d ?_ ?_; exact byD) | (with_reducible refine side_q ?_ ?_; exact byQ)
  refine cx_seq ?_
  refine cx_sr ?_
  simp only [go_sem]
  intro t4 e4
  subst e4
  refine cx_if _ rfl (fun h4 => ?_) (fun h4 => ?_)
  ·
   (try simp only [go_sem] at h4)
   have hb := hb h4
   refine cx_sr ?_
   simp only [go_sem]
   refine cx_virt 2 3 (En cmE default l) rfl ?_
   simp only [go_sem]
   refine cx_ret ?_
   simp only [go_sem]
   exact finx_of 1 [0] rfl byC byC byC byC
  ·
   (try simp only [go_sem] at h4)
   refine cx_skip ?_
   (try simp only [go_sem])
   refine cx_sr ?_
   simp only [go_sem]
   repeat first | (with_reducible refine side_d ?_ ?_; exact byD) | (with_reducible refine side_q ?_ ?_; exact byQ)
   refine cx_ret ?_
   simp only [go_sem]
   exact finx_of 1 [1] rfl byC byC byC byC
theorem Clone_Change (l : List Change) (hl : l.length * 64 ≤ 140737488355328) : Meets Tryd.prog 41 [lstV 5 Change.enc default l] (.own none 0 5 0 l.length .loose) [.arr 5 l.length (En Change.enc default l)] := by
  refine meets_x (fn := Tryd.f41) Tryd.func41 rfl fb41 (by kernel_rfl) (Nat.le_of_ble_eq_true rfl) ?_
  refine cx_nil 0 rfl fun b hb => ?_
  refine cx_sr ?_
  simp only [go_sem]
  repeat first | (with_reducible refine side_d ?_ ?_; exact byD) | (with_reducible refine side_q ?_ ?_; exact byQ)
  refine cx_seq ?_
  refine cx_sr ?_
  simp only [go_sem]
  intro t4 e4
  subst e4
  refine cx_if _ rfl (fun h4 => ?_) (fun h4 => ?_)
  ·
   (try simp only [go_sem] at h4)
   have hb := hb h4
   refine cx_sr ?_
   simp only [go_sem]
   refine cx_virt 2 5 (En Change.enc default l) rfl ?_
   simp only [go_sem]
   refine cx_ret ?_
   simp only [go_sem]
   exact finx_of 1 [0] rfl byC byC byC byC
  ·
   (try simp only [go_sem] at h4)
   refine cx_skip ?_
   (try simp only [go_sem])
   refine cx_sr ?_
   simp only [go_sem]
   repeat first | (with_reducible refine side_d ?_ ?_; exact byD) | (with_reducible refine side_q ?_ ?_; exact byQ)
   refine cx_ret ?_
   simp only [go_sem]
   exact finx_of 1 [1] rfl byC byC byC byC
theorem Clone_Change_v (l : List Change) (hl : l.length * 64 ≤ 140737488355328) : Meets Tryd.prog 41 [csV l] (csV l) [] :=
  ((Clone_Change l hl).freeze 1 byC).wk (wks_refl _) byC rfl
theorem JCheck_c (j : Journal) (ok : okJ j) : Meets Tryd.prog 20 [.agg (jnE j)] (.int .i64 (openP j).2) [] := by
  refine meets_x (fn := Tryd.f20) Tryd.func20 rfl fb20 (by kernel_rfl) (Nat.le_of_ble_eq_true rfl) ?_
  refine cx_sr ?_
  simp only [go_sem]
  repeat first | (with_reducible refine side_d ?_ ?_; exact byD) | (with_reducible refine side_q ?_ ?_; exact byQ)
  refine cx_sr ?_
  simp only [go_sem]
  repeat first | (with_reducible refine side_d ?_ ?_; exact byD) | (with_reducible refine side_q ?_ ?_; exact byQ)
  by_cases hs7 : (openP j).2 = 0
  ·
   refine cw_m (Open_c j ok _ _ (fun _ => ⟨rfl, rfl⟩) (fun h => absurd hs7 h)) byW byT ?_
   simp only [go_sem]
   refine cx_sr ?_
   simp only [go_sem]
   refine cx_ret ?_
   simp only [go_sem]
   exact finw_int hs7.symm
  ·
   refine cw_m (Open_c j ok _ _ (fun h => absurd h hs7) (fun _ => ⟨rfl, rfl⟩)) byW byT ?_
   simp only [go_sem]
   refine cx_sr ?_
   simp only [go_sem]
   refine cx_ret ?_
   simp only [go_sem]
   exact finw_int rfl
theorem openP_err {j : Journal} (h : (openP j).2 ≠ 0) : (openP j).1 = [] := by
  unfold openP at h ⊢
  grind
theorem openP_ok {j : Journal} (ok : okJ j) (h : (openP j).2 = 0) : FullT (openP j).1 := by
  have h0 : checkT j.base = 0 := by unfold openP at h; grind
  have h1 : (opRun j.base j.first j.commits).2 = 0 := by unfold openP at h; grind
  have h2 : (openP j).1 = (opRun j.base j.first j.commits).1 := by unfold openP at h ⊢; grind
  rw [h2]
  exact opRun_full _ _ _ (checkT_iff.1 h0) h1
theorem openP_rng {j : Journal} (h : (openP j).2 = 0) : 1 ≤ j.first ∧ j.first ≤ 1000000 ∧ j.commits.length ≤ 30 := by
  unfold openP at h
  grind
theorem JTree_c (j : Journal) (ok : okJ j) : Meets Tryd.prog 21 [.agg (jnE j)] (.tup [esV (openP j).1, .int .i64 (openP j).2]) [] := by
  refine meets_x (fn := Tryd.f21) Tryd.func21 rfl fb21 (by kernel_rfl) (Nat.le_of_ble_eq_true rfl) ?_
  refine cx_sr ?_
  simp only [go_sem]
  repeat first | (with_reducible refine side_d ?_ ?_; exact byD) | (with_reducible refine side_q ?_ ?_; exact byQ)
  refine cx_sr ?_
  simp only [go_sem]
  repeat first | (with_reducible refine side_d ?_ ?_; exact byD) | (with_reducible refine side_q ?_ ?_; exact byQ)
  by_cases hs8 : (openP j).2 = 0
  ·
   refine cw_m (Open_c j ok _ _ (fun _ => ⟨rfl, rfl⟩) (fun h => absurd hs8 h)) byW byT ?_
   simp only [go_sem]
   have hfl : (openP j).2 = 0 → (openP j).1.length ≤ 60 := fun h => (openP_ok ok h).len
   refine cx_seq ?_
   refine cx_sr ?_
   simp only [go_sem]
   intro t12 e12
   subst e12
   refine cx_if _ rfl (fun h12 => no_if h12) (fun h12 => ?_)
   refine cx_skip ?_
   (try simp only [go_sem])
   refine cx_sr ?_
   simp only [go_sem]
   refine cw_m (Clone_Entry (openP j).1 (by have := hfl hs8; omega)) byW byT ?_
   simp only [go_sem]
   refine cx_ret ?_
   simp only [go_sem]
   rw [hs8]
   exact finx_of 1 [] rfl byC byC byC byC
  ·
   refine cw_m (Open_c j ok _ _ (fun h => absurd h hs8) (fun _ => ⟨rfl, rfl⟩)) byW byT ?_
   simp only [go_sem]
   have hfl : (openP j).2 = 0 → (openP j).1.length ≤ 60 := fun h => (openP_ok ok h).len
   refine cx_seq ?_
   refine cx_sr ?_
   simp only [go_sem]
   intro t12 e12
   subst e12
   refine cx_if _ rfl (fun h12 => ?_) (fun h12 => ?_)
   ·
    (try simp only [go_sem] at h12)
    refine cx_sr ?_
    simp only [go_sem]
    refine cx_ret ?_
    simp only [go_sem]
    rw [openP_err hs8]
    exact finx_of 1 [] rfl byC byC byC byC
   · simp_all
theorem stF_same {α : Type} {enc : α → List V} {d : α} {l : List α} {k o i : Nat} {vs : List V} (hx : spl (enc (l.getD k d)) o vs = enc (l.getD k d)) : stF (En enc d l) k o vs i = En enc d l i := by
  unfold stF
  cases hb : Nat.beq i k with
  | true =>
    have e : i = k := Nat.eq_of_beq_eq_true hb
    subst e
    simp only [cond, En]
    exact hx
  | false => simp only [cond, En]
theorem cloned_c (l : List Commit) (ok : okMs l) : Meets Tryd.prog 36 [cmsV l] (.own none 0 3 0 l.length .loose) [.arr 3 l.length (En cmE default l)] := by
  refine meets_x (fn := Tryd.f36) Tryd.func36 rfl fb36 (by kernel_rfl) (Nat.le_of_ble_eq_true rfl) ?_
  have hl := ok.1
  refine cx_sr ?_
  simp only [go_sem]
  repeat first | (with_reducible refine side_d ?_ ?_; exact byD) | (with_reducible refine side_q ?_ ?_; exact byQ)
  refine cx_sr ?_
  simp only [go_sem]
  refine cw_m (Clone_Commit l (by omega)) byW byT ?_
  simp only [go_sem]
  refine cx_seq ?_
  refine cx_sr ?_
  simp only [go_sem]
  refine cx_block ?_
  refine cx_loopk (σ := Nat) (fun i => i ≤ l.length) (fun i => [⟨9, 0, [], .int .i64 (i : Nat)⟩]) [0, 2, 7, 8] (fun i => [.arr 3 l.length (En cmE default l)]) (fun i => l.length - i) 0 (by first | trivial | omega | simp) (fun _ => (Nat.zero_le _)) byC (fun i hI1 => ?_)
  simp only [go_sem]
  refine cx_sr ?_
  simp only [go_sem]
  repeat first | (with_reducible refine side_d ?_ ?_; exact byD) | (with_reducible refine side_q ?_ ?_; exact byQ)
  intro t10 e10
  subst e10
  refine cx_seq ?_
  refine cx_if _ rfl (fun h10 => ?_) (fun h10 => ?_)
  ·
   (try simp only [go_sem] at h10)
   have hcc := ok.2 _ (getD_mem (l := l) (i := i) (d := default) (by omega))
   have hch := hcc.2.1
   refine cx_skip ?_
   (try simp only [go_sem])
   refine cx_seq (cx_block ?_)
   refine cx_sr ?_
   simp only [go_sem]
   repeat first | (with_reducible refine side_d ?_ ?_; exact byD) | (with_reducible refine side_q ?_ ?_; exact byQ)
   refine cx_region ?_
   simp only [go_sem]
   refine cw_m (Clone_Change_v (l.getD i default).changes (by omega)) byW byT ?_
   simp only [go_sem]
   repeat first | (with_reducible refine side_d ?_ ?_; exact byD) | (with_reducible refine side_q ?_ ?_; exact byQ)
   refine cx_region ?_
   simp only [go_sem]
   intro t21 e21
   (try replace e21 := w64 e21 (by omega) (by omega))
   refine rnd_nextr (i + 1) [0] (by omega) (by first | omega | (dsimp only; omega)) ⟨rfl, rfl, ?_, ?_⟩
   · exact byC
   · simp only [go_sem, wk, wks, wkB, wkH]
     exact fun q hq => wks_mp_of (fun _ => rfl) (stF_same rfl)
  ·
   (try simp only [go_sem] at h10)
   refine cx_exit ?_
   simp only [go_sem]
   refine cx_sr ?_
   simp only [go_sem]
   refine cx_ret ?_
   simp only [go_sem]
   exact finx_of 1 [0] rfl byC byC byC byC
end Go.VM.Tryd
end
section
set_option maxHeartbeats 4000000
set_option linter.unusedVariables false
set_option linter.unusedSimpArgs false
open Go Go.VM Go.Proofs Tether
namespace Go.VM.Tryd
set_option maxRecDepth 100000
def noJ : Journal := ⟨[], 0, []⟩
def addJ (j : Journal) (c : Commit) : Journal :=
  if 30 < j.commits.length + 1 then ⟨(allP j.base ((j.commits ++ [c]).getD 0 default).changes j.first).1, j.first + 1, (j.commits ++ [c]).drop 1⟩ else ⟨j.base, j.first, j.commits ++ [c]⟩
def isK (key : Str) (c : Commit) : Bool := decide (c.key = key)
def commitP (j : Journal) (key : Str) (l : List Change) : Journal × Int × Int :=
  if (openP j).2 ≠ 0 then (noJ, 0, (openP j).2) else if isKey key = false then (noJ, 0, 1)
  else if 0 ≤ idxF (isK key) j.commits then (j, (j.commits.getD (idxF (isK key) j.commits).toNat default).number, 0)
  else if l = [] then (noJ, 0, 1) else if 1000000 < j.first + j.commits.length then (noJ, 0, 3)
  else if (allP (openP j).1 l (j.first + j.commits.length)).2.2 ≠ 0 then (noJ, 0, (allP (openP j).1 l (j.first + j.commits.length)).2.2)
  else (addJ j ⟨j.first + j.commits.length, key, l⟩, j.first + j.commits.length, 0)
theorem Clone_Entry_v (l : List Entry) (hl : l.length * 48 ≤ 140737488355328) : Meets Tryd.prog 35 [esV l] (esV l) [] :=
  ((Clone_Entry l hl).freeze 1 byC).wk (wks_refl _) byC rfl
theorem isK_c (key : Str) (c : Commit) : Meets Tryd.prog 38 [.agg (cmE c), .iptr [.str key] 0] (.bool (isK key c)) [] := by
  refine meets_x (fn := Tryd.f38) Tryd.func38 rfl fb38 (by kernel_rfl) (Nat.le_of_ble_eq_true rfl) ?_
  refine cx_sr ?_
  simp only [go_sem]
  repeat first | (with_reducible refine side_d ?_ ?_; exact byD) | (with_reducible refine side_q ?_ ?_; exact byQ)
  refine cx_sr ?_
  simp only [go_sem]
  intro t7 e7
  subst e7
  refine cx_ret ?_
  simp only [go_sem]
  exact finw_bool rfl
set_option maxHeartbeats 4000000 in
theorem Commit_c (j : Journal) (key : Str) (l : List Change) (ok : okJ j) (hk : key.length ≤ 1048576) (okl : okCs l) :
    Meets Tryd.prog 12 [.agg (jnE j), .str key, csV l] (.tup [.agg (jnE (commitP j key l).1), .int .i64 (commitP j key l).2.1, .int .i64 (commitP j key l).2.2]) [] := by
  refine meets_x (fn := Tryd.f12) Tryd.func12 rfl fb12 (by kernel_rfl) (Nat.le_of_ble_eq_true rfl) ?_
  have hbl := ok.1.1
  have hcl := ok.2.1
  have hll := okl.1
  refine cx_sr ?_
  simp only [go_sem]
  repeat first | (with_reducible refine side_d ?_ ?_; exact byD) | (with_reducible refine side_q ?_ ?_; exact byQ)
  refine cx_sr ?_
  simp only [go_sem]
  repeat first | (with_reducible refine side_d ?_ ?_; exact byD) | (with_reducible refine side_q ?_ ?_; exact byQ)
  by_cases hs16 : (openP j).2 = 0
  ·
   refine cw_m (Open_c j ok _ _ (fun _ => ⟨rfl, rfl⟩) (fun h => absurd hs16 h)) byW byT ?_
   simp only [go_sem]
   refine cx_seq (cx_block ?_)
   refine cx_sr ?_
   simp only [go_sem]
   intro t21 e21
   subst e21
   refine cx_if _ rfl (fun h19 => no_if h19) (fun h19 => ?_)
   refine cx_sr ?_
   simp only [go_sem]
   refine cw_m (IsKey_c key (by omega)) byW byT ?_
   simp only [go_sem]
   intro t25 e25
   subst e25
   refine cx_if _ rfl (fun h22 => ?_) (fun h22 => ?_)
   ·
    (try simp only [go_sem] at h22)
    refine cx_region ?_
    simp only [go_sem]
    refine cx_seq ?_
    refine cx_sr ?_
    simp only [go_sem]
    intro t27 e27
    subst e27
    refine cx_if _ rfl (fun h27 => ?_) (fun h27 => no_if h27)
    refine cx_sr ?_
    simp only [go_sem]
    refine cx_ret ?_
    simp only [go_sem]
    have hc : commitP j key l = (noJ, 0, 1) := by rw [commitP, if_neg (by simpa using hs16), if_pos (by simpa using h22)]
    rw [hc]
    exact finx_of 2 [] rfl byC byC byC byC
   ·
    (try simp only [go_sem] at h22)
    obtain ⟨hr1, hr2, hr3⟩ := openP_rng hs16
    have hfl := openP_ok ok hs16
    have okn := hfl.ok
    refine cx_skip ?_
    (try simp only [go_sem])
    refine cx_seq ?_
    refine cx_sr ?_
    simp only [go_sem]
    intro t27 e27
    subst e27
    refine cx_if _ rfl (fun h27 => no_if h27) (fun h27 => ?_)
    refine cx_skip ?_
    (try simp only [go_sem])
    refine cx_joinr ([⟨2, 0, [], csV l⟩, ⟨3, 0, [], .ptr 0 0⟩, ⟨4, 0, [], .ptr 1 0⟩, ⟨6, 0, [], .ptr 2 0⟩, ⟨9, 0, [], .ptr 3 0⟩, ⟨11, 0, [], .ptr 4 0⟩]) ([.box (jnE j), .box [.str key], .box [.bad, .bad, .bad], .box (kpE j (openP j).1), .box [esV j.base, .int .i64 j.first, .own none 5 3 0 j.commits.length .loose], .arr 3 j.commits.length (En cmE default j.commits)]) (cx_draw mixed [10] (.first 0 (.first 1 (.first 3 (.first 4 (.first 5 (.first 6 (.alt 2 (.alt 7 (.first 8 (.one 9 (.one 10 (.done)))) (.one 9 (.one 7 (.first 8 (.one 10 (.done)))))) (.one 9 (.one 2 (.one 7 (.first 8 (.one 10 (.done))))))))))))) (by kernel_rfl) ?_) ?_
    ·
     simp only [go_sem]
     refine ⟨?_, ?_⟩
     ·
      refine cwE_m (Clone_Entry_v j.base (by omega)) byW byT ?_
      simp only [go_sem]
      refine ⟨?_, ?_⟩
      ·
       refine cwE_m (cloned_c j.commits ok.2) byW byT ?_
       simp only [go_sem]
       first | (refine ⟨[0, 1, 2, 3, 4, 5], rfl, rfl, ?_, ?_⟩ <;> (first | trivial | (simp only [go_sem, wk, wks, wkB, wkH, subw, subEw, hprew, ltb, subr, subEr]; done) | (simp only [go_sem, wk, wks, wkB, wkH, subw, subEw, hprew, ltb, subr, subEr]; and_intros <;> first | trivial | rfl | omega | assumption | exact Nat.le_refl _ | exact wks_refl _ | exact wk_refl _ | (intros; exact wks_refl _) | (subst_vars; intro q hq; refine wks_mp_snoc (fun x => ?_) ?_ ?_; exact rnVs_no _ rfl; rfl; simp at hq; omega) | (simp; done) | (simp; omega)))) | (refine ⟨[0, 1, 2, 3, 5, 4], rfl, rfl, ?_, ?_⟩ <;> (first | trivial | (simp only [go_sem, wk, wks, wkB, wkH, subw, subEw, hprew, ltb, subr, subEr]; done) | (simp only [go_sem, wk, wks, wkB, wkH, subw, subEw, hprew, ltb, subr, subEr]; and_intros <;> first | trivial | rfl | omega | assumption | exact Nat.le_refl _ | exact wks_refl _ | exact wk_refl _ | (intros; exact wks_refl _) | (subst_vars; intro q hq; refine wks_mp_snoc (fun x => ?_) ?_ ?_; exact rnVs_no _ rfl; rfl; simp at hq; omega) | (simp; done) | (simp; omega))))
      ·
       refine cwE_m (cloned_c j.commits ok.2) byW byT ?_
       simp only [go_sem]
       first | (refine ⟨[0, 1, 2, 3, 4, 5], rfl, rfl, ?_, ?_⟩ <;> (first | trivial | (simp only [go_sem, wk, wks, wkB, wkH, subw, subEw, hprew, ltb, subr, subEr]; done) | (simp only [go_sem, wk, wks, wkB, wkH, subw, subEw, hprew, ltb, subr, subEr]; and_intros <;> first | trivial | rfl | omega | assumption | exact Nat.le_refl _ | exact wks_refl _ | exact wk_refl _ | (intros; exact wks_refl _) | (subst_vars; intro q hq; refine wks_mp_snoc (fun x => ?_) ?_ ?_; exact rnVs_no _ rfl; rfl; simp at hq; omega) | (simp; done) | (simp; omega)))) | (refine ⟨[0, 1, 2, 3, 5, 4], rfl, rfl, ?_, ?_⟩ <;> (first | trivial | (simp only [go_sem, wk, wks, wkB, wkH, subw, subEw, hprew, ltb, subr, subEr]; done) | (simp only [go_sem, wk, wks, wkB, wkH, subw, subEw, hprew, ltb, subr, subEr]; and_intros <;> first | trivial | rfl | omega | assumption | exact Nat.le_refl _ | exact wks_refl _ | exact wk_refl _ | (intros; exact wks_refl _) | (subst_vars; intro q hq; refine wks_mp_snoc (fun x => ?_) ?_ ?_; exact rnVs_no _ rfl; rfl; simp at hq; omega) | (simp; done) | (simp; omega))))
     ·
      refine cwE_m (Clone_Entry_v j.base (by omega)) byW byT ?_
      simp only [go_sem]
      refine cwE_m (cloned_c j.commits ok.2) byW byT ?_
      simp only [go_sem]
      first | (refine ⟨[0, 1, 2, 3, 4, 5], rfl, rfl, ?_, ?_⟩ <;> (first | trivial | (simp only [go_sem, wk, wks, wkB, wkH, subw, subEw, hprew, ltb, subr, subEr]; done) | (simp only [go_sem, wk, wks, wkB, wkH, subw, subEw, hprew, ltb, subr, subEr]; and_intros <;> first | trivial | rfl | omega | assumption | exact Nat.le_refl _ | exact wks_refl _ | exact wk_refl _ | (intros; exact wks_refl _) | (subst_vars; intro q hq; refine wks_mp_snoc (fun x => ?_) ?_ ?_; exact rnVs_no _ rfl; rfl; simp at hq; omega) | (simp; done) | (simp; omega)))) | (refine ⟨[0, 1, 2, 3, 5, 4], rfl, rfl, ?_, ?_⟩ <;> (first | trivial | (simp only [go_sem, wk, wks, wkB, wkH, subw, subEw, hprew, ltb, subr, subEr]; done) | (simp only [go_sem, wk, wks, wkB, wkH, subw, subEw, hprew, ltb, subr, subEr]; and_intros <;> first | trivial | rfl | omega | assumption | exact Nat.le_refl _ | exact wks_refl _ | exact wk_refl _ | (intros; exact wks_refl _) | (subst_vars; intro q hq; refine wks_mp_snoc (fun x => ?_) ?_ ?_; exact rnVs_no _ rfl; rfl; simp at hq; omega) | (simp; done) | (simp; omega))))
    refine cx_seq ?_
    refine cx_sr ?_
    simp only [go_sem]
    refine cw_v 2 (IndexFunc_Commit 38 [.iptr [.str key] 0] rfl (isK key) j.commits (fun c _ => isK_c key c) (by omega)) byV byC rfl ?_
    simp only [go_sem]
    refine cx_sr ?_
    simp only [go_sem]
    intro t44 e44
    subst e44
    refine cx_if _ rfl (fun h44 => ?_) (fun h44 => ?_)
    ·
     (try simp only [go_sem] at h44)
     obtain ⟨iK, hiK, hiK1, hiK2, -⟩ := idxF_spec default (show ¬ idxF (isK key) j.commits = -1 by omega)
     refine cx_joinr ([⟨6, 0, [], .ptr 0 0⟩, ⟨7, 0, [], .int .i64 (j.commits.getD (idxF (isK key) j.commits).toNat default).number⟩, ⟨8, 0, [], .int .i64 0⟩]) ([.box [esV j.base, .int .i64 j.first, .own none 1 3 0 j.commits.length .loose], .arr 3 j.commits.length (En cmE default j.commits)]) (cx_draw mixed [0, 1, 2, 4, 5, 6, 7] (.first 3 (.alt 0 (.alt 1 (.alt 2 (.alt 4 (.alt 5 (.alt 6 (.one 7 (.first 8 (.first 9 (.done)))) (.one 7 (.one 6 (.first 8 (.first 9 (.done)))))) (.one 7 (.one 5 (.one 6 (.first 8 (.first 9 (.done))))))) (.one 7 (.one 4 (.one 5 (.one 6 (.first 8 (.first 9 (.done)))))))) (.one 7 (.one 2 (.one 4 (.one 5 (.one 6 (.first 8 (.first 9 (.done))))))))) (.one 7 (.one 1 (.one 2 (.one 4 (.one 5 (.one 6 (.first 8 (.first 9 (.done)))))))))) (.one 1 (.alt 0 (.alt 2 (.alt 4 (.alt 5 (.alt 6 (.one 7 (.first 8 (.first 9 (.done)))) (.one 7 (.one 6 (.first 8 (.first 9 (.done)))))) (.one 7 (.one 5 (.one 6 (.first 8 (.first 9 (.done))))))) (.one 7 (.one 4 (.one 5 (.one 6 (.first 8 (.first 9 (.done)))))))) (.one 7 (.one 2 (.one 4 (.one 5 (.one 6 (.first 8 (.first 9 (.done))))))))) (.one 2 (.alt 0 (.alt 4 (.alt 5 (.alt 6 (.one 7 (.first 8 (.first 9 (.done)))) (.one 7 (.one 6 (.first 8 (.first 9 (.done)))))) (.one 7 (.one 5 (.one 6 (.first 8 (.first 9 (.done))))))) (.one 7 (.one 4 (.one 5 (.one 6 (.first 8 (.first 9 (.done)))))))) (.one 4 (.alt 0 (.alt 5 (.alt 6 (.one 7 (.first 8 (.first 9 (.done)))) (.one 7 (.one 6 (.first 8 (.first 9 (.done)))))) (.one 7 (.one 5 (.one 6 (.first 8 (.first 9 (.done))))))) (.one 5 (.alt 0 (.alt 6 (.one 7 (.first 8 (.first 9 (.done)))) (.one 7 (.one 6 (.first 8 (.first 9 (.done)))))) (.one 6 (.one 0 (.one 7 (.first 8 (.first 9 (.done)))))))))))))))) (by kernel_rfl) ?_) ?_
     · ((try simp only [hj]); simp only [go_sem]; repeat' (first | apply And.intro | (intro x e; (try replace e := w64 e (by omega) (by omega))))) <;> first | (refine Sd.mk ?_; omega) | (refine Sq.mk ?_; omega) | (refine Sq.mk ?_; and_intros <;> first | trivial | rfl | omega | assumption | exact Nat.le_refl _ | exact wks_refl _ | exact wk_refl _ | (intros; exact wks_refl _) | (simp; done) | (simp; omega)) | (refine ⟨[2, 5], rfl, rfl, ?_, ?_⟩ <;> (first | trivial | (simp only [go_sem, wk, wks, wkB, wkH, subw, subEw, hprew, ltb, subr, subEr]; done) | (simp only [go_sem, wk, wks, wkB, wkH, subw, subEw, hprew, ltb, subr, subEr]; and_intros <;> first | trivial | rfl | omega | assumption | exact Nat.le_refl _ | exact wks_refl _ | exact wk_refl _ | (intros; exact wks_refl _) | (subst_vars; intro q hq; refine wks_mp_snoc (fun x => ?_) ?_ ?_; exact rnVs_no _ rfl; rfl; simp at hq; omega) | (simp; done) | (simp; omega))))
     refine cx_ret ?_
     simp only [go_sem]
     have hkk : ¬ isKey key = false := by simpa using h22
     have hc : commitP j key l = (j, (j.commits.getD (idxF (isK key) j.commits).toNat default).number, 0) := by rw [commitP, if_neg (by simpa using hs16), if_neg hkk, if_pos h44]
     rw [hc]
     exact finx_of 2 [] rfl byC byC byC byC
    ·
     (try simp only [go_sem] at h44)
     have hkk : ¬ isKey key = false := by simpa using h22
     have hc0 : commitP j key l = if l = [] then (noJ, 0, 1) else if 1000000 < j.first + j.commits.length then (noJ, 0, 3)
         else if (allP (openP j).1 l (j.first + j.commits.length)).2.2 ≠ 0 then (noJ, 0, (allP (openP j).1 l (j.first + j.commits.length)).2.2)
         else (addJ j ⟨j.first + j.commits.length, key, l⟩, j.first + j.commits.length, 0) := by
       rw [commitP, if_neg (by simpa using hs16), if_neg hkk, if_neg h44]
     refine cx_skip ?_
     (try simp only [go_sem])
     refine cx_sr ?_
     simp only [go_sem]
     refine cw_v 2 (last_c j (openP j).1 (by omega) (by omega) hcl) byV byC rfl ?_
     simp only [go_sem]
     intro t54 e54
     (try replace e54 := w64 e54 (by omega) (by omega))
     obtain rfl : t54 = j.first + j.commits.length := by omega
     refine cx_seq (cx_block ?_)
     refine cx_sr ?_
     simp only [go_sem]
     intro t69 e69
     subst e69
     refine cx_if _ rfl (fun h66 => ?_) (fun h66 => ?_)
     ·
      (try simp only [go_sem] at h66)
      refine cx_region ?_
      simp only [go_sem]
      refine cx_seq ?_
      refine cx_sr ?_
      simp only [go_sem]
      intro t74 e74
      subst e74
      refine cx_if _ rfl (fun h74 => ?_) (fun h74 => no_if h74)
      refine cx_sr ?_
      simp only [go_sem]
      refine cx_ret ?_
      simp only [go_sem]
      have hc : commitP j key l = (noJ, 0, 1) := by rw [hc0, if_pos (List.length_eq_zero_iff.1 (by omega))]
      rw [hc]
      exact finx_of 2 [] rfl byC byC byC byC
     ·
      (try simp only [go_sem] at h66)
      have hne : ¬ l = [] := by rintro rfl; simp at h66
      refine cx_sr ?_
      simp only [go_sem]
      intro t72 e72
      subst e72
      refine cx_if _ rfl (fun h70 => ?_) (fun h70 => ?_)
      ·
       (try simp only [go_sem] at h70)
       refine cx_region ?_
       simp only [go_sem]
       refine cx_seq ?_
       refine cx_sr ?_
       simp only [go_sem]
       intro t74 e74
       subst e74
       refine cx_if _ rfl (fun h74 => ?_) (fun h74 => no_if h74)
       refine cx_sr ?_
       simp only [go_sem]
       refine cx_ret ?_
       simp only [go_sem]
       have hc : commitP j key l = (noJ, 0, 3) := by rw [hc0, if_neg hne, if_pos h70]
       rw [hc]
       exact finx_of 2 [] rfl byC byC byC byC
      ·
       (try simp only [go_sem] at h70)
       refine cx_region ?_
       simp only [go_sem]
       refine cw_m (All_v (openP j).1 l (j.first + j.commits.length) okn okl) byW byT ?_
       simp only [go_sem]
       refine cx_seq ?_
       refine cx_sr ?_
       simp only [go_sem]
       intro t74 e74
       subst e74
       refine cx_if _ rfl (fun h74 => ?_) (fun h74 => ?_)
       ·
        (try simp only [go_sem] at h74)
        refine cx_sr ?_
        simp only [go_sem]
        refine cx_ret ?_
        simp only [go_sem]
        have h : (allP (openP j).1 l (j.first + j.commits.length)).2.2 ≠ 0 := by simpa using h74
        have hc : commitP j key l = (noJ, 0, (allP (openP j).1 l (j.first + j.commits.length)).2.2) := by rw [hc0, if_neg hne, if_neg h70, if_pos h]
        rw [hc]
        exact finx_of 2 [] rfl byC byC byC byC
       ·
        (try simp only [go_sem] at h74)
        have h : ¬ (allP (openP j).1 l (j.first + j.commits.length)).2.2 ≠ 0 := by simpa using h74
        have hc : commitP j key l = (addJ j ⟨j.first + j.commits.length, key, l⟩, j.first + j.commits.length, 0) := by rw [hc0, if_neg hne, if_neg h70, if_neg h]
        refine cx_skip ?_
        (try simp only [go_sem])
        refine cx_joinr ([⟨6, 0, [], .ptr 0 0⟩, ⟨11, 0, [], .ptr 1 0⟩, ⟨13, 0, [], .int .i64 (j.first + j.commits.length)⟩]) ([.box [.bad, .bad, .bad], .box [esV j.base, .int .i64 j.first, .own none 2 3 0 (j.commits ++ [Commit.mk (j.first + j.commits.length) key l]).length .loose], .arr 3 (j.commits ++ [Commit.mk (j.first + j.commits.length) key l]).length (En cmE default (j.commits ++ [Commit.mk (j.first + j.commits.length) key l]))]) (cx_draw mixed [8, 10] (.first 0 (.first 1 (.first 2 (.first 3 (.first 4 (.one 5 (.first 6 (.one 7 (.one 8 (.first 9 (.one 10 (.done)))))))))))) (by kernel_rfl) ?_) ?_
        ·
         simp only [go_sem]
         refine cwE_m (Clone_Change_v l (by omega)) byW byT ?_
         simp only [go_sem]
         repeat first | (with_reducible refine side_d ?_ ?_; exact byD) | (with_reducible refine side_q ?_ ?_; exact byQ)
         first | (refine ⟨[2, 4, 7], rfl, rfl, ?_, ?_⟩ <;> (first | trivial | (simp only [go_sem, wk, wks, wkB, wkH, subw, subEw, hprew, ltb, subr, subEr]; done) | (simp only [go_sem, wk, wks, wkB, wkH, subw, subEw, hprew, ltb, subr, subEr]; and_intros <;> first | trivial | rfl | omega | assumption | exact Nat.le_refl _ | exact wks_refl _ | exact wk_refl _ | (intros; exact wks_refl _) | (subst_vars; intro q hq; refine wks_mp_snoc (fun x => ?_) ?_ ?_; exact rnVs_no _ rfl; rfl; simp at hq; omega) | (simp; done) | (simp; omega))))
        refine cx_seq ?_
        refine cx_sr ?_
        simp only [go_sem]
        intro t90 e90
        subst e90
        refine cx_if _ rfl (fun h90 => ?_) (fun h90 => ?_)
        ·
         (try simp only [go_sem] at h90)
         have hcs0 : okCs ((j.commits ++ [Commit.mk (j.first + j.commits.length) key l]).getD 0 default).changes := by
           rcases hc : j.commits with _ | ⟨c, cs⟩
           · rw [hc] at h90; simp at h90
           · exact (ok.2.2 c (by rw [hc]; simp)).2
         refine cx_joinr ([⟨6, 0, [], .ptr 0 0⟩, ⟨11, 0, [], .ptr 1 0⟩, ⟨13, 0, [], .int .i64 (j.first + j.commits.length)⟩]) ([.box [.bad, .bad, .bad], .box [esV (allP j.base ((j.commits ++ [Commit.mk (j.first + j.commits.length) key l]).getD 0 default).changes j.first).1, .int .i64 j.first, .own none 2 3 0 (j.commits ++ [Commit.mk (j.first + j.commits.length) key l]).length .loose], .arr 3 (j.commits ++ [Commit.mk (j.first + j.commits.length) key l]).length (En cmE default (j.commits ++ [Commit.mk (j.first + j.commits.length) key l]))]) (cx_draw mixed [15] (.first 0 (.first 1 (.first 2 (.first 3 (.first 4 (.first 5 (.first 6 (.first 7 (.first 8 (.one 9 (.first 10 (.first 11 (.first 12 (.first 13 (.first 14 (.one 15 (.done))))))))))))))))) (by kernel_rfl) ?_) ?_
         ·
          simp only [go_sem]
          repeat first | (with_reducible refine side_d ?_ ?_; exact byD) | (with_reducible refine side_q ?_ ?_; exact byQ)
          refine cwE_m (All_v j.base ((j.commits ++ [Commit.mk (j.first + j.commits.length) key l]).getD 0 default).changes j.first ok.1 hcs0) byW byT ?_
          simp only [go_sem]
          first | (refine ⟨[0, 1, 2], rfl, rfl, ?_, ?_⟩ <;> (first | trivial | (simp only [go_sem, wk, wks, wkB, wkH, subw, subEw, hprew, ltb, subr, subEr]; done) | (simp only [go_sem, wk, wks, wkB, wkH, subw, subEw, hprew, ltb, subr, subEr]; and_intros <;> first | trivial | rfl | omega | assumption | exact Nat.le_refl _ | exact wks_refl _ | exact wk_refl _ | (intros; exact wks_refl _) | (subst_vars; intro q hq; refine wks_mp_snoc (fun x => ?_) ?_ ?_; exact rnVs_no _ rfl; rfl; simp at hq; omega) | (simp; done) | (simp; omega))))
         refine cx_sr ?_
         simp only [go_sem]
         intro t108 e108
         (try replace e108 := w64 e108 (by omega) (by omega))
         refine cx_region ?_
         simp only [go_sem]
         repeat first | (with_reducible refine side_d ?_ ?_; exact byD) | (with_reducible refine side_q ?_ ?_; exact byQ)
         refine cx_sr ?_
         simp only [go_sem]
         refine cx_ret ?_
         simp only [go_sem]
         rw [hc, addJ, if_pos (by simp at h90; omega)]
         exact finx_of 2 [] rfl byC byC byC byC
        ·
         (try simp only [go_sem] at h90)
         refine cx_skip ?_
         (try simp only [go_sem])
         refine cx_sr ?_
         simp only [go_sem]
         refine cx_ret ?_
         simp only [go_sem]
         rw [hc, addJ, if_neg (by simp at h90; omega)]
         exact finx_of 2 [] rfl byC byC byC byC
  ·
   refine cw_m (Open_c j ok _ _ (fun h => absurd h hs16) (fun _ => ⟨rfl, rfl⟩)) byW byT ?_
   simp only [go_sem]
   refine cx_seq (cx_block ?_)
   refine cx_sr ?_
   simp only [go_sem]
   intro t21 e21
   subst e21
   refine cx_if _ rfl (fun h19 => ?_) (fun h19 => ?_)
   ·
    (try simp only [go_sem] at h19)
    refine cx_skip ?_
    (try simp only [go_sem])
    refine cx_seq ?_
    refine cx_sr ?_
    simp only [go_sem]
    intro t27 e27
    subst e27
    refine cx_if _ rfl (fun h27 => ?_) (fun h27 => ?_)
    ·
     (try simp only [go_sem] at h27)
     refine cx_sr ?_
     simp only [go_sem]
     refine cx_ret ?_
     simp only [go_sem]
     have hc : commitP j key l = (noJ, 0, (openP j).2) := by rw [commitP, if_pos hs16]
     rw [hc]
     exact finx_of 2 [] rfl byC byC byC byC
    · simp_all
   · simp_all
end Go.VM.Tryd
end
