import Derived.Test.YtbeimhhhgjaaaaaDoorWW2
section
set_option maxHeartbeats 4000000
set_option linter.unusedVariables false
set_option linter.unusedSimpArgs false
open Go Go.VM Go.Proofs Tether
namespace Go.VM.Tryd
set_option maxRecDepth 100000
theorem check2_iff {a b : List Entry} : check2 a b = 0 ↔ FullT a ∧ FullT b := by
  unfold check2
  constructor
  · intro h
    have h1 : checkT a = 0 := by grind
    have h2 : checkT b = 0 := by grind
    exact ⟨checkT_iff.1 h1, checkT_iff.1 h2⟩
  · rintro ⟨h1, h2⟩
    rw [if_neg (by simp [checkT_iff.2 h1]), checkT_iff.2 h2]
def diffC (a b : List Entry) : List Change := if check2 a b = 0 then diffP a b else []
theorem diffP_len (a b : List Entry) : (diffP a b).length ≤ a.length + b.length := outD_len a b b.length
theorem Diff_c (a b : List Entry) (oka : okE a) (okb : okE b) : Meets Tryd.prog 23 [esV a, esV b] (.tup [.own none 0 5 0 (diffC a b).length .loose, .int .i64 (check2 a b)]) [.arr 5 (diffC a b).length (En Change.enc default (diffC a b))] := by
  refine meets_x (fn := Tryd.f23) Tryd.func23 rfl fb23 (by kernel_rfl) (Nat.le_of_ble_eq_true rfl) ?_
  refine cx_sr ?_
  simp only [go_sem]
  repeat first | (with_reducible refine side_d ?_ ?_; exact byD) | (with_reducible refine side_q ?_ ?_; exact byQ)
  refine cx_seq ?_
  refine cx_sr ?_
  simp only [go_sem]
  refine cw_m (dcheck_c a b oka okb) byW byT ?_
  simp only [go_sem]
  refine cx_sr ?_
  simp only [go_sem]
  intro t11 e11
  subst e11
  refine cx_if _ rfl (fun h11 => ?_) (fun h11 => ?_)
  ·
   (try simp only [go_sem] at h11)
   refine cx_sr ?_
   simp only [go_sem]
   refine cx_virt 4 5 (En Change.enc default []) rfl ?_
   simp only [go_sem]
   refine cx_ret ?_
   simp only [go_sem]
   have h : ¬ check2 a b = 0 := by simpa using h11
   have hd : diffC a b = [] := by rw [diffC, if_neg h]
   rw [hd]
   exact finx_of 1 [0] rfl byC byC byC byC
  ·
   (try simp only [go_sem] at h11)
   have hc : check2 a b = 0 := by simpa using h11
   obtain ⟨ga, gb⟩ := check2_iff.1 hc
   refine cx_skip ?_
   (try simp only [go_sem])
   refine cx_sr ?_
   simp only [go_sem]
   refine cw_m (DRaw_c a b ga.sorted gb.sorted oka okb) byW byT ?_
   simp only [go_sem]
   refine cx_ret ?_
   simp only [go_sem]
   have hd : diffC a b = diffP a b := by rw [diffC, if_pos hc]
   rw [hd, hc]
   exact finx_of 1 [0] rfl byC byC byC byC
theorem deltaBegun_c : Meets Tryd.prog 10 [] (.bool true) [] := by
  refine meets_x (fn := Tryd.f10) Tryd.func10 rfl fb10 (by kernel_rfl) (Nat.le_of_ble_eq_true rfl) ?_
  have h1 : diffC [] [⟨[97], false, [120], 1⟩] = [⟨2, [97], [], [120], -1⟩] := by decide +kernel
  have h2 : check2 [] [⟨[97], false, [120], 1⟩] = 0 := by decide +kernel
  have hA := Diff_c [] [⟨[97], false, [120], 1⟩] (by simp [okE]) (by simp [okE])
  rw [h1, h2] at hA
  dsimp only [List.length] at hA
  refine cx_sr ?_
  simp only [go_sem]
  repeat first | (with_reducible refine side_d ?_ ?_; exact byD) | (with_reducible refine side_q ?_ ?_; exact byQ)
  refine cx_sr ?_
  simp only [go_sem]
  refine cw_n 2 (hA) byV byC rfl byN ?_
  simp only [go_sem]
  refine cx_sr ?_
  simp only [go_sem]
  intro t10 e10
  intro t14 e14
  intro t15 e15
  rw [bsel_and] at e15
  repeat ((with_reducible first | refine side_d ?_ ?_ | refine side_q ?_ ?_); focus (first | exact byD | exact byQ | ((refine Sd.mk ?_; decide))))
  repeat first | (with_reducible refine side_d ?_ ?_; exact byD) | (with_reducible refine side_q ?_ ?_; exact byQ)
  intro t21 e21
  intro t22 e22
  rw [bsel_and] at e22
  subst e10 e14 e15 e21 e22
  refine cx_ret ?_
  simp only [go_sem]
  exact finw_bool (by simp)
end Go.VM.Tryd
end
section
set_option maxHeartbeats 4000000
set_option linter.unusedVariables false
set_option linter.unusedSimpArgs false
open Go Go.VM Go.Proofs Tether
namespace Go.VM.Tryd
set_option maxRecDepth 100000
def patchRun (v : Int) : List Entry → List Change → List Entry × Int
  | t, [] => (t, 0)
  | t, c :: cs => if applyErr t c v ≠ 0 then ([], applyErr t c v) else patchRun v (madeP t c v) cs
theorem patchRun_full : ∀ (cs : List Change) (t : List Entry) (v : Int), FullT t → (patchRun v t cs).2 = 0 → FullT (patchRun v t cs).1
  | [], t, v, g, h => g
  | c :: cs, t, v, g, h => by
    unfold patchRun at h ⊢
    split
    · rename_i hc
      rw [if_pos hc] at h
      exact absurd h hc
    · rename_i hc
      rw [if_neg hc] at h
      obtain ⟨_, h2, h3, _⟩ := apply_0 (show applyErr t c v = 0 by simpa using hc)
      exact patchRun_full cs _ v (made_full g h2 h3) h
end Go.VM.Tryd
end
section
set_option maxHeartbeats 4000000
set_option linter.unusedVariables false
set_option linter.unusedSimpArgs false
open Go Go.VM Go.Proofs Tether
namespace Go.VM.Tryd
set_option maxRecDepth 100000
theorem patchRun_app : ∀ (cs ds : List Change) (t : List Entry) (v : Int), (patchRun v t cs).2 = 0 → patchRun v t (cs ++ ds) = patchRun v (patchRun v t cs).1 ds
  | [], ds, t, v, h => rfl
  | c :: cs, ds, t, v, h => by
    have hc : applyErr t c v = 0 := by
      by_cases hc : applyErr t c v = 0
      · exact hc
      · rw [patchRun, if_pos hc] at h
        exact absurd h hc
    have e : ∀ xs, patchRun v t (c :: xs) = patchRun v (madeP t c v) xs := fun xs => by rw [patchRun, if_neg (by simp [hc])]
    rw [e] at h
    rw [List.cons_append, e, e]
    exact patchRun_app cs ds _ v h
/-- the deletions leave what is left -/
theorem patch_dels {a b : List Entry} (ga : FullT a) {v : Int} (hv : verB v = true) : ∀ i, i ≤ a.length → patchRun v a (delsP a b i).1 = (leftP a b i, 0)
  | 0, _ => by rw [left_0]; rfl
  | i + 1, h => by
    have ih := patch_dels (b := b) ga hv i (by omega)
    have gl := left_full (b := b) ga i
    have hxm : a.getD i default ∈ a := getD_mem (by omega)
    cases hg : goneB a b i (a.getD i default) with
    | true =>
      obtain ⟨e1, e2⟩ := left_same (a := a) (b := b) (i := i) (by omega) (.inl hg)
      rw [e1, e2, ih]
    | false =>
      cases hb : badE b (a.getD i default) with
      | false =>
        obtain ⟨e1, e2⟩ := left_same (a := a) (b := b) (i := i) (by omega) (.inr hb)
        rw [e1, e2, ih]
      | true =>
        have hn := left_next (a := a) (b := b) (i := i) (by omega) hg hb
        have hd : (delsP a b (i + 1)).1 = (delsP a b i).1 ++ [delC (a.getD i default)] := by
          unfold goneB at hg
          rw [dels_next (by omega), stepD, if_neg (by rw [hg]; decide), if_pos hb]
        have hxl : a.getD i default ∈ leftP a b i := left_mem.2 ⟨hxm, hg⟩
        have h0 : applyErr (leftP a b i) (delC (a.getD i default)) v = 0 := apply_of gl hv (del_may gl hxl)
        rw [hd, patchRun_app _ _ _ _ (by rw [ih]), ih]
        unfold patchRun
        rw [if_neg (by simpa using h0), hn]
        rfl
/-- a tree on the way from what is left to the other one: the first so many are there -/
structure Way (a b t : List Entry) (i : Nat) : Prop where
  full : FullT t
  /-- of the first ones, each is there -/
  there : ∀ j, j < i → ∃ y ∈ t, shapeE y = shapeE (b.getD j default)
  /-- what is there is one of the first ones, or was left -/
  from_ : ∀ y ∈ t, (∃ j, j < i ∧ shapeE y = shapeE (b.getD j default)) ∨ y ∈ leftP a b a.length
  /-- what was left stays where nothing else comes -/
  keep : ∀ y ∈ leftP a b a.length, (∀ j, j < i → (b.getD j default).path ≠ y.path) → y ∈ t
theorem shape_path {x y : Entry} (h : shapeE x = shapeE y) : x.path = y.path := congrArg (·.1) h
theorem shape_folder {x y : Entry} (h : shapeE x = shapeE y) : x.folder = y.folder := congrArg (·.2.1) h
theorem left_in {a b : List Entry} (gb : FullT b) {y : Entry} (h : y ∈ leftP a b a.length) : ∃ x ∈ b, x.path = y.path ∧ x.folder = y.folder := (badE_iff gb).1 (left_bad h)
theorem way_paths {a b t : List Entry} (gb : FullT b) {i : Nat} (hi : i ≤ b.length) (w : Way a b t i) {y : Entry} (hy : y ∈ t) : ∃ x ∈ b, x.path = y.path ∧ x.folder = y.folder := by
  rcases w.from_ y hy with ⟨j, hj, h⟩ | h
  · exact ⟨b.getD j default, getD_mem (by omega), (shape_path h).symm, (shape_folder h).symm⟩
  · exact left_in gb h
theorem sub_len : ∀ {t b : List Entry}, SortedE t → (∀ y ∈ t, ∃ x ∈ b, x.path = y.path) → t.length ≤ b.length := by
  intro t b ht h
  have h1 : (t.map (·.path)).Nodup := by
    unfold List.Nodup
    rw [List.pairwise_map]
    refine ht.imp fun {x y} hlt e => ?_
    rw [e] at hlt
    exact lt_irrefl' _ hlt
  have := nodup_le (A := t.map (·.path)) (B := b.map (·.path)) h1 (by
    intro p hp
    obtain ⟨y, hy, rfl⟩ := List.mem_map.1 hp
    obtain ⟨x, hx, e⟩ := h y hy
    exact List.mem_map.2 ⟨x, hx, e⟩)
  simpa using this
theorem add_form {x : Entry} (h : entErr x = 0) : formP (addC x) = 0 := by
  obtain ⟨h1, h2, h3, _⟩ := entErr_iff.1 h
  unfold formP addC
  by_cases hf : x.folder = true
  · have ht : x.text = [] := folder_text h hf
    simp [hf, h1, ht]
  · have hf : x.folder = false := by simpa using hf
    simp [hf, h1]
    omega
theorem pre_lt : ∀ (a : Str) (c : UInt8) (x : Str), a < a ++ c :: x
  | [], c, x => List.nil_lt_cons c x
  | d :: a, c, x => by
    rw [List.cons_append, List.cons_lt_cons_iff]
    exact .inr ⟨rfl, pre_lt a c x⟩
theorem front_less {p : Str} (h : headOf p ≠ []) : headOf p < p := by
  have := pre_lt (headOf p) 47 (tailOf p)
  rwa [← front_eq h] at this
theorem made_add {t : List Entry} {x : Entry} {v : Int} (h : entErr x = 0) : madeP t (addC x) v = putE t ⟨x.path, x.folder, x.text, v⟩ := by
  by_cases hf : x.folder = true
  · have ht := folder_text h hf
    have hk : (addC x).kind = 1 := by simp [addC, hf]
    rw [madeP, if_pos hk, hf, ht]
    rfl
  · have hf : x.folder = false := by simpa using hf
    have hk : (addC x).kind = 2 := by simp [addC, hf]
    rw [madeP, if_neg (by omega), if_pos hk, hf]
    rfl
theorem at_inj {b : List Entry} (hs : SortedE b) {i j : Nat} (hi : i < b.length) (hj : j < b.length) (h : (b.getD i default).path = (b.getD j default).path) : i = j := by
  have e1 : b.getD i default = b[i] := by simp [List.getD, hi]
  have e2 : b.getD j default = b[j] := by simp [List.getD, hj]
  rw [e1, e2] at h
  exact sorted_inj hs hi hj h
theorem way_add {a b t : List Entry} (ga : FullT a) (gb : FullT b) {v : Int} (hv : verB v = true) {i : Nat} (hi : i < b.length) (w : Way a b t i) (hn : ¬ hasLike a (b.getD i default) = true) :
    applyErr t (addC (b.getD i default)) v = 0 ∧ Way a b (madeP t (addC (b.getD i default)) v) (i + 1) := by
  have hxm : b.getD i default ∈ b := getD_mem hi
  have hxe := gb.ents _ hxm
  have hinj : ∀ j, j < i → (b.getD j default).path ≠ (b.getD i default).path := fun j hj e => by
    have := at_inj gb.sorted (by omega) hi e
    omega
  have hf := add_form hxe
  have hk : (addC (b.getD i default)).kind = 1 ∨ (addC (b.getD i default)).kind = 2 := by unfold addC; dsimp only; split <;> simp
  have hma := made_add (t := t) (v := v) hxe
  have hsame : ∀ y ∈ t, y.path = (b.getD i default).path → y.folder = false ∧ (b.getD i default).folder = false := by
    intro y hy e
    obtain ⟨z, hz, h1, h2⟩ := way_paths gb (by omega) w hy
    have hzx := sorted_mem_inj gb.sorted hz hxm (h1.trans e)
    have hxf : (b.getD i default).folder = false := by
      rcases w.from_ y hy with ⟨j, hj, h3⟩ | h3
      · exact absurd ((shape_path h3).symm.trans e) (hinj j hj)
      · cases hzf : (b.getD i default).folder with
        | false => rfl
        | true =>
          exfalso
          apply hn
          have hfl := left_full (b := b) ga a.length
          rw [hasLike_left ga gb hxm, ← e, findE_mem hfl.sorted h3]
          simp only [hzf, Bool.true_or]
    rw [hzx] at h2
    exact ⟨by rw [← h2]; exact hxf, hxf⟩
  have hpar : headOf (b.getD i default).path = [] ∨ ∃ y ∈ t, y.path = headOf (b.getD i default).path ∧ y.folder = true := by
    by_cases h0 : headOf (b.getD i default).path = []
    · exact .inl h0
    · rcases gb.par _ hxm with h | ⟨z, hz, h1, h2⟩
      · exact .inl h
      · right
        obtain ⟨j, hj, rfl⟩ := List.getElem_of_mem hz
        have e1 : b.getD j default = b[j] := by simp [List.getD, hj]
        have e2 : b.getD i default = b[i]'hi := by simp [List.getD, hi]
        have hlt : j < i := by
          rcases Nat.lt_trichotomy j i with h | h | h
          · exact h
          · subst h
            rw [← e2] at h1
            exact absurd h1.symm (front_ne h0)
          · exfalso
            have h3 := List.pairwise_iff_getElem.1 gb.sorted i j hi hj h
            rw [h1, ← e2] at h3
            exact lt_asymm' h3 (front_less h0)
        obtain ⟨y, hy, h3⟩ := w.there j hlt
        rw [e1] at h3
        exact ⟨y, hy, (shape_path h3).trans h1, (shape_folder h3).trans h2⟩
  have hg : goalP (addC (b.getD i default)) = (b.getD i default).path := by rw [goalP, if_neg (by omega)]; rfl
  have m : MayT t (addC (b.getD i default)) := by
    refine ⟨by rw [hg]; exact hpar, fun k y hy e => ?_, fun k y hy e => (hsame y hy e).1, fun k1 k2 => by omega, fun k => by omega, fun k => by omega⟩
    have hxf := (hsame y hy e).2
    have : (addC (b.getD i default)).kind = 2 := by unfold addC; rw [hxf]; rfl
    omega
  have hm : mayP t (addC (b.getD i default)) = 0 := may_of w.full.sorted (by omega) m fun hb => absurd rfl hb
  have hmem : ∀ {y : Entry}, y ∈ madeP t (addC (b.getD i default)) v ↔ y = ⟨(b.getD i default).path, (b.getD i default).folder, (b.getD i default).text, v⟩ ∨ (y ∈ t ∧ y.path ≠ (b.getD i default).path) := fun {y} => by
    rw [hma, putE_mem w.full.sorted]
  have hlen : (madeP t (addC (b.getD i default)) v).length ≤ b.length := by
    refine sub_len (made_sorted w.full.sorted) fun y hy => ?_
    rcases hmem.1 hy with rfl | ⟨h1, _⟩
    · exact ⟨_, hxm, rfl⟩
    · obtain ⟨x, hx, h2, _⟩ := way_paths gb (by omega) w h1
      exact ⟨x, hx, h2⟩
  have hd : doneErr t (addC (b.getD i default)) v = 0 := by
    unfold doneErr
    have := gb.len
    rw [if_neg (by rintro ⟨h, _⟩; omega), if_neg (by omega)]
  have hr : rawErr t (addC (b.getD i default)) v = 0 := by rw [rawErr, if_neg (fun h => h hf), if_neg (fun h => h hm), hd]
  refine ⟨apply_of w.full hv hr, made_full w.full hv hr, fun j hj => ?_, fun y hy => ?_, fun y hy h => ?_⟩
  · rcases Nat.lt_or_ge j i with h1 | h1
    · obtain ⟨y, hy, h2⟩ := w.there j h1
      exact ⟨y, hmem.2 (.inr ⟨hy, by rw [shape_path h2]; exact hinj j h1⟩), h2⟩
    · obtain rfl : j = i := by omega
      exact ⟨_, hmem.2 (.inl rfl), rfl⟩
  · rcases hmem.1 hy with rfl | ⟨h1, _⟩
    · exact .inl ⟨i, by omega, rfl⟩
    · rcases w.from_ y h1 with ⟨j, hj, h2⟩ | h2
      · exact .inl ⟨j, by omega, h2⟩
      · exact .inr h2
  · exact hmem.2 (.inr ⟨w.keep y hy fun j hj => h j (by omega), fun e => h i (by omega) e.symm⟩)
theorem way_skip {a b t : List Entry} (ga : FullT a) (gb : FullT b) {i : Nat} (hi : i < b.length) (w : Way a b t i) (hn : hasLike a (b.getD i default) = true) : Way a b t (i + 1) := by
  have hxm : b.getD i default ∈ b := getD_mem hi
  refine ⟨w.full, fun j hj => ?_, fun y hy => ?_, fun y hy h => w.keep y hy fun j hj => h j (by omega)⟩
  · rcases Nat.lt_or_ge j i with h1 | h1
    · exact w.there j h1
    · obtain rfl : j = i := by omega
      have hfl := left_full (b := b) ga a.length
      have hL := hasLike_left ga gb hxm
      rw [hn] at hL
      cases hf : findE (leftP a b a.length) (b.getD j default).path with
      | none => rw [hf] at hL; cases hL
      | some y =>
        obtain ⟨h2, h3⟩ := findE_some hf
        have hya := (left_mem.1 h2).1
        have hlk : likeB y (b.getD j default) = true := by
          unfold hasLike at hn
          rw [← h3, findE_mem ga.sorted hya] at hn
          exact hn
        refine ⟨y, w.keep y h2 fun k hk e => ?_, of_decide_eq_true hlk⟩
        have := at_inj gb.sorted (by omega) hi (e.trans h3)
        omega
  · rcases w.from_ y hy with ⟨j, hj, h2⟩ | h2
    · exact .inl ⟨j, by omega, h2⟩
    · exact .inr h2
theorem patch_adds {a b : List Entry} (ga : FullT a) (gb : FullT b) {v : Int} (hv : verB v = true) : ∀ i, i ≤ b.length → ∃ t, patchRun v (leftP a b a.length) (addsP a b i) = (t, 0) ∧ Way a b t i
  | 0, _ => ⟨leftP a b a.length, rfl, left_full ga _, fun j hj => by omega, fun y hy => .inr hy, fun y hy _ => hy⟩
  | i + 1, h => by
    obtain ⟨t, h1, w⟩ := patch_adds ga gb hv i (by omega)
    rw [adds_next (by omega)]
    by_cases hl : hasLike a (b.getD i default) = true
    · rw [if_pos hl]
      exact ⟨t, h1, way_skip ga gb (by omega) w hl⟩
    · rw [if_neg hl]
      obtain ⟨h2, w2⟩ := way_add ga gb hv (by omega) w hl
      refine ⟨_, ?_, w2⟩
      rw [patchRun_app _ _ _ _ (by rw [h1]), h1]
      unfold patchRun
      rw [if_neg (by simpa using h2)]
      rfl
theorem like_of : ∀ {t b : List Entry}, SortedE t → SortedE b → (∀ x ∈ b, ∃ y ∈ t, shapeE y = shapeE x) → (∀ y ∈ t, ∃ x ∈ b, shapeE y = shapeE x) → t.map shapeE = b.map shapeE
  | [], [], _, _, _, _ => rfl
  | [], x :: b, _, _, h, _ => by obtain ⟨y, hy, _⟩ := h x (by simp); cases hy
  | y :: t, [], _, _, _, h => by obtain ⟨x, hx, _⟩ := h y (by simp); cases hx
  | y :: t, x :: b, ht, hb, h1, h2 => by
    obtain ⟨ht1, ht2⟩ := List.pairwise_cons.1 ht
    obtain ⟨hb1, hb2⟩ := List.pairwise_cons.1 hb
    have e : shapeE y = shapeE x := by
      obtain ⟨y', hy', e1⟩ := h1 x (by simp)
      obtain ⟨x', hx', e2⟩ := h2 y (by simp)
      rcases List.mem_cons.1 hy' with rfl | hy'
      · exact e1
      · rcases List.mem_cons.1 hx' with rfl | hx'
        · exact e2
        · exfalso
          have l1 := ht1 y' hy'
          have l2 := hb1 x' hx'
          rw [shape_path e1] at l1
          rw [← shape_path e2] at l2
          exact lt_asymm' l1 l2
    rw [List.map_cons, List.map_cons, e, like_of ht2 hb2 (fun z hz => ?_) (fun z hz => ?_)]
    · obtain ⟨y', hy', e1⟩ := h1 z (by simp [hz])
      rcases List.mem_cons.1 hy' with rfl | hy'
      · exfalso
        have := hb1 z hz
        rw [← shape_path e1, shape_path e] at this
        exact lt_irrefl' _ this
      · exact ⟨y', hy', e1⟩
    · obtain ⟨x', hx', e1⟩ := h2 z (by simp [hz])
      rcases List.mem_cons.1 hx' with rfl | hx'
      · exfalso
        have := ht1 z hz
        rw [shape_path e1, shape_path e] at this
        exact lt_irrefl' _ this
      · exact ⟨x', hx', e1⟩
theorem way_like {a b t : List Entry} (gb : FullT b) (w : Way a b t b.length) : likeL t b = true := by
  refine decide_eq_true (like_of w.full.sorted gb.sorted (fun x hx => ?_) (fun y hy => ?_))
  · obtain ⟨j, hj, rfl⟩ := List.getElem_of_mem hx
    have e1 : b.getD j default = b[j] := by simp [List.getD, hj]
    rw [← e1]
    exact w.there j hj
  · rcases w.from_ y hy with ⟨j, hj, h⟩ | h
    · exact ⟨_, getD_mem hj, h⟩
    · obtain ⟨x, hx, h1, _⟩ := left_in gb h
      obtain ⟨j, hj, rfl⟩ := List.getElem_of_mem hx
      have e1 : b.getD j default = b[j] := by simp [List.getD, hj]
      obtain ⟨y', hy', h2⟩ := w.there j hj
      rw [e1] at h2
      have := sorted_mem_inj w.full.sorted hy' hy ((shape_path h2).trans h1)
      subst this
      exact ⟨_, hx, h2⟩
/-- PATCHED BY WHAT PARTS THEM, ONE IS THE OTHER -/
theorem patch_diff {a b : List Entry} (ga : FullT a) (gb : FullT b) {v : Int} (hv : verB v = true) : ∃ t, patchRun v a (diffP a b) = (t, 0) ∧ FullT t ∧ likeL t b = true := by
  obtain ⟨t, h1, w⟩ := patch_adds ga gb hv b.length (Nat.le_refl _)
  have h2 := patch_dels (b := b) ga hv a.length (Nat.le_refl _)
  refine ⟨t, ?_, w.full, way_like gb w⟩
  unfold diffP
  rw [patchRun_app _ _ _ _ (by rw [h2]), h2, h1]
end Go.VM.Tryd
end
section
set_option maxHeartbeats 4000000
set_option linter.unusedVariables false
set_option linter.unusedSimpArgs false
open Go Go.VM Go.Proofs Tether
namespace Go.VM.Tryd
set_option maxRecDepth 100000
theorem dels_ok {a b : List Entry} (ga : FullT a) : ∀ i, i ≤ a.length → ∀ c ∈ (delsP a b i).1, okC c
  | 0, _, c, hc => by simp [delsP] at hc
  | i + 1, h, c, hc => by
    have ih := dels_ok (b := b) ga i (by omega)
    rw [dels_next (by omega)] at hc
    unfold stepD at hc
    split at hc
    · exact ih c hc
    · split at hc
      · rcases List.mem_append.1 hc with hc | hc
        · exact ih c hc
        · obtain rfl := List.mem_singleton.1 hc
          have := (ga.ok.2 _ (getD_mem (d := default) (show i < a.length by omega))).1
          exact ⟨this, by simp [delC], by simp [delC]⟩
      · exact ih c hc
theorem diff_ok {a b : List Entry} (ga : FullT a) (gb : FullT b) : okCs (diffP a b) := by
  refine ⟨by have := diffP_len a b; have := ga.len; have := gb.len; omega, fun c hc => ?_⟩
  rcases List.mem_append.1 hc with hc | hc
  · exact dels_ok ga _ (Nat.le_refl _) c hc
  · obtain ⟨x, hx, rfl⟩ := List.mem_map.1 hc
    have hxb : x ∈ b := by have := (List.mem_filter.1 hx).1; rwa [List.take_length] at this
    have := gb.ok.2 x hxb
    exact ⟨this.1, by simp [addC], this.2⟩
end Go.VM.Tryd
end
section
set_option maxHeartbeats 4000000
set_option linter.unusedVariables false
set_option linter.unusedSimpArgs false
open Go Go.VM Go.Proofs Tether
namespace Tether
structure Commit where
  number : Int
  key : Str
  changes : List Change
  deriving Inhabited, DecidableEq
structure Page where
  whole : Bool
  tree : List Entry
  commits : List Commit
  cursor : Int
  more : Bool
  deriving Inhabited, DecidableEq
end Tether
namespace Go.VM.Tryd
set_option maxRecDepth 100000
def cmE (c : Commit) : List V := [.int .i64 c.number, .str c.key, csV c.changes]
theorem cmE_eq (c : Commit) : cmE c = [.int .i64 c.number, .str c.key, csV c.changes] := rfl
attribute [go_sem] cmE_eq
abbrev cmsV (l : List Commit) : V := lstV 3 cmE default l
def pgE (p : Page) : List V := [.bool p.whole, esV p.tree, cmsV p.commits, .int .i64 p.cursor, .bool p.more]
theorem pgE_eq (p : Page) : pgE p = [.bool p.whole, esV p.tree, cmsV p.commits, .int .i64 p.cursor, .bool p.more] := rfl
attribute [go_sem] pgE_eq
def isCur (n : Int) : Bool := decide (0 ≤ n) && decide (n ≤ 1000000)
end Go.VM.Tryd
end
section
set_option maxHeartbeats 4000000
set_option linter.unusedVariables false
set_option linter.unusedSimpArgs false
open Go Go.VM Go.Proofs Tether
namespace Go.VM.Tryd
set_option maxRecDepth 100000
end Go.VM.Tryd
end
section
set_option maxHeartbeats 4000000
set_option linter.unusedVariables false
set_option linter.unusedSimpArgs false
open Go Go.VM Go.Proofs Tether
namespace Go.VM.Tryd
set_option maxRecDepth 100000
theorem allP_full {t : List Entry} (g : FullT t) (cs : List Change) (v : Int) : allP t cs v = allR t cs v := by
  rw [allP_R, if_neg (by simp [checkT_iff.2 g])]
end Go.VM.Tryd
end
