import Derived.Test.YtfdbnppkcofndaaDoorSV5
import Derived.Shelf.Sort.Plain
import Derived.Shelf.Slices.In.SortNone
import Derived.Sort.OwnSorted
set_option linter.unusedVariables false
set_option linter.unusedSimpArgs false
namespace Go.VM
open Go.Sort Go.Proofs
/-- as the library sorts texts -/
def sortS (ss : List (List UInt8)) : List (List UInt8) := ss.mergeSort fun x y => decide (x ≤ y)
theorem sortS_length (ss : List (List UInt8)) : (sortS ss).length = ss.length := List.length_mergeSort ss
variable {P : Program}
theorem cw_sort {f : Nat} (hname : fbody P f = true)
    (hcon : ∀ (blk off cap : Nat) (ss : List (List UInt8)) (w : World), Holds encStr w blk off ss.toArray → blk < w.heap.size → ss.length < 4611686018427387904 →
      Calls P f #[.slice (some ⟨blk, off, none⟩) ss.length cap] w fun e w' => e = .returned (.tuple #[]) ∧ ∃ n os, w' = grow (putRow encStr (Sort.ahead w n) blk off (ss.mergeSort fun x y => decide (x ≤ y)).toArray) os)
    (hnone : ∀ (p : Option Addr) (cap : Nat) (w : World), Calls P f #[.slice p 0 cap] w fun e w' => e = .returned (.tuple #[]) ∧ w' = w)
    {H : Heap} {r n : Nat} {nl : Option Bool} {t : Tg} {enc : List UInt8 → List V} (henc : ∀ s, enc s = [.str s]) {d : List UInt8} (ss : List (List UInt8)) (hn : n = ss.length) (h1 : hget H r = .arr 1 n (En enc d ss)) (hb : n ≤ 1099511627776)
    {K : V → Heap → Prop} (hk : K (.tup []) (hset H r (.arr 1 n (En enc d (sortS ss))))) : cw P f [.own nl r 1 0 n t] H K := by
  subst hn
  intro F c hs us hsz hus
  simp only [VRs, VR] at hus
  obtain ⟨⟨u1, g1, A, cap, rfl, a2, a3, a4, a5⟩, -⟩ := hus
  have hus : us = #[.slice A ss.length cap] := by
    apply Array.ext'
    apply List.ext_getElem?
    intro j
    rcases j with _ | j
    · simpa using g1
    · have : us.toList.length = 1 := by simpa using hsz
      rw [List.getElem?_eq_none (by omega)]
      simp
  subst hus
  have hlive := hget_live h1 trivial
  cases hss : ss with
  | nil =>
    subst hss
    refine .inl ⟨hname, Calls.mono (hnone A cap c.w) ?_⟩
    rintro e w' ⟨rfl, rfl⟩
    refine ⟨c, _, .tup [], hset H r (.arr 1 0 (En enc d (sortS []))), rfl, rfl, Le.refl _, ?_, by simp only [VR]; exact ⟨#[], rfl, rfl, by simp only [VRs]⟩, hk⟩
    have : sortS [] = [] := by simp [sortS]
    rw [this]
    have e : hset H r (.arr 1 0 (En enc d [])) = H := by
      apply List.ext_getElem?
      intro j
      rw [hset_get]
      split
      · rename_i hc
        obtain ⟨rfl, _⟩ := hc
        exact hlive.symm
      · rfl
    rw [e]
    exact hs
  | cons s0 ss0 =>
    have hpos : 0 < ss.length := by rw [hss]; simp
    rw [← hss]
    split at a5
    · rename_i b mm hrr
      obtain ⟨O, p1, ⟨C, el, rfl, p2, p3, p4⟩, p5, p6⟩ := hs.blk r _ _ hlive hrr trivial
      obtain rfl := a5.2 (by omega)
      have hbs : b < c.w.heap.size := (Array.getElem?_eq_some_iff.1 p1).1
      have hC : ∀ i, i < ss.length → C[i]? = some (encStr (ss.getD i d)) := by
        intro i hi
        obtain ⟨_, _, q⟩ := p4 i hi
        simp only [En, henc, VRs, VR, Nat.mul_one, Nat.add_zero] at q
        obtain ⟨⟨u, q1, q2⟩, -⟩ := q
        rw [q1, q2]
      have hHolds : Holds encStr c.w b 0 ss.toArray := holds_of_block p1 (by
        apply List.ext_getElem?
        intro j
        by_cases hj : j < ss.length
        · rw [List.getElem?_take_of_lt hj, Array.getElem?_toList, hC j hj]
          simp [hj]
        · rw [List.getElem?_take_eq_none (by omega), List.getElem?_eq_none (by simp; omega)])
      have hcall := hcon b 0 cap ss c.w hHolds hbs (by omega)
      refine .inl ⟨hname, Calls.mono (by rw [Nat.zero_mul]; exact hcall) ?_⟩
      rintro e w' ⟨rfl, q, os, rfl⟩
      have hl : (sortS ss).length = ss.length := sortS_length ss
      have hCo : Cont c (.cells (putCells encStr 0 (sortS ss).toArray C) el) mm (.arr 1 ss.length (En enc d (sortS ss))) := by
        refine ⟨_, el, rfl, by simp only [putCells, Array.size_mapIdx]; exact p2, p3, fun i hi => ?_⟩
        have hget : (putCells encStr 0 (sortS ss).toArray C)[i]? = some (encStr ((sortS ss).getD i d)) := by
          have hiC : i < C.size := by omega
          simp [putCells, hl, hi, hiC]
        refine ⟨by simp only [En, henc]; rfl, ?_, ?_⟩
        · intro j x hj hx
          have : j = 0 := by omega
          subst this
          simp only [Nat.mul_one, Nat.add_zero] at hx
          rw [hget] at hx
          cases hx
          rfl
        · simp only [En, henc, VRs, VR, Nat.mul_one, Nat.add_zero]
          exact ⟨⟨_, hget, rfl⟩, trivial⟩
      obtain ⟨k1, k2⟩ := hs.setW hlive trivial hrr _ _ hCo (putRow encStr (Sort.ahead c.w q) b 0 (sortS ss).toArray) rfl rfl rfl (by simp [putRow, mapBlock, Sort.ahead])
        (fun k hk => by simp [putRow, mapBlock, Sort.ahead, Array.getElem?_modify, Ne.symm hk]) (by simp [putRow, mapBlock, Sort.ahead, Array.getElem?_modify, p1, onCells])
      obtain ⟨k3, k4⟩ := k1.after (w' := grow (putRow encStr (Sort.ahead c.w q) b 0 (sortS ss).toArray) os)
        ⟨rfl, rfl, rfl, by simp [grow], fun k hk _ => by
          have hk' : k < (putRow encStr (Sort.ahead c.w q) b 0 (sortS ss).toArray).heap.size := hk
          simp only [grow]
          rw [Array.getElem?_append_left hk']⟩
      exact ⟨_, _, .tup [], _, rfl, rfl, k2.trans k4, k3, by simp only [VR]; exact ⟨#[], rfl, rfl, by simp only [VRs]⟩, hk⟩
    · exfalso; omega
    · exact a5.elim
end Go.VM
