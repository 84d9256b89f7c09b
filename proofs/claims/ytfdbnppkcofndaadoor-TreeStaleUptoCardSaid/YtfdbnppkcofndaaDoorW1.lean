import Pc
import Derived.RangeFuncBound
import Derived.RangeFuncCalls
import Derived.RangeFuncLeaves
import Derived.Shelf.Abstract
import Derived.Shelf.RegionOpen
import Derived.WalkKit
import Derived.OwnWalkIn
import Derived.TacticsInMore
import Derived.LoopNIn
import Derived.LoopIn
section
set_option linter.unusedVariables false
open Go Go.VM Go.Proofs Go.RowKit Go.Shelf
namespace Go.VM.Tryd
attribute [local go_sem] Oper.semAt_some
theorem idx_calls (s : List UInt8) (w : World) : Calls Tryd.prog 122 #[.string ⟨s.toArray⟩, .string ⟨#[47]⟩] w fun e w' => e = .returned (.int .i64 (Lib.indexByte s 47)) ∧ KB (fun _ => False) w w' := by
  have h := (Index s).2 w (fun _ => False) (fun _ h => h.elim) #[.string ⟨s.toArray⟩, .string ⟨#[47]⟩] rfl (by simp [VRs, VR])
  refine h.mono ?_
  rintro e w' ⟨c', u, rfl, rfl, h1, h2⟩
  simp only [VR] at h2
  exact ⟨by rw [h2], h1.fr.os, h1.fr.tape, h1.fr.output, h1.fr.size, fun k hk _ => h1.fr.block k hk (fun h => h)⟩
theorem set_box {W : World} {B : Nat} {v u : Value} {el : TypeId} (h : W.heap[B]? = some (.cells #[u] el)) :
    (W.setCell ⟨B, 0, none⟩ v).heap[B]? = some (.cells #[v] el) ∧ KB (· = B) W (W.setCell ⟨B, 0, none⟩ v) := by
  refine ⟨by simp [World.setCell, Array.getElem?_modify, h], rfl, rfl, rfl, by simp [World.setCell], fun k hk hS => ?_⟩
  have hne : B ≠ k := fun e => hS e.symm
  simp [World.setCell, Array.getElem?_modify, hne]
def left (Bs : Nat) (W : World) : Nat := match W.cell? ⟨Bs, 0, none⟩ with | some (.string b) => b.size | _ => 0
theorem left_eq {W : World} {B : Nat} {u : ByteArray} {el : TypeId} (h : W.heap[B]? = some (.cells #[.string u] el)) : left B W = u.size := by
  simp [left, World.cell?, h]
set_option maxRecDepth 100000 in
set_option maxHeartbeats 2000000 in
theorem split_in (l Bs Bp Bv : Nat) (es ep ev : TypeId) (hsp : Bp ≠ Bs) (hsv : Bv ≠ Bs) (s : List UInt8) (hb : s.length < 4611686018427387904) (J Jx : List (List UInt8) → World → Prop)
    (hJ : ∀ pre A B, J pre A → KB (fun k => k = Bs ∨ k = Bp ∨ k = Bv) A B → J pre B)
    (hJx : ∀ pre A B, Jx pre A → KB (fun k => k = Bs ∨ k = Bp ∨ k = Bv) A B → Jx pre B)
    (hY : ∀ pre x A, (pre ++ [x]) <+: pcs s → J pre A → YieldAt Fence.wide 0 Tryd.prog l #[.string ⟨x.toArray⟩] A fun e B =>
      (e = .returned (.bool true) ∧ J (pre ++ [x]) B ∧ B.heap[Bs]? = A.heap[Bs]? ∧ B.heap[Bp]? = A.heap[Bp]? ∧ B.heap[Bv]? = A.heap[Bv]?) ∨ (e = .returned (.bool false) ∧ Jx (pre ++ [x]) B))
    (W : World) (h1 : W.heap[Bs]? = some (.cells #[.string ⟨s.toArray⟩] es)) (h2 : W.heap[Bp]? = some (.cells #[.string ⟨#[47]⟩] ep)) (h3 : W.heap[Bv]? = some (.cells #[.int .i64 0] ev)) (h0 : J [] W) :
    CallsIn Fence.wide 1 Tryd.prog 120 #[.func (.yield l) #[] #[], .pointer (some ⟨Bp, 0, none⟩), .pointer (some ⟨Bs, 0, none⟩), .pointer (some ⟨Bv, 0, none⟩)] W fun e B => (∃ v, e = .returned v) ∧ (J (pcs s) B ∨ ∃ pre, pre <+: pcs s ∧ Jx pre B) := by
  refine callsIn_of_wp Tryd.func120 rfl trivial ?_ rfl
  simp only [Tryd.ntmps120, List.size_toArray, List.length_cons, List.length_nil, Nat.reduceAdd, Nat.reduceSub, Array.replicate_succ, Array.replicate_zero, List.push_toArray, List.append_toArray, List.nil_append, List.cons_append]
  have c2 : W.cell? ⟨Bp, 0, none⟩ = some (.string ⟨#[47]⟩) := by simp [World.cell?, h2]
  have n1 : (1 : Nat) ≤ 1 := Nat.le_refl _
  gi_wp2
  gi_loopw [] (fun wr => ∃ (pre : List (List UInt8)) (r : List UInt8), pre ++ pcs r = pcs s ∧ r.length ≤ s.length ∧ J pre wr ∧ wr.heap[Bs]? = some (.cells #[.string ⟨r.toArray⟩] es) ∧ wr.heap[Bp]? = some (.cells #[.string ⟨#[47]⟩] ep) ∧ wr.heap[Bv]? = some (.cells #[.int .i64 0] ev))
    (fun wr => left Bs wr)
  case atStart => exact ⟨[], s, rfl, Nat.le_refl _, h0, h1, h2, h3⟩
  case round =>
    obtain ⟨pre, r, hpre, hlen, hj, k1, k2, k3⟩ := hrel
    have d1 : wr.cell? ⟨Bs, 0, none⟩ = some (.string ⟨r.toArray⟩) := by simp [World.cell?, k1]
    have d2 : wr.cell? ⟨Bp, 0, none⟩ = some (.string ⟨#[47]⟩) := by simp [World.cell?, k2]
    have d3 : wr.cell? ⟨Bv, 0, none⟩ = some (.int .i64 0) := by simp [World.cell?, k3]
    gi_wp2
    refine ⟨trivial, ?_⟩
    refine ((callsIn_wide (n := 0)).2 (idx_calls r wr)).mono ?_
    rintro e w2 ⟨rfl, hkb⟩
    have hlt : ∀ {k : Nat} {o : Obj}, wr.heap[k]? = some o → w2.heap[k]? = some o := fun {k o} h => (hkb.2.2.2.2 k (Array.getElem?_eq_some_iff.1 h).1 (fun h => h)).trans h
    have hj2 := hJ _ _ _ hj (hkb.mono fun k h => h.elim)
    have q1 := hlt k1
    have q2 := hlt k2
    have q3 := hlt k3
    have e1 : w2.cell? ⟨Bs, 0, none⟩ = some (.string ⟨r.toArray⟩) := by simp [World.cell?, q1]
    have e2 : w2.cell? ⟨Bp, 0, none⟩ = some (.string ⟨#[47]⟩) := by simp [World.cell?, q2]
    have e3 : w2.cell? ⟨Bv, 0, none⟩ = some (.int .i64 0) := by simp [World.cell?, q3]
    have f1 : w2.frozen? ⟨Bs, 0, none⟩ = false := by simp [World.frozen?, q1]
    rcases pcs_ix r with ⟨g1, g2⟩ | ⟨i, g1, g2, g3⟩
    · rw [g1]
      rw [g2] at hpre
      obtain ⟨fn, tmps, assign, body, hy, hR⟩ := hY pre r w2 (by rw [hpre]; exact List.prefix_refl _) hj2
      gi_wp2
      refine hR.mono ?_
      rintro e W3 (⟨rfl, hJ3, m1, m2, m3⟩ | ⟨rfl, hJx3⟩)
      · gi_wp2
        go_end0
        exact ⟨⟨_, rfl⟩, .inl (by rw [← hpre]; exact hJ3)⟩
      · gi_wp2
        go_end0
        exact ⟨⟨_, rfl⟩, .inr ⟨_, by rw [hpre]; exact List.prefix_refl _, hJx3⟩⟩
    · rw [g2]
      rw [g3] at hpre
      obtain ⟨fn, tmps, assign, body, hy, hR⟩ := hY pre (r.take i) w2 ⟨pcs (r.drop (i + 1)), by rw [← hpre]; simp⟩ hj2
      have hx : (⟨r.toArray⟩ : ByteArray).extract 0 i = ⟨(r.take i).toArray⟩ := by
        apply ByteArray.ext
        simp
      gi_wp2
      refine hR.mono ?_
      rintro e W3 (⟨rfl, hJ3, m1, m2, m3⟩ | ⟨rfl, hJx3⟩)
      · rw [q1] at m1
        rw [q2] at m2
        rw [q3] at m3
        have e1 : W3.cell? ⟨Bs, 0, none⟩ = some (.string ⟨r.toArray⟩) := by simp [World.cell?, m1]
        have e2 : W3.cell? ⟨Bp, 0, none⟩ = some (.string ⟨#[47]⟩) := by simp [World.cell?, m2]
        have f1 : W3.frozen? ⟨Bs, 0, none⟩ = false := by simp [World.frozen?, m1]
        gi_wp2
        have hx2 : (⟨r.toArray⟩ : ByteArray).extract (i + 1) r.length = ⟨(r.drop (i + 1)).toArray⟩ := by
          apply ByteArray.ext
          simp
          exact List.take_of_length_le (by simp)
        rw [hx2]
        obtain ⟨s1, s2⟩ := set_box (v := .string ⟨(r.drop (i + 1)).toArray⟩) m1
        refine ⟨⟨pre ++ [r.take i], r.drop (i + 1), by rw [← hpre]; simp, by simp; omega, hJ _ _ _ hJ3 (s2.mono fun k h => .inl h), s1, ?_, ?_⟩, ?_⟩
        · exact (s2.2.2.2.2 Bp (Array.getElem?_eq_some_iff.1 m2).1 hsp).trans m2
        · exact (s2.2.2.2.2 Bv (Array.getElem?_eq_some_iff.1 m3).1 hsv).trans m3
        · have z1 := left_eq s1
          have z2 := left_eq k1
          have y1 : ((r.drop (i + 1)).toArray : Array UInt8).size = r.length - (i + 1) := by simp
          have y2 : (r.toArray : Array UInt8).size = r.length := by simp
          show left Bs _ < left Bs wr
          rw [z1, z2]
          show ((r.drop (i + 1)).toArray : Array UInt8).size < (r.toArray : Array UInt8).size
          omega
      · gi_wp2
        refine bodyPost_ret (results_none rfl _ _ _) rfl ?_
        exact ⟨⟨_, rfl⟩, .inr ⟨_, ⟨pcs (r.drop (i + 1)), by rw [← hpre]; simp⟩, hJx3⟩⟩
end Go.VM.Tryd
end
section
set_option linter.unusedVariables false
open Go Go.VM Go.Proofs Go.RowKit
namespace Go.VM.Tryd
theorem ptr_is {c : Ctx} {r off : Nat} {u : Value} (h : VR c (.ptr r off) u) : ∃ b m, c.locs[r]? = some (some (b, m)) ∧ u = .pointer (some ⟨b, off, none⟩) := by
  simp only [VR] at h
  split at h
  · rename_i b m hl
    exact ⟨b, m, hl, h⟩
  · exact h.elim
theorem box_is {F : Fr} {c : Ctx} {H : Heap} {r b m : Nat} {v : V} (hs : SR F c H) (hr : H[r]? = some (.box [v])) (hl : c.locs[r]? = some (some (b, m))) : ∃ u el, c.w.heap[b]? = some (.cells #[u] el) ∧ VR c v u := by
  obtain ⟨O, h1, ⟨C, el, rfl, h2, h3, h4⟩, _, _⟩ := hs.blk r _ _ hr hl trivial
  obtain ⟨⟨u, h5, h6⟩, _⟩ := h4
  refine ⟨u, el, ?_, h6⟩
  have hC : C = #[u] := by
    apply Array.ext
    · simpa using h2
    · intro i hi1 hi2
      have : i = 0 := by simp at hi2; omega
      subst this
      have := Array.getElem?_eq_some_iff.1 h5
      obtain ⟨_, e⟩ := this
      simpa using e
  rw [← hC]
  exact h1
theorem itOk_split (s : List UInt8) (hb : s.length < 4611686018427387904) (H : Heap) (rs rp rv : Nat) (h1 : H[rs]? = some (.box [.str s])) (h2 : H[rp]? = some (.box [.str [47]])) (h3 : H[rv]? = some (.box [.int .i64 0])) (n1 : rp ≠ rs) (n2 : rv ≠ rs) :
    ItOk Tryd.prog (fun x : List UInt8 => Value.string ⟨x.toArray⟩) (pcs s) [rs, rp, rv] H (.fn 120 [] [.ptr rp 0, .ptr rs 0, .ptr rv 0]) := by
  intro F c u hs hu
  simp only [VR] at hu
  obtain ⟨us, ws, rfl, hus, hws, _, hv⟩ := hu
  have hus0 : us = #[] := by simpa using hus
  subst hus0
  obtain ⟨⟨u0, e0, v0⟩, ⟨u1, e1, v1⟩, ⟨u2, e2, v2⟩, _⟩ := hv
  obtain ⟨Bp, mp, lp, rfl⟩ := ptr_is v0
  obtain ⟨Bs, ms, ls, rfl⟩ := ptr_is v1
  obtain ⟨Bv, mv, lv, rfl⟩ := ptr_is v2
  have hws' : ws = #[.pointer (some ⟨Bp, 0, none⟩), .pointer (some ⟨Bs, 0, none⟩), .pointer (some ⟨Bv, 0, none⟩)] := by
    apply Array.ext
    · simpa using hws
    · intro i hi1 hi2
      have hi : i < 3 := by simpa using hi2
      rcases i with _ | _ | _ | i
      · obtain ⟨_, e⟩ := Array.getElem?_eq_some_iff.1 e0; simpa using e
      · obtain ⟨_, e⟩ := Array.getElem?_eq_some_iff.1 e1; simpa using e
      · obtain ⟨_, e⟩ := Array.getElem?_eq_some_iff.1 e2; simpa using e
      · omega
  subst hws'
  obtain ⟨x1, es, g1, y1⟩ := box_is hs h1 ls
  obtain ⟨x2, ep, g2, y2⟩ := box_is hs h2 lp
  obtain ⟨x3, ev, g3, y3⟩ := box_is hs h3 lv
  simp only [VR] at y1 y2 y3
  subst y1 y2 y3
  have d1 : Bp ≠ Bs := fun e => by subst e; exact n1 (hs.inj rp rs _ _ Bp mp ms h2 h1 trivial trivial lp ls)
  have d2 : Bv ≠ Bs := fun e => by subst e; exact n2 (hs.inj rv rs _ _ Bv mv ms h3 h1 trivial trivial lv ls)
  have hBl : ∀ k, (k = Bs ∨ k = Bp ∨ k = Bv) ↔ Bl c [rs, rp, rv] k := by
    intro k
    constructor
    · rintro (rfl | rfl | rfl)
      · exact ⟨rs, ms, by simp, ls⟩
      · exact ⟨rp, mp, by simp, lp⟩
      · exact ⟨rv, mv, by simp, lv⟩
    · rintro ⟨r, m, hr, hl⟩
      simp at hr
      rcases hr with rfl | rfl | rfl
      · rw [ls] at hl; simp at hl; exact .inl hl.1.symm
      · rw [lp] at hl; simp at hl; exact .inr (.inl hl.1.symm)
      · rw [lv] at hl; simp at hl; exact .inr (.inr hl.1.symm)
  refine ⟨120, _, rfl, enters_of Tryd.func120 (by kernel_rfl) rfl, ?_⟩
  intro l J Jx W1 hJ hJx hY hsame h0
  refine (callsIn_wide (n := 0)).2 ((callsIn_wide (n := 1)).1 (split_in l Bs Bp Bv es ep ev d1 d2 s hb J Jx (fun pre A B h k => hJ pre A B h (k.mono fun i hi => (hBl i).1 hi)) (fun pre A B h k => hJx pre A B h (k.mono fun i hi => (hBl i).1 hi)) (fun pre x A hpre hj => ?_) W1
    ((hsame Bs ((hBl Bs).1 (.inl rfl))).trans g1) ((hsame Bp ((hBl Bp).1 (.inr (.inl rfl)))).trans g2) ((hsame Bv ((hBl Bv).1 (.inr (.inr rfl)))).trans g3) h0))
  obtain ⟨fn, tmps, assign, body, hy, hR⟩ := hY pre x A hpre hj
  refine ⟨fn, tmps, assign, body, hy, hR.mono ?_⟩
  rintro e B (⟨rfl, k1, k2⟩ | k)
  · exact .inl ⟨rfl, k1, k2 Bs ((hBl Bs).1 (.inl rfl)), k2 Bp ((hBl Bp).1 (.inr (.inl rfl))), k2 Bv ((hBl Bv).1 (.inr (.inr rfl)))⟩
  · exact .inr k
end Go.VM.Tryd
end
section
set_option linter.unusedVariables false
set_option linter.unusedSimpArgs false
open Go Go.VM Go.Proofs
namespace Go.VM.Tryd
set_option maxRecDepth 100000
theorem splitSeq0 (s : List UInt8) : Meets Tryd.prog 109 [.str s, .str [47], .int .i64 0] (.fn 120 [] [.ptr 1 0, .ptr 0 0, .ptr 2 0]) [.box [.str s], .box [.str [47]], .box [.int .i64 0]] := by
  refine meets_x (fn := Tryd.f109) Tryd.func109 rfl fb109 (by kernel_rfl) (Nat.le_of_ble_eq_true rfl) ?_
  refine cx_sr ?_
  simp only [go_sem]
  repeat first | (with_reducible refine side_d ?_ ?_; exact byD) | (with_reducible refine side_q ?_ ?_; exact byQ)
  refine cx_sr ?_
  simp only [go_sem]
  repeat first | (with_reducible refine side_d ?_ ?_; exact byD) | (with_reducible refine side_q ?_ ?_; exact byQ)
  refine cx_ret ?_
  simp only [go_sem]
  exact finx_of 1 [0, 1, 2] rfl byC byC byC byC
theorem SplitSeq (s : List UInt8) : Meets Tryd.prog 88 [.str s, .str [47]] (.fn 120 [] [.ptr 1 0, .ptr 0 0, .ptr 2 0]) [.box [.str s], .box [.str [47]], .box [.int .i64 0]] := by
  refine meets_x (fn := Tryd.f88) Tryd.func88 rfl fb88 (by kernel_rfl) (Nat.le_of_ble_eq_true rfl) ?_
  refine cx_sr ?_
  simp only [go_sem]
  repeat first | (with_reducible refine side_d ?_ ?_; exact byD) | (with_reducible refine side_q ?_ ?_; exact byQ)
  refine cx_sr ?_
  simp only [go_sem]
  repeat first | (with_reducible refine side_d ?_ ?_; exact byD) | (with_reducible refine side_q ?_ ?_; exact byQ)
  refine cw_m (splitSeq0 s) byW byT ?_
  simp only [go_sem]
  repeat first | (with_reducible refine side_d ?_ ?_; exact byD) | (with_reducible refine side_q ?_ ?_; exact byQ)
  refine cx_ret ?_
  simp only [go_sem]
  exact finx_of 1 [0, 1, 2] rfl byC byC byC byC
end Go.VM.Tryd
end
