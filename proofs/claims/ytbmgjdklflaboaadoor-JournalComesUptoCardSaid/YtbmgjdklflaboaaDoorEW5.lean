import Derived.Test.YtbmgjdklflaboaaDoorEW4
import Derived.Test.YtbmgjdklflaboaaDoorEV6
section
set_option maxHeartbeats 4000000
set_option linter.unusedVariables false
set_option linter.unusedSimpArgs false
open Go Go.VM Go.Proofs Tether
namespace Go.VM.Tryd
set_option maxRecDepth 100000
theorem openP_base {j : Journal} (h : (openP j).2 = 0) : FullT j.base := by
  have h0 : checkT j.base = 0 := by unfold openP at h; grind
  exact checkT_iff.1 h0
set_option maxHeartbeats 4000000 in
theorem CommitOf_c (j : Journal) (key : Str) (l : List Change) (ok : okJ j) (hk : key.length ≤ 1048576) (okl : okCs l) (h0 : (openP j).2 = 0) :
    Meets Tryd.prog 14 [.agg (jnE j), .str key, csV l] (.tup [.agg (jnE (commitP j key l).1), .int .i64 (commitP j key l).2.1, .int .i64 (commitP j key l).2.2]) [] := by
  refine meets_x (fn := Tryd.f14) Tryd.func14 rfl fb14 (by kernel_rfl) (Nat.le_of_ble_eq_true rfl) ?_
  have hbl := ok.1.1
  have hcl := ok.2.1
  have hll := okl.1
  obtain ⟨hr1, hr2, hr3⟩ := openP_rng h0
  have hfl := openP_ok ok h0
  have okn := hfl.ok
  have hgd := checkT_good okn (checkT_iff.2 hfl)
  have hbf := openP_base h0
  have hgb := checkT_good ok.1 (checkT_iff.2 hbf)
  have hc1 : commitP j key l = if isKey key = false then (noJ, 0, 1) else if 0 ≤ idxF (isK key) j.commits then (j, (j.commits.getD (idxF (isK key) j.commits).toNat default).number, 0)
      else if l = [] then (noJ, 0, 1) else if 1000000 < j.first + j.commits.length then (noJ, 0, 3)
      else if (allP (openP j).1 l (j.first + j.commits.length)).2.2 ≠ 0 then (noJ, 0, (allP (openP j).1 l (j.first + j.commits.length)).2.2)
      else (addJ j ⟨j.first + j.commits.length, key, l⟩, j.first + j.commits.length, 0) := by
    rw [commitP, if_neg (by simpa using h0)]
  refine cx_sr ?_
  simp only [go_sem]
  repeat first | (with_reducible refine side_d ?_ ?_; exact byD) | (with_reducible refine side_q ?_ ?_; exact byQ)
  refine cx_seq ?_
  refine cx_sr ?_
  simp only [go_sem]
  refine cw_m (RIsKey_c key (by omega)) byW byT ?_
  simp only [go_sem]
  intro t17 e17
  subst e17
  refine cx_if _ rfl (fun h17 => ?_) (fun h17 => ?_)
  ·
   (try simp only [go_sem] at h17)
   refine cx_sr ?_
   simp only [go_sem]
   refine cx_ret ?_
   simp only [go_sem]
   have hc : commitP j key l = (noJ, 0, 1) := by rw [hc1, if_pos (by simpa using h17)]
   rw [hc]
   exact finx_of 2 [] rfl byC byC byC byC
  ·
   (try simp only [go_sem] at h17)
   have hkk : ¬ isKey key = false := by simpa using h17
   refine cx_skip ?_
   (try simp only [go_sem])
   refine cx_seq ?_
   refine cx_sr ?_
   simp only [go_sem]
   refine cx_block ?_
   refine cx_loopk (σ := Nat) (fun i => i ≤ j.commits.length ∧ ∀ a, a < i → isK key (j.commits.getD a default) = false) (fun i => [⟨9, 0, [], .int .i64 (i : Nat)⟩]) [1, 2, 3, 6] (fun i => [.box (jnE j), .box [.bad, .bad, .bad]]) (fun i => j.commits.length - i) 0 ⟨Nat.zero_le _, fun b hb => absurd hb (Nat.not_lt_zero b)⟩ (fun _ => (Nat.zero_le _)) byC (fun i hI1 => ?_)
   simp only [go_sem]
   refine cx_seq ?_
   refine cx_sr ?_
   simp only [go_sem]
   repeat first | (with_reducible refine side_d ?_ ?_; exact byD) | (with_reducible refine side_q ?_ ?_; exact byQ)
   intro t23 e23
   subst e23
   refine cx_if _ rfl (fun h23 => ?_) (fun h23 => ?_)
   ·
    (try simp only [go_sem] at h23)
    refine cx_skip ?_
    (try simp only [go_sem])
    refine cx_seq (cx_block ?_)
    refine cx_sr ?_
    simp only [go_sem]
    repeat first | (with_reducible refine side_d ?_ ?_; exact byD) | (with_reducible refine side_q ?_ ?_; exact byQ)
    intro t33 e33
    subst e33
    refine cx_if _ rfl (fun h33 => ?_) (fun h33 => ?_)
    ·
     (try simp only [go_sem] at h33)
     refine cx_joinr ([⟨6, 0, [], .ptr 0 0⟩, ⟨7, 0, [], .int .i64 (j.commits.getD i default).number⟩, ⟨8, 0, [], .int .i64 0⟩]) ([.box (jnE j)]) (cx_drawZ mixed [0] [7] (.firstZ 0 (.firstZ 1 (.firstZ 2 (.firstZ 3 (.firstZ 4 (.firstZ 5 (.firstZ 6 (.one 7 (.firstZ 8 (.firstZ 9 (.done))))))))))) (by kernel_rfl) ?_) ?_
     · ((try simp only [hj]); simp only [go_sem]; repeat' (first | apply And.intro | (intro x e; (try replace e := w64 e (by omega) (by omega))))) <;> first | (refine Sd.mk ?_; omega) | (refine Sq.mk ?_; omega) | (refine Sq.mk ?_; and_intros <;> first | trivial | rfl | omega | assumption | exact Nat.le_refl _ | exact wks_refl _ | exact wk_refl _ | (intros; exact wks_refl _) | (simp; done) | (simp; omega)) | (refine ⟨[1], rfl, rfl, ?_, ?_⟩ <;> (first | trivial | (simp only [go_sem, wk, wks, wkB, wkH, subw, subEw, hprew, ltb, subr, subEr]; done) | (simp only [go_sem, wk, wks, wkB, wkH, subw, subEw, hprew, ltb, subr, subEr]; and_intros <;> first | trivial | rfl | omega | assumption | exact Nat.le_refl _ | exact wks_refl _ | exact wk_refl _ | (intros; exact wks_refl _) | (subst_vars; intro q hq; refine wks_mp_snoc (fun x => ?_) ?_ ?_; exact rnVs_no _ rfl; rfl; simp at hq; omega) | (simp; done) | (simp; omega))))
     refine cx_ret ?_
     simp only [go_sem]
     have hix : idxF (isK key) j.commits = (i : Nat) := idxF_at (d := default) (by omega) hI1.2 (by simpa [isK] using h33)
     have hc : commitP j key l = (j, (j.commits.getD i default).number, 0) := by rw [hc1, if_neg hkk, if_pos (by omega), hix, Int.toNat_natCast]
     rw [hc]
     exact finx_of 2 [] rfl byC byC byC byC
    ·
     (try simp only [go_sem] at h33)
     refine cx_skip ?_
     (try simp only [go_sem])
     refine cx_region ?_
     simp only [go_sem]
     intro t25 e25
     (try replace e25 := w64 e25 (by omega) (by omega))
     refine rnd_next (i + 1) ⟨by omega, all_next hI1.2 (by simpa [isK] using h33)⟩ (by first | omega | (dsimp only; omega)) byC
   ·
    (try simp only [go_sem] at h23)
    have hix : idxF (isK key) j.commits = -1 := idxF_none (d := default) fun a ha => hI1.2 a (by omega)
    have hc0 : commitP j key l = if l = [] then (noJ, 0, 1) else if 1000000 < j.first + j.commits.length then (noJ, 0, 3)
        else if (allP (openP j).1 l (j.first + j.commits.length)).2.2 ≠ 0 then (noJ, 0, (allP (openP j).1 l (j.first + j.commits.length)).2.2)
        else (addJ j ⟨j.first + j.commits.length, key, l⟩, j.first + j.commits.length, 0) := by
      rw [hc1, if_neg hkk, if_neg (by omega)]
    refine cx_exit ?_
    simp only [go_sem]
    refine cx_sr ?_
    simp only [go_sem]
    intro t46 e46
    (try replace e46 := w64 e46 (by omega) (by omega))
    obtain rfl : t46 = j.first + j.commits.length := by omega
    refine cx_seq ?_
    refine cx_sr ?_
    simp only [go_sem]
    intro t49 e49
    subst e49
    refine cx_if _ rfl (fun h49 => ?_) (fun h49 => ?_)
    ·
     (try simp only [go_sem] at h49)
     refine cx_sr ?_
     simp only [go_sem]
     refine cx_ret ?_
     simp only [go_sem]
     have hc : commitP j key l = (noJ, 0, 1) := by rw [hc0, if_pos (List.length_eq_zero_iff.1 (by omega))]
     rw [hc]
     exact finx_of 2 [] rfl byC byC byC byC
    ·
     (try simp only [go_sem] at h49)
     have hne : ¬ l = [] := by rintro rfl; simp at h49
     refine cx_skip ?_
     (try simp only [go_sem])
     refine cx_seq ?_
     refine cx_sr ?_
     simp only [go_sem]
     intro t52 e52
     subst e52
     refine cx_if _ rfl (fun h52 => ?_) (fun h52 => ?_)
     ·
      (try simp only [go_sem] at h52)
      refine cx_sr ?_
      simp only [go_sem]
      refine cx_ret ?_
      simp only [go_sem]
      have hc : commitP j key l = (noJ, 0, 3) := by rw [hc0, if_neg hne, if_pos h52]
      rw [hc]
      exact finx_of 2 [] rfl byC byC byC byC
     ·
      (try simp only [go_sem] at h52)
      have hal2 : allP (openP j).1 l (j.first + j.commits.length) = allR (openP j).1 l (j.first + j.commits.length) := allP_full hfl _ _
      rw [hal2] at hc0
      refine cx_skip ?_
      (try simp only [go_sem])
      refine cx_sr ?_
      simp only [go_sem]
      refine cw_m (TreeOf_c j ok h0) byW byT ?_
      simp only [go_sem]
      refine cw_m (AllOf_c (openP j).1 l (j.first + j.commits.length) hgd okl) byW byT ?_
      simp only [go_sem]
      refine cx_seq ?_
      refine cx_sr ?_
      simp only [go_sem]
      intro t64 e64
      subst e64
      refine cx_if _ rfl (fun h64 => ?_) (fun h64 => ?_)
      ·
       (try simp only [go_sem] at h64)
       refine cx_sr ?_
       simp only [go_sem]
       refine cx_ret ?_
       simp only [go_sem]
       have h : (allR (openP j).1 l (j.first + j.commits.length)).2.2 ≠ 0 := by simpa using h64
       have hc : commitP j key l = (noJ, 0, (allR (openP j).1 l (j.first + j.commits.length)).2.2) := by rw [hc0, if_neg hne, if_neg h52, if_pos h]
       rw [hc]
       exact finx_of 2 [] rfl byC byC byC byC
      ·
       (try simp only [go_sem] at h64)
       have h : ¬ (allR (openP j).1 l (j.first + j.commits.length)).2.2 ≠ 0 := by simpa using h64
       have hc : commitP j key l = (addJ j ⟨j.first + j.commits.length, key, l⟩, j.first + j.commits.length, 0) := by rw [hc0, if_neg hne, if_neg h52, if_neg h]
       refine cx_skip ?_
       (try simp only [go_sem])
       refine cx_joinr ([⟨3, 0, [], .ptr 0 0⟩, ⟨6, 0, [], .ptr 1 0⟩, ⟨10, 0, [], .int .i64 (j.first + j.commits.length)⟩, ⟨14, 0, [], .ptr 2 0⟩]) ([.box (jnE j), .box [.bad, .bad, .bad], .box [esV j.base, .int .i64 j.first, .own none 3 3 0 (j.commits ++ [Commit.mk (j.first + j.commits.length) key l]).length .loose], .arr 3 (j.commits ++ [Commit.mk (j.first + j.commits.length) key l]).length (En cmE default (j.commits ++ [Commit.mk (j.first + j.commits.length) key l]))]) (cx_drawZ mixed [0] [13, 16] (.firstZ 0 (.firstZ 1 (.firstZ 2 (.firstZ 3 (.firstZ 5 (.firstZ 6 (.firstZ 8 (.firstZ 9 (.firstZ 10 (.firstZ 11 (.alt 4 (.alt 7 (.alt 12 (.alt 13 (.firstZ 14 (.one 15 (.one 16 (.done)))) (.one 15 (.one 13 (.firstZ 14 (.one 16 (.done)))))) (.one 15 (.one 12 (.one 13 (.firstZ 14 (.one 16 (.done))))))) (.alt 12 (.alt 7 (.alt 13 (.firstZ 14 (.one 15 (.one 16 (.done)))) (.one 15 (.one 13 (.firstZ 14 (.one 16 (.done)))))) (.one 15 (.one 7 (.one 13 (.firstZ 14 (.one 16 (.done))))))) (.one 15 (.alt 7 (.one 12 (.one 13 (.firstZ 14 (.one 16 (.done))))) (.one 12 (.one 7 (.one 13 (.firstZ 14 (.one 16 (.done)))))))))) (.alt 12 (.alt 4 (.alt 7 (.alt 13 (.firstZ 14 (.one 15 (.one 16 (.done)))) (.one 15 (.one 13 (.firstZ 14 (.one 16 (.done)))))) (.one 15 (.one 7 (.one 13 (.firstZ 14 (.one 16 (.done))))))) (.one 15 (.one 4 (.one 7 (.one 13 (.firstZ 14 (.one 16 (.done)))))))) (.one 15 (.alt 4 (.alt 7 (.one 12 (.one 13 (.firstZ 14 (.one 16 (.done))))) (.one 12 (.one 7 (.one 13 (.firstZ 14 (.one 16 (.done))))))) (.one 12 (.one 4 (.one 7 (.one 13 (.firstZ 14 (.one 16 (.done))))))))))))))))))))) (by kernel_rfl) ?_) ?_
       ·
        simp only [go_sem]
        refine ⟨?_, ?_⟩
        ·
         refine ⟨?_, ?_⟩
         ·
          repeat first | (with_reducible refine side_d ?_ ?_; exact byD) | (with_reducible refine side_q ?_ ?_; exact byQ)
          refine ⟨?_, ?_⟩
          ·
           refine ⟨?_, ?_⟩
           ·
            repeat first | (with_reducible refine side_d ?_ ?_; exact byD) | (with_reducible refine side_q ?_ ?_; exact byQ)
            first | (refine ⟨[0, 1, 6, 5], rfl, rfl, ?_, ?_⟩ <;> (first | trivial | (simp only [go_sem, wk, wks, wkB, wkH, subw, subEw, hprew, ltb, subr, subEr]; done) | (simp only [go_sem, wk, wks, wkB, wkH, subw, subEw, hprew, ltb, subr, subEr]; and_intros <;> first | trivial | rfl | omega | assumption | exact Nat.le_refl _ | exact wks_refl _ | exact wk_refl _ | (intros; exact wks_refl _) | (subst_vars; intro q hq; refine wks_mp_snoc (fun x => ?_) ?_ ?_; exact rnVs_no _ rfl; rfl; simp at hq; omega) | (simp; done) | (simp; omega))))
           ·
            repeat first | (with_reducible refine side_d ?_ ?_; exact byD) | (with_reducible refine side_q ?_ ?_; exact byQ)
            first | (refine ⟨[0, 1, 5, 6], rfl, rfl, ?_, ?_⟩ <;> (first | trivial | (simp only [go_sem, wk, wks, wkB, wkH, subw, subEw, hprew, ltb, subr, subEr]; done) | (simp only [go_sem, wk, wks, wkB, wkH, subw, subEw, hprew, ltb, subr, subEr]; and_intros <;> first | trivial | rfl | omega | assumption | exact Nat.le_refl _ | exact wks_refl _ | exact wk_refl _ | (intros; exact wks_refl _) | (subst_vars; intro q hq; refine wks_mp_snoc (fun x => ?_) ?_ ?_; exact rnVs_no _ rfl; rfl; simp at hq; omega) | (simp; done) | (simp; omega))))
          ·
           repeat first | (with_reducible refine side_d ?_ ?_; exact byD) | (with_reducible refine side_q ?_ ?_; exact byQ)
           first | (refine ⟨[0, 1, 4, 6], rfl, rfl, ?_, ?_⟩ <;> (first | trivial | (simp only [go_sem, wk, wks, wkB, wkH, subw, subEw, hprew, ltb, subr, subEr]; done) | (simp only [go_sem, wk, wks, wkB, wkH, subw, subEw, hprew, ltb, subr, subEr]; and_intros <;> first | trivial | rfl | omega | assumption | exact Nat.le_refl _ | exact wks_refl _ | exact wk_refl _ | (intros; exact wks_refl _) | (subst_vars; intro q hq; refine wks_mp_snoc (fun x => ?_) ?_ ?_; exact rnVs_no _ rfl; rfl; simp at hq; omega) | (simp; done) | (simp; omega))))
         ·
          refine ⟨?_, ?_⟩
          ·
           refine ⟨?_, ?_⟩
           ·
            repeat first | (with_reducible refine side_d ?_ ?_; exact byD) | (with_reducible refine side_q ?_ ?_; exact byQ)
            refine ⟨?_, ?_⟩
            ·
             repeat first | (with_reducible refine side_d ?_ ?_; exact byD) | (with_reducible refine side_q ?_ ?_; exact byQ)
             first | (refine ⟨[0, 1, 6, 5], rfl, rfl, ?_, ?_⟩ <;> (first | trivial | (simp only [go_sem, wk, wks, wkB, wkH, subw, subEw, hprew, ltb, subr, subEr]; done) | (simp only [go_sem, wk, wks, wkB, wkH, subw, subEw, hprew, ltb, subr, subEr]; and_intros <;> first | trivial | rfl | omega | assumption | exact Nat.le_refl _ | exact wks_refl _ | exact wk_refl _ | (intros; exact wks_refl _) | (subst_vars; intro q hq; refine wks_mp_snoc (fun x => ?_) ?_ ?_; exact rnVs_no _ rfl; rfl; simp at hq; omega) | (simp; done) | (simp; omega))))
            ·
             repeat first | (with_reducible refine side_d ?_ ?_; exact byD) | (with_reducible refine side_q ?_ ?_; exact byQ)
             first | (refine ⟨[0, 1, 5, 6], rfl, rfl, ?_, ?_⟩ <;> (first | trivial | (simp only [go_sem, wk, wks, wkB, wkH, subw, subEw, hprew, ltb, subr, subEr]; done) | (simp only [go_sem, wk, wks, wkB, wkH, subw, subEw, hprew, ltb, subr, subEr]; and_intros <;> first | trivial | rfl | omega | assumption | exact Nat.le_refl _ | exact wks_refl _ | exact wk_refl _ | (intros; exact wks_refl _) | (subst_vars; intro q hq; refine wks_mp_snoc (fun x => ?_) ?_ ?_; exact rnVs_no _ rfl; rfl; simp at hq; omega) | (simp; done) | (simp; omega))))
           ·
            repeat first | (with_reducible refine side_d ?_ ?_; exact byD) | (with_reducible refine side_q ?_ ?_; exact byQ)
            first | (refine ⟨[0, 1, 4, 6], rfl, rfl, ?_, ?_⟩ <;> (first | trivial | (simp only [go_sem, wk, wks, wkB, wkH, subw, subEw, hprew, ltb, subr, subEr]; done) | (simp only [go_sem, wk, wks, wkB, wkH, subw, subEw, hprew, ltb, subr, subEr]; and_intros <;> first | trivial | rfl | omega | assumption | exact Nat.le_refl _ | exact wks_refl _ | exact wk_refl _ | (intros; exact wks_refl _) | (subst_vars; intro q hq; refine wks_mp_snoc (fun x => ?_) ?_ ?_; exact rnVs_no _ rfl; rfl; simp at hq; omega) | (simp; done) | (simp; omega))))
          ·
           refine ⟨?_, ?_⟩
           ·
            repeat first | (with_reducible refine side_d ?_ ?_; exact byD) | (with_reducible refine side_q ?_ ?_; exact byQ)
            first | (refine ⟨[0, 1, 3, 6], rfl, rfl, ?_, ?_⟩ <;> (first | trivial | (simp only [go_sem, wk, wks, wkB, wkH, subw, subEw, hprew, ltb, subr, subEr]; done) | (simp only [go_sem, wk, wks, wkB, wkH, subw, subEw, hprew, ltb, subr, subEr]; and_intros <;> first | trivial | rfl | omega | assumption | exact Nat.le_refl _ | exact wks_refl _ | exact wk_refl _ | (intros; exact wks_refl _) | (subst_vars; intro q hq; refine wks_mp_snoc (fun x => ?_) ?_ ?_; exact rnVs_no _ rfl; rfl; simp at hq; omega) | (simp; done) | (simp; omega))))
           ·
            repeat first | (with_reducible refine side_d ?_ ?_; exact byD) | (with_reducible refine side_q ?_ ?_; exact byQ)
            first | (refine ⟨[0, 1, 3, 6], rfl, rfl, ?_, ?_⟩ <;> (first | trivial | (simp only [go_sem, wk, wks, wkB, wkH, subw, subEw, hprew, ltb, subr, subEr]; done) | (simp only [go_sem, wk, wks, wkB, wkH, subw, subEw, hprew, ltb, subr, subEr]; and_intros <;> first | trivial | rfl | omega | assumption | exact Nat.le_refl _ | exact wks_refl _ | exact wk_refl _ | (intros; exact wks_refl _) | (subst_vars; intro q hq; refine wks_mp_snoc (fun x => ?_) ?_ ?_; exact rnVs_no _ rfl; rfl; simp at hq; omega) | (simp; done) | (simp; omega))))
        ·
         refine ⟨?_, ?_⟩
         ·
          refine ⟨?_, ?_⟩
          ·
           refine ⟨?_, ?_⟩
           ·
            repeat first | (with_reducible refine side_d ?_ ?_; exact byD) | (with_reducible refine side_q ?_ ?_; exact byQ)
            refine ⟨?_, ?_⟩
            ·
             repeat first | (with_reducible refine side_d ?_ ?_; exact byD) | (with_reducible refine side_q ?_ ?_; exact byQ)
             first | (refine ⟨[0, 1, 6, 5], rfl, rfl, ?_, ?_⟩ <;> (first | trivial | (simp only [go_sem, wk, wks, wkB, wkH, subw, subEw, hprew, ltb, subr, subEr]; done) | (simp only [go_sem, wk, wks, wkB, wkH, subw, subEw, hprew, ltb, subr, subEr]; and_intros <;> first | trivial | rfl | omega | assumption | exact Nat.le_refl _ | exact wks_refl _ | exact wk_refl _ | (intros; exact wks_refl _) | (subst_vars; intro q hq; refine wks_mp_snoc (fun x => ?_) ?_ ?_; exact rnVs_no _ rfl; rfl; simp at hq; omega) | (simp; done) | (simp; omega))))
            ·
             repeat first | (with_reducible refine side_d ?_ ?_; exact byD) | (with_reducible refine side_q ?_ ?_; exact byQ)
             first | (refine ⟨[0, 1, 5, 6], rfl, rfl, ?_, ?_⟩ <;> (first | trivial | (simp only [go_sem, wk, wks, wkB, wkH, subw, subEw, hprew, ltb, subr, subEr]; done) | (simp only [go_sem, wk, wks, wkB, wkH, subw, subEw, hprew, ltb, subr, subEr]; and_intros <;> first | trivial | rfl | omega | assumption | exact Nat.le_refl _ | exact wks_refl _ | exact wk_refl _ | (intros; exact wks_refl _) | (subst_vars; intro q hq; refine wks_mp_snoc (fun x => ?_) ?_ ?_; exact rnVs_no _ rfl; rfl; simp at hq; omega) | (simp; done) | (simp; omega))))
           ·
            repeat first | (with_reducible refine side_d ?_ ?_; exact byD) | (with_reducible refine side_q ?_ ?_; exact byQ)
            first | (refine ⟨[0, 1, 4, 6], rfl, rfl, ?_, ?_⟩ <;> (first | trivial | (simp only [go_sem, wk, wks, wkB, wkH, subw, subEw, hprew, ltb, subr, subEr]; done) | (simp only [go_sem, wk, wks, wkB, wkH, subw, subEw, hprew, ltb, subr, subEr]; and_intros <;> first | trivial | rfl | omega | assumption | exact Nat.le_refl _ | exact wks_refl _ | exact wk_refl _ | (intros; exact wks_refl _) | (subst_vars; intro q hq; refine wks_mp_snoc (fun x => ?_) ?_ ?_; exact rnVs_no _ rfl; rfl; simp at hq; omega) | (simp; done) | (simp; omega))))
          ·
           repeat first | (with_reducible refine side_d ?_ ?_; exact byD) | (with_reducible refine side_q ?_ ?_; exact byQ)
           first | (refine ⟨[0, 1, 3, 6], rfl, rfl, ?_, ?_⟩ <;> (first | trivial | (simp only [go_sem, wk, wks, wkB, wkH, subw, subEw, hprew, ltb, subr, subEr]; done) | (simp only [go_sem, wk, wks, wkB, wkH, subw, subEw, hprew, ltb, subr, subEr]; and_intros <;> first | trivial | rfl | omega | assumption | exact Nat.le_refl _ | exact wks_refl _ | exact wk_refl _ | (intros; exact wks_refl _) | (subst_vars; intro q hq; refine wks_mp_snoc (fun x => ?_) ?_ ?_; exact rnVs_no _ rfl; rfl; simp at hq; omega) | (simp; done) | (simp; omega))))
         ·
          refine ⟨?_, ?_⟩
          ·
           refine ⟨?_, ?_⟩
           ·
            repeat first | (with_reducible refine side_d ?_ ?_; exact byD) | (with_reducible refine side_q ?_ ?_; exact byQ)
            first | (refine ⟨[0, 1, 2, 6], rfl, rfl, ?_, ?_⟩ <;> (first | trivial | (simp only [go_sem, wk, wks, wkB, wkH, subw, subEw, hprew, ltb, subr, subEr]; done) | (simp only [go_sem, wk, wks, wkB, wkH, subw, subEw, hprew, ltb, subr, subEr]; and_intros <;> first | trivial | rfl | omega | assumption | exact Nat.le_refl _ | exact wks_refl _ | exact wk_refl _ | (intros; exact wks_refl _) | (subst_vars; intro q hq; refine wks_mp_snoc (fun x => ?_) ?_ ?_; exact rnVs_no _ rfl; rfl; simp at hq; omega) | (simp; done) | (simp; omega))))
           ·
            repeat first | (with_reducible refine side_d ?_ ?_; exact byD) | (with_reducible refine side_q ?_ ?_; exact byQ)
            first | (refine ⟨[0, 1, 2, 6], rfl, rfl, ?_, ?_⟩ <;> (first | trivial | (simp only [go_sem, wk, wks, wkB, wkH, subw, subEw, hprew, ltb, subr, subEr]; done) | (simp only [go_sem, wk, wks, wkB, wkH, subw, subEw, hprew, ltb, subr, subEr]; and_intros <;> first | trivial | rfl | omega | assumption | exact Nat.le_refl _ | exact wks_refl _ | exact wk_refl _ | (intros; exact wks_refl _) | (subst_vars; intro q hq; refine wks_mp_snoc (fun x => ?_) ?_ ?_; exact rnVs_no _ rfl; rfl; simp at hq; omega) | (simp; done) | (simp; omega))))
          ·
           repeat first | (with_reducible refine side_d ?_ ?_; exact byD) | (with_reducible refine side_q ?_ ?_; exact byQ)
           first | (refine ⟨[0, 1, 2, 6], rfl, rfl, ?_, ?_⟩ <;> (first | trivial | (simp only [go_sem, wk, wks, wkB, wkH, subw, subEw, hprew, ltb, subr, subEr]; done) | (simp only [go_sem, wk, wks, wkB, wkH, subw, subEw, hprew, ltb, subr, subEr]; and_intros <;> first | trivial | rfl | omega | assumption | exact Nat.le_refl _ | exact wks_refl _ | exact wk_refl _ | (intros; exact wks_refl _) | (subst_vars; intro q hq; refine wks_mp_snoc (fun x => ?_) ?_ ?_; exact rnVs_no _ rfl; rfl; simp at hq; omega) | (simp; done) | (simp; omega))))
       refine cx_seq ?_
       refine cx_sr ?_
       simp only [go_sem]
       intro t85 e85
       subst e85
       refine cx_if _ rfl (fun h85 => ?_) (fun h85 => ?_)
       ·
        (try simp only [go_sem] at h85)
        have hcs0 : okCs ((j.commits ++ [Commit.mk (j.first + j.commits.length) key l]).getD 0 default).changes := by
          rcases hc : j.commits with _ | ⟨c, cs⟩
          · rw [hc] at h85; simp at h85
          · exact (ok.2.2 c (by rw [hc]; simp)).2
        have hal : (allR j.base ((j.commits ++ [Commit.mk (j.first + j.commits.length) key l]).getD 0 default).changes j.first).1 = (allP j.base ((j.commits ++ [Commit.mk (j.first + j.commits.length) key l]).getD 0 default).changes j.first).1 := by rw [allP_full hbf]
        refine cx_joinr ([⟨6, 0, [], .ptr 0 0⟩, ⟨14, 0, [], .ptr 1 0⟩, ⟨10, 0, [], .int .i64 (j.first + j.commits.length)⟩]) ([.box [.bad, .bad, .bad], .box [esV (allR j.base ((j.commits ++ [Commit.mk (j.first + j.commits.length) key l]).getD 0 default).changes j.first).1, .int .i64 j.first, .own none 2 3 0 (j.commits ++ [Commit.mk (j.first + j.commits.length) key l]).length .loose], .arr 3 (j.commits ++ [Commit.mk (j.first + j.commits.length) key l]).length (En cmE default (j.commits ++ [Commit.mk (j.first + j.commits.length) key l]))]) (cx_draw mixed [15] (.first 0 (.first 1 (.first 2 (.first 3 (.first 4 (.first 5 (.first 6 (.first 7 (.first 8 (.one 9 (.first 10 (.first 11 (.first 12 (.first 13 (.first 14 (.one 15 (.done))))))))))))))))) (by kernel_rfl) ?_) ?_
        ·
         simp only [go_sem]
         repeat first | (with_reducible refine side_d ?_ ?_; exact byD) | (with_reducible refine side_q ?_ ?_; exact byQ)
         refine cwE_m (AllOf_c j.base ((j.commits ++ [Commit.mk (j.first + j.commits.length) key l]).getD 0 default).changes j.first hgb hcs0) byW byT ?_
         simp only [go_sem]
         first | (refine ⟨[1, 2, 3], rfl, rfl, ?_, ?_⟩ <;> (first | trivial | (simp only [go_sem, wk, wks, wkB, wkH, subw, subEw, hprew, ltb, subr, subEr]; done) | (simp only [go_sem, wk, wks, wkB, wkH, subw, subEw, hprew, ltb, subr, subEr]; and_intros <;> first | trivial | rfl | omega | assumption | exact Nat.le_refl _ | exact wks_refl _ | exact wk_refl _ | (intros; exact wks_refl _) | (subst_vars; intro q hq; refine wks_mp_snoc (fun x => ?_) ?_ ?_; exact rnVs_no _ rfl; rfl; simp at hq; omega) | (simp; done) | (simp; omega))))
        refine cx_sr ?_
        simp only [go_sem]
        intro t103 e103
        (try replace e103 := w64 e103 (by omega) (by omega))
        refine cx_region ?_
        simp only [go_sem]
        repeat first | (with_reducible refine side_d ?_ ?_; exact byD) | (with_reducible refine side_q ?_ ?_; exact byQ)
        refine cx_sr ?_
        simp only [go_sem]
        refine cx_ret ?_
        simp only [go_sem]
        rw [hc, addJ, if_pos (by simp at h85; omega), ← hal]
        exact finx_of 2 [] rfl byC byC byC byC
       ·
        (try simp only [go_sem] at h85)
        refine cx_skip ?_
        (try simp only [go_sem])
        refine cx_sr ?_
        simp only [go_sem]
        refine cx_ret ?_
        simp only [go_sem]
        rw [hc, addJ, if_neg (by simp at h85; omega)]
        exact finx_of 2 [] rfl byC byC byC byC
end Go.VM.Tryd
end
section
set_option maxHeartbeats 4000000
set_option linter.unusedVariables false
set_option linter.unusedSimpArgs false
open Go Go.VM Go.Proofs Tether
namespace Go.VM.Tryd
set_option maxRecDepth 100000
def noG : Page := ⟨false, [], [], 0, false⟩
def restP (j : Journal) (cur most : Int) : List Commit := (j.commits.drop (cur - j.first + 1).toNat).take most.toNat
def readP (j : Journal) (cur most : Int) : Page × Int :=
  if (openP j).2 ≠ 0 then (noG, (openP j).2) else if most < 1 ∨ 10 < most ∨ cur < 0 then (noG, 3) else if j.first + j.commits.length - 1 < cur then (noG, 5)
  else if cur < j.first - 1 then (⟨true, (openP j).1, [], j.first + j.commits.length - 1, false⟩, 0)
  else (⟨false, [], restP j cur most, cur + (restP j cur most).length, decide (cur + (restP j cur most).length < j.first + j.commits.length - 1)⟩, 0)
theorem rest_ok {j : Journal} (ok : okJ j) (cur most : Int) : okMs (restP j cur most) := by
  refine ⟨?_, fun c hc => ok.2.2 c (List.mem_of_mem_drop (List.mem_of_mem_take hc))⟩
  have := ok.2.1
  unfold restP
  simp
  omega
set_option maxHeartbeats 4000000 in
theorem Read_c (j : Journal) (cur most : Int) (ok : okJ j) : Meets Tryd.prog 17 [.agg (jnE j), .int .i64 cur, .int .i64 most] (.tup [.agg (pgE (readP j cur most).1), .int .i64 (readP j cur most).2]) [] := by
  refine meets_x (fn := Tryd.f17) Tryd.func17 rfl fb17 (by kernel_rfl) (Nat.le_of_ble_eq_true rfl) ?_
  have hbl := ok.1.1
  have hcl := ok.2.1
  refine cx_sr ?_
  simp only [go_sem]
  repeat first | (with_reducible refine side_d ?_ ?_; exact byD) | (with_reducible refine side_q ?_ ?_; exact byQ)
  refine cx_sr ?_
  simp only [go_sem]
  repeat first | (with_reducible refine side_d ?_ ?_; exact byD) | (with_reducible refine side_q ?_ ?_; exact byQ)
  by_cases hs14 : (openP j).2 = 0
  ·
   refine cw_m (Open_c j ok _ _ (fun _ => ⟨rfl, rfl⟩) (fun h => absurd hs14 h)) byW byT ?_
   simp only [go_sem]
   have hrn : (openP j).2 = 0 → 1 ≤ j.first ∧ j.first ≤ 1000000 ∧ j.commits.length ≤ 30 := fun h => openP_rng h
   have hfl : (openP j).2 = 0 → (openP j).1.length ≤ 60 := fun h => (openP_ok ok h).len
   refine cx_seq (cx_block ?_)
   refine cx_sr ?_
   simp only [go_sem]
   intro t19 e19
   subst e19
   refine cx_if _ rfl (fun h17 => no_if h17) (fun h17 => ?_)
   refine cx_sr ?_
   simp only [go_sem]
   intro t22 e22
   intro t25 e25
   intro t26 e26
   rw [bsel_or] at e26
   intro t29 e29
   intro t30 e30
   rw [bsel_or] at e30
   subst e22 e25 e26 e29 e30
   refine cx_if _ rfl (fun h20 => ?_) (fun h20 => ?_)
   ·
    (try simp only [go_sem] at h20)
    refine cx_region ?_
    simp only [go_sem]
    refine cx_seq ?_
    refine cx_sr ?_
    simp only [go_sem]
    intro t37 e37
    subst e37
    refine cx_if _ rfl (fun h37 => ?_) (fun h37 => no_if h37)
    refine cx_sr ?_
    simp only [go_sem]
    refine cx_ret ?_
    simp only [go_sem]
    have hc : readP j cur most = (noG, 3) := by rw [readP, if_neg (by simpa using hs14), if_pos (by omega)]
    rw [hc]
    exact finx_of 2 [] rfl byC byC byC byC
   ·
    (try simp only [go_sem] at h20)
    obtain ⟨hr1, hr2, hr3⟩ := hrn hs14
    have hfl := hfl hs14
    refine cx_sr ?_
    simp only [go_sem]
    refine cw_v 2 (last_c j (openP j).1 (by omega) (by omega) hcl) byV byC rfl ?_
    simp only [go_sem]
    intro t35 e35
    subst e35
    refine cx_if _ rfl (fun h31 => ?_) (fun h31 => ?_)
    ·
     (try simp only [go_sem] at h31)
     refine cx_region ?_
     simp only [go_sem]
     refine cx_seq ?_
     refine cx_sr ?_
     simp only [go_sem]
     intro t37 e37
     subst e37
     refine cx_if _ rfl (fun h37 => ?_) (fun h37 => no_if h37)
     refine cx_sr ?_
     simp only [go_sem]
     refine cx_ret ?_
     simp only [go_sem]
     have hc : readP j cur most = (noG, 5) := by rw [readP, if_neg (by simpa using hs14), if_neg (by omega), if_pos h31]
     rw [hc]
     exact finx_of 2 [] rfl byC byC byC byC
    ·
     (try simp only [go_sem] at h31)
     refine cx_skip ?_
     (try simp only [go_sem])
     refine cx_seq ?_
     refine cx_sr ?_
     simp only [go_sem]
     intro t37 e37
     subst e37
     refine cx_if _ rfl (fun h37 => no_if h37) (fun h37 => ?_)
     refine cx_skip ?_
     (try simp only [go_sem])
     refine cx_seq ?_
     refine cx_sr ?_
     simp only [go_sem]
     intro t43 e43
     (try replace e43 := w64 e43 (by omega) (by omega))
     intro t44 e44
     subst e44
     refine cx_if _ rfl (fun h44 => ?_) (fun h44 => ?_)
     ·
      (try simp only [go_sem] at h44)
      refine cx_sr ?_
      simp only [go_sem]
      refine cw_m (Clone_Entry_v (openP j).1 (by omega)) byW byT ?_
      simp only [go_sem]
      refine cw_v 2 (last_c j (openP j).1 (by omega) (by omega) hcl) byV byC rfl ?_
      simp only [go_sem]
      refine cx_ret ?_
      simp only [go_sem]
      have hc : readP j cur most = (⟨true, (openP j).1, [], j.first + j.commits.length - 1, false⟩, 0) := by rw [readP, if_neg (by simpa using hs14), if_neg (by omega), if_neg h31, if_pos (by omega)]
      rw [hc]
      exact finx_of 2 [] rfl byC byC byC byC
     ·
      (try simp only [go_sem] at h44)
      refine cx_skip ?_
      (try simp only [go_sem])
      refine cx_sr ?_
      simp only [go_sem]
      intro t58 e58
      (try replace e58 := w64 e58 (by omega) (by omega))
      intro t59 e59
      (try replace e59 := w64 e59 (by omega) (by omega))
      repeat first | (with_reducible refine side_d ?_ ?_; exact byD) | (with_reducible refine side_q ?_ ?_; exact byQ)
      refine cx_sr ?_
      simp only [go_sem]
      repeat first | (with_reducible refine side_d ?_ ?_; exact byD) | (with_reducible refine side_q ?_ ?_; exact byQ)
      have hn : (if most < ((j.commits.length - t59.toNat : Nat) : Int) then most else ((j.commits.length - t59.toNat : Nat) : Int)).toNat = (restP j cur most).length := by
        unfold restP
        rw [List.length_take, List.length_drop, ← show t59 = cur - j.first + 1 by omega]
        split <;> omega
      refine cw_m (cloned_c (restP j cur most) (rest_ok ok cur most)) ?_ byT ?_
      · rw [hn]
        simp only [wks, wk, and_true, true_and]
        refine ⟨.inr rfl, .inr rfl, fun i hi => ?_⟩
        have : En cmE default (List.drop t59.toNat j.commits) i = En cmE default (restP j cur most) i := by
          have hi2 := hi
          unfold restP at hi2 ⊢
          rw [← show t59 = cur - j.first + 1 by omega] at hi2 ⊢
          simp only [En, List.getD_eq_getElem?_getD]
          rw [List.getElem?_take_of_lt (by simp at hi2; omega)]
        rw [this]
        exact wks_refl _
      simp only [go_sem]
      refine cx_sr ?_
      simp only [go_sem]
      intro t72 e72
      (try replace e72 := w64 e72 (by omega) (by omega))
      refine cx_seq (cx_draw mixed [6] (.first 0 (.first 1 (.first 2 (.one 3 (.first 4 (.first 5 (.one 6 (.done)))))))) (by kernel_rfl) ?_)
      simp only [go_sem]
      refine cwE_v 2 (last_c j (openP j).1 (by omega) (by omega) hcl) byV byC rfl ?_
      simp only [go_sem]
      intro t78 e78
      subst e78
      refine cx_sr ?_
      simp only [go_sem]
      refine cx_ret ?_
      simp only [go_sem]
      have hc : readP j cur most = (⟨false, [], restP j cur most, cur + (restP j cur most).length, decide (cur + (restP j cur most).length < j.first + j.commits.length - 1)⟩, 0) := by rw [readP, if_neg (by simpa using hs14), if_neg (by omega), if_neg h31, if_neg (by omega)]
      rw [hc]
      exact finx_of 2 [] rfl byC byC byC byC
  ·
   refine cw_m (Open_c j ok _ _ (fun h => absurd h hs14) (fun _ => ⟨rfl, rfl⟩)) byW byT ?_
   simp only [go_sem]
   have hrn : (openP j).2 = 0 → 1 ≤ j.first ∧ j.first ≤ 1000000 ∧ j.commits.length ≤ 30 := fun h => openP_rng h
   have hfl : (openP j).2 = 0 → (openP j).1.length ≤ 60 := fun h => (openP_ok ok h).len
   refine cx_seq (cx_block ?_)
   refine cx_sr ?_
   simp only [go_sem]
   intro t19 e19
   subst e19
   refine cx_if _ rfl (fun h17 => ?_) (fun h17 => ?_)
   ·
    (try simp only [go_sem] at h17)
    refine cx_skip ?_
    (try simp only [go_sem])
    refine cx_seq ?_
    refine cx_sr ?_
    simp only [go_sem]
    intro t37 e37
    subst e37
    refine cx_if _ rfl (fun h37 => ?_) (fun h37 => ?_)
    ·
     (try simp only [go_sem] at h37)
     refine cx_sr ?_
     simp only [go_sem]
     refine cx_ret ?_
     simp only [go_sem]
     have hc : readP j cur most = (noG, (openP j).2) := by rw [readP, if_pos hs14]
     rw [hc]
     exact finx_of 2 [] rfl byC byC byC byC
    · simp_all
   · simp_all
end Go.VM.Tryd
end
