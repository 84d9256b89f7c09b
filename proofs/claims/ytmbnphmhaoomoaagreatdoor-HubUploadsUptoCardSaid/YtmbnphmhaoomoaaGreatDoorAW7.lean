import Derived.Test.YtmbnphmhaoomoaaGreatDoorAW6
import Derived.Test.YtmbnphmhaoomoaaGreatDoorAV9
set_option maxHeartbeats 4000000
set_option linter.unusedVariables false
set_option linter.unusedSimpArgs false
set_option maxRecDepth 100000
open Go Go.VM Go.Proofs Tether
namespace Go.VM.Tryz
def gotP (j:Journal) (cur:Int) (i:Nat):List Commit:=(j.commits.take i).drop (cur-j.first+1).toNat
theorem zvb (j:Journal) (cur:Int):gotP j cur 0=[]:=by simp[gotP]
attribute [go_sem] zvb
theorem cm_ext {a b:Commit} (h1:a.number=b.number) (h2:a.key=b.key) (h3:a.changes=b.changes):a=b:=by
 cases a;cases b
 simp only at h1 h2 h3
 rw[h1,h2,h3]
theorem ri (a b:List Commit) (oka:okMs a) (okb:okMs b):Meets Tryz.prog 71 [cmsV a,cmsV b] (.bool (sameL a b)) []:=by
 refine an (fn:=Tryz.f71) Tryz.func71 rfl fb71 (by kernel_rfl) (Nat.le_of_ble_eq_true rfl) ?_
 have hal:=oka.1
 have hbl:=okb.1
 refine aa ?_
 simp only[go_sem]
 repeat first|(with_reducible refine ad ?_ ?_;exact byD)|(with_reducible refine ae ?_ ?_;exact byQ)
 refine ab ?_
 refine aa ?_
 simp only[go_sem]
 intro t10 e10
 subst e10
 refine ah _ rfl (fun h10=>?_) (fun h10=>?_)
 ·
  (try simp only[go_sem] at h10)
  refine aa ?_
  simp only[go_sem]
  refine af ?_
  simp only[go_sem]
  refine aq ?_
  have:a≠b:=fun e=>by subst e;exact h10 rfl
  simp[sameL,this]
 ·
  (try simp only[go_sem] at h10)
  refine ag ?_
  (try simp only[go_sem])
  refine ab ?_
  refine aa ?_
  simp only[go_sem]
  refine ai ?_
  refine bm (σ:=Nat) (fun i=>i≤a.length∧∀ j,j<i→a.getD j default=b.getD j default) (fun i=>[⟨5,0,[],.int .i64 (i:Nat)⟩]) [0,1] (fun i=>a.length-i) 0 ⟨Nat.zero_le _,fun j hj=>absurd hj (Nat.not_lt_zero j)⟩ (Nat.zero_le _) byC (fun i hI1=>?_)
  simp only[go_sem]
  refine ab ?_
  refine aa ?_
  simp only[go_sem]
  repeat first|(with_reducible refine ad ?_ ?_;exact byD)|(with_reducible refine ae ?_ ?_;exact byQ)
  intro t14 e14
  subst e14
  refine ah _ rfl (fun h14=>?_) (fun h14=>?_)
  ·
   (try simp only[go_sem] at h14)
   have hca:=(oka.2 _ (bj (l:=a) (i:=i) (d:=default) (by omega))).2.1
   have hcb:=(okb.2 _ (bj (l:=b) (i:=i) (d:=default) (by omega))).2.1
   refine ag ?_
   (try simp only[go_sem])
   refine ab (ai ?_)
   refine ab (bc cj [] (.first 0 (.first 1 (.first 2 (.first 3 (.first 4 (.first 5 (.first 6 (.first 7 (.first 8 (.first 9 (.first 10 (.first 11 (.first 12 (.first 13 (.first 14 (.first 15 (.first 16 (.first 17 (.first 18 (.first 19 (.first 20 (.first 21 (.first 22 (.first 23 (.first 24 (.first 25 (.first 26 (.first 27 (.first 28 (.first 29 (.first 30 (.first 31 (.first 32 (.first 33 (.first 34 (.one 35 (.first 36 (.first 37 (.done))))))))))))))))))))))))))))))))))))))) (by kernel_rfl) ?_)
   simp only[go_sem]
   repeat first|(with_reducible refine ad ?_ ?_;exact byD)|(with_reducible refine ae ?_ ?_;exact byQ)
   intro t27 e27
   repeat first|(with_reducible refine ad ?_ ?_;exact byD)|(with_reducible refine ae ?_ ?_;exact byQ)
   intro t39 e39
   intro t40 e40
   rw[az] at e40
   repeat first|(with_reducible refine ad ?_ ?_;exact byD)|(with_reducible refine ae ?_ ?_;exact byQ)
   refine⟨_,fun hp=>ek (zai (a.getD i default).changes (b.getD i default).changes (by omega) (by omega)) byW byT ⟨rfl,rfl⟩, ?_⟩
   simp only[go_sem]
   intro t53 e53
   intro t54 e54
   rw[az] at e54
   subst e27 e39 e40 e53 e54
   refine ah _ rfl (fun h54=>?_) (fun h54=>?_)
   ·
    (try simp only[go_sem] at h54)
    refine aa ?_
    simp only[go_sem]
    refine af ?_
    simp only[go_sem]
    refine aq ?_
    have:a≠b:=fun e=>by
     subst e
     simp[sameL] at h54
    simp[sameL,this]
   ·
    (try simp only[go_sem] at h54)
    refine ag ?_
    (try simp only[go_sem])
    refine aj ?_
    simp only[go_sem]
    intro t16 e16
    (try replace e16:=w64 e16 (by omega) (by omega))
    have hk:a.getD i default=b.getD i default:=by
     simp only[sameL] at h54
     refine cm_ext ?_ ?_ ?_<;>simp_all
    refine ay (i+1) ⟨by omega,bw hI1.2 hk⟩ (by first|omega|(dsimp only;omega)) byC
  ·
   (try simp only[go_sem] at h14)
   refine bk ?_
   simp only[go_sem]
   refine aa ?_
   simp only[go_sem]
   refine af ?_
   simp only[go_sem]
   refine aq ?_
   have:a=b:=mw (d:=default) (by omega) (fun j hj=>hI1.2 j (by omega))
   simp[sameL,this]
theorem zak (a b:Journal) (oka:okJ a) (okb:okJ b):Meets Tryz.prog 36 [.agg (jnE a),.agg (jnE b)] (.bool (decide (a=b))) []:=by
 refine an (fn:=Tryz.f36) Tryz.func36 rfl fb36 (by kernel_rfl) (Nat.le_of_ble_eq_true rfl) ?_
 have hal:=oka.1.1
 have hbl:=okb.1.1
 refine aa ?_
 simp only[go_sem]
 repeat first|(with_reducible refine ad ?_ ?_;exact byD)|(with_reducible refine ae ?_ ?_;exact byQ)
 refine aa ?_
 simp only[go_sem]
 refine cw_m (jz a.base b.base (by omega) (by omega)) byW byT ?_
 simp only[go_sem]
 intro t15 e15
 intro t16 e16
 rw[ar] at e16
 refine⟨_,fun hp=>cw_m (ri a.commits b.commits oka.2 okb.2) byW byT ⟨rfl,rfl⟩, ?_⟩
 simp only[go_sem]
 intro t23 e23
 rw[ar] at e23
 subst e15 e16 e23
 refine af ?_
 simp only[go_sem]
 refine aq ?_
 rcases a with ⟨a1,a2,a3⟩
 rcases b with ⟨b1,b2,b3⟩
 simp[sameL,Bool.and_assoc]
theorem zkk (a b:Page) (oka:okG a) (okb:okG b):Meets Tryz.prog 57 [.agg (pgE a),.agg (pgE b)] (.bool (decide (a=b))) []:=by
 refine an (fn:=Tryz.f57) Tryz.func57 rfl fb57 (by kernel_rfl) (Nat.le_of_ble_eq_true rfl) ?_
 have hal:=oka.1.1
 have hbl:=okb.1.1
 refine aa ?_
 simp only[go_sem]
 repeat first|(with_reducible refine ad ?_ ?_;exact byD)|(with_reducible refine ae ?_ ?_;exact byQ)
 refine aa ?_
 simp only[go_sem]
 intro t9 e9
 refine⟨_,fun hp=>cw_m (jz a.tree b.tree (by omega) (by omega)) byW byT ⟨rfl,rfl⟩, ?_⟩
 simp only[go_sem]
 intro t16 e16
 rw[ar] at e16
 refine⟨_,fun hp=>cw_m (ri a.commits b.commits oka.2 okb.2) byW byT ⟨rfl,rfl⟩, ?_⟩
 simp only[go_sem]
 intro t23 e23
 rw[ar] at e23
 intro t29 e29
 intro t30 e30
 rw[ar] at e30
 intro t36 e36
 intro t37 e37
 rw[ar] at e37
 subst e9 e16 e23 e29 e30 e36 e37
 refine af ?_
 simp only[go_sem]
 refine aq ?_
 rcases a with ⟨a1,a2,a3,a4,a5⟩
 rcases b with ⟨b1,b2,b3,b4,b5⟩
 simp[sameL,Bool.and_assoc]
end Go.VM.Tryz
