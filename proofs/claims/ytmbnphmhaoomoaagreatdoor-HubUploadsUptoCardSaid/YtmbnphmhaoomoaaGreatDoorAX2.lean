import Derived.Test.YtmbnphmhaoomoaaGreatDoorAV1
import Derived.Test.YtmbnphmhaoomoaaGreatDoorAV2
import Derived.Test.YtmbnphmhaoomoaaGreatDoorAV3
import Derived.Test.YtmbnphmhaoomoaaGreatDoorAV4
import Derived.Test.YtmbnphmhaoomoaaGreatDoorAV5
import Derived.Test.YtmbnphmhaoomoaaGreatDoorAW1
import Derived.Test.YtmbnphmhaoomoaaGreatDoorAV6
import Derived.Test.YtmbnphmhaoomoaaGreatDoorAW2
import Derived.Test.YtmbnphmhaoomoaaGreatDoorAW3
import Derived.Test.YtmbnphmhaoomoaaGreatDoorAW4
import Derived.Test.YtmbnphmhaoomoaaGreatDoorAV7
import Derived.Test.YtmbnphmhaoomoaaGreatDoorAW5
import Derived.Test.YtmbnphmhaoomoaaGreatDoorAV8
import Derived.Test.YtmbnphmhaoomoaaGreatDoorAW6
import Derived.Test.YtmbnphmhaoomoaaGreatDoorAV9
import Derived.Test.YtmbnphmhaoomoaaGreatDoorAW7
import Derived.Test.YtmbnphmhaoomoaaGreatDoorAV10
import Derived.Test.YtmbnphmhaoomoaaGreatDoorAW8
import Derived.Test.YtmbnphmhaoomoaaGreatDoorAV11
import Derived.Test.YtmbnphmhaoomoaaGreatDoorAW9
import Derived.Test.YtmbnphmhaoomoaaGreatDoorAV12
import Derived.Test.YtmbnphmhaoomoaaGreatDoorAW10
import Derived.Test.YtmbnphmhaoomoaaGreatDoorAV13
import Derived.Test.YtmbnphmhaoomoaaGreatDoorAW11
import Derived.Test.YtmbnphmhaoomoaaGreatDoorAV14
import Derived.Test.YtmbnphmhaoomoaaGreatDoorAW12
import Derived.Test.YtmbnphmhaoomoaaGreatDoorAW13
import Derived.Test.YtmbnphmhaoomoaaGreatDoorAW14
import Derived.Test.YtmbnphmhaoomoaaGreatDoorAW15
import Derived.Test.YtmbnphmhaoomoaaGreatDoorAX1
set_option linter.unusedVariables false
set_option linter.unusedSimpArgs false
set_option maxRecDepth 100000
section
set_option maxHeartbeats 4000000
open Go Go.VM Go.Proofs Tether
namespace Go.VM.Tryz
theorem ChangeOfF_c (l:List Entry) (c:Change) (v:Int) (g:GoodT l) (ok:okC c):Meets Tryz.prog 130 [esV l,.agg c.enc,.int .i64 v] (.tup [esV (rawP l c v),.int .i64 (ik l c v)]) [] :=
 ((ChangeOf_c l c v g ok).freeze 1 byC).wk (ak _) byC byC
theorem AllOf_c (l:List Entry) (cs:List Change) (v:Int) (g:GoodT l) (ok:okCs cs):Meets Tryz.prog 97 [esV l,csV cs,.int .i64 v]
  (.tup [esV (allR l cs v).1,.int .i64 (allR l cs v).2.1,.int .i64 (allR l cs v).2.2]) []:=by
 refine an (fn:=Tryz.f97) Tryz.func97 rfl fb97 (by kernel_rfl) (Nat.le_of_ble_eq_true rfl) ?_
 have hcl:=ok.1;refine aa ?_;simp only[go_sem];repeat first|(with_reducible refine ad ?_ ?_;exact byD)|(with_reducible refine ae ?_ ?_;exact byQ)
 refine ab ?_;refine aa ?_;simp only[go_sem];intro t14 e14;subst e14;refine ah _ rfl (fun h14=>?_) (fun h14=>?_)
 ·(try simp only[go_sem] at h14);refine aa ?_;simp only[go_sem];refine af ?_;simp only[go_sem];have he:allR l cs v=([],0,2):=by rw[allR,if_pos (by omega)]
  rw[he];exact ap 1 [] rfl byC byC byC byC
 ·(try simp only[go_sem] at h14);refine ag ?_;(try simp only[go_sem]);refine ab ?_;refine aa ?_;simp only[go_sem];intro t17 e17;refine⟨_,fun hp=>cw_m (RIsVersion_c v) byW byT ⟨rfl,rfl⟩, ?_⟩
  simp only[go_sem];intro t21 e21;intro t22 e22;rw[ar] at e22;subst e17 e21 e22;refine ah _ rfl (fun h22=>?_) (fun h22=>?_)
  ·(try simp only[go_sem] at h22);refine aa ?_;simp only[go_sem];refine af ?_;simp only[go_sem];have hv:verB v=false∧0<(cs.length:Int):=by unfold verB;grind
   have he:allR l cs v=([],0,3):=by rw[allR,if_neg (by omega),if_pos hv]
   rw[he];exact ap 1 [] rfl byC byC byC byC
  ·(try simp only[go_sem] at h22);have hv:¬ (verB v=false∧0<(cs.length:Int)):=by unfold verB;grind
   have he:allR l cs v=fj v l cs 0:=by rw[allR,if_neg (by omega),if_neg hv]
   refine ag ?_;(try simp only[go_sem]);refine ab ?_;refine aa ?_;simp only[go_sem];refine ai ?_;refine bm (σ:=Nat × List Entry) (fun s=>s.1≤cs.length∧GoodT s.2∧fj v l cs 0=fj v s.2 (cs.drop s.1) (s.1:Int)) (fun s=>[⟨9,0,[],.int .i64 (s.1:Nat)⟩,⟨0,0,[],esV s.2⟩]) [1,2] (fun s=>cs.length-s.1) (0,l) ⟨Nat.zero_le _,g,rfl⟩ (Nat.zero_le _) byC (fun s hI1=>?_)
   simp only[go_sem];obtain⟨i1,i2,i3⟩:=hI1;refine ab ?_;refine aa ?_;simp only[go_sem];repeat first|(with_reducible refine ad ?_ ?_;exact byD)|(with_reducible refine ae ?_ ?_;exact byQ)
   intro t26 e26;subst e26;refine ah _ rfl (fun h26=>?_) (fun h26=>?_)
   ·(try simp only[go_sem] at h26);have hcm:cs.getD s.1 default∈cs:=bj (by omega)
    have hdr:cs.drop s.1=cs.getD s.1 default::cs.drop (s.1+1):=by
     rw[List.drop_eq_getElem_cons (by omega)]
     simp[List.getD,show s.1<cs.length by omega]
    refine ag ?_;(try simp only[go_sem]);refine ab (ai ?_);refine aa ?_;simp only[go_sem];repeat first|(with_reducible refine ad ?_ ?_;exact byD)|(with_reducible refine ae ?_ ?_;exact byQ)
    refine cw_m (ChangeOfF_c s.2 (cs.getD s.1 default) v i2 (ok.2 _ hcm)) byW byT ?_;simp only[go_sem];refine ab ?_;refine aa ?_;simp only[go_sem];intro t40 e40;subst e40;refine ah _ rfl (fun h40=>?_) (fun h40=>?_)
    ·(try simp only[go_sem] at h40);refine aa ?_;simp only[go_sem];refine af ?_;simp only[go_sem];have he2:allR l cs v=([],(s.1:Int),ik s.2 (cs.getD s.1 default) v):=by rw[he,i3,hdr,fj,if_pos (by simpa using h40)]
     rw[he2];exact ap 1 [] rfl byC byC byC byC
    ·(try simp only[go_sem] at h40);refine ag ?_;(try simp only[go_sem]);refine aj ?_;simp only[go_sem];refine aj ?_;simp only[go_sem];intro t28 e28;(try replace e28:=w64 e28 (by omega) (by omega))
     have h48':ik s.2 (cs.getD s.1 default) v=0:=by simpa using h40
     have hr:rawP s.2 (cs.getD s.1 default) v=ff s.2 (cs.getD s.1 default) v:=by rw[rawP,if_pos h48']
     refine ay (s.1+1,ff s.2 (cs.getD s.1 default) v) ⟨by dsimp only;omega,zdn i2 (ok.2 _ hcm) h48', ?_⟩ (by first|omega|(dsimp only;omega)) ?_
     ·rw[i3,hdr,fj,if_neg (by simpa using h48')]
      rfl
     ·rw[hr];exact byC
   ·(try simp only[go_sem] at h26);refine bk ?_;simp only[go_sem];refine aa ?_;simp only[go_sem];refine af ?_;simp only[go_sem];have hi:s.1=cs.length:=by omega
    have he2:allR l cs v=(s.2,(cs.length:Int),0):=by rw[he,i3,hi,List.drop_length,fj]
    rw[he2];exact ap 1 [] rfl byC byC byC byC
end Go.VM.Tryz
end
section
set_option maxHeartbeats 4000000
open Go Go.VM Go.Proofs Tether
namespace Go.Proofs
open Go.Shelf
end Go.Proofs
namespace Go.VM.Tryz
theorem RIsKey_c (s:Str) (hs:s.length<4611686018427387904):Meets Tryz.prog 96 [.str s] (.bool (zaw s)) []:=by
 refine an (fn:=Tryz.f96) Tryz.func96 rfl fb96 (by kernel_rfl) (Nat.le_of_ble_eq_true rfl) ?_
 refine aa ?_;simp only[go_sem];repeat first|(with_reducible refine ad ?_ ?_;exact byD)|(with_reducible refine ae ?_ ?_;exact byQ)
 refine ab ?_;refine aa ?_;simp only[go_sem];refine ai ?_;refine bm (σ:=Nat) (fun i=>i≤s.length∧(s.take i).all keyC=true) (fun i=>[⟨3,0,[],.int .i64 (i:Nat)⟩]) [0] (fun i=>s.length-i) 0 ⟨Nat.zero_le _,rfl⟩ (Nat.zero_le _) byC (fun i hI1=>?_)
 simp only[go_sem];refine ab ?_;refine aa ?_;simp only[go_sem];repeat first|(with_reducible refine ad ?_ ?_;exact byD)|(with_reducible refine ae ?_ ?_;exact byQ)
 intro t8 e8;subst e8;refine ah _ rfl (fun h8=>?_) (fun h8=>?_)
 ·(try simp only[go_sem] at h8);have hd:s.getD i 0=s[i]:=by simp[List.getD,(by omega:i<s.length)]
  have htk:s.take (i+1)=s.take i++[s.getD i 0]:=by rw[hd,List.take_add_one,List.getElem?_eq_getElem (by omega)];rfl
  refine ag ?_;(try simp only[go_sem]);refine ab (ai ?_);refine aa ?_;simp only[go_sem];repeat first|(with_reducible refine ad ?_ ?_;exact byD)|(with_reducible refine ae ?_ ?_;exact byQ)
  intro t13 e13;refine aa ?_;simp only[go_sem];intro t15 e15;intro t18 e18;intro t19 e19;rw[ar] at e19;intro t22 e22;intro t25 e25;intro t26 e26;rw[ar] at e26;intro t27 e27;rw[az] at e27;intro t30 e30;intro t33 e33;intro t34 e34;rw[ar] at e34;intro t35 e35;rw[az] at e35;intro t38 e38;intro t39 e39;rw[az] at e39;intro t40 e40;subst e15 e18 e19 e22 e25 e26 e27 e30 e33 e34 e35 e38 e39 e40;refine ah _ rfl (fun h40=>?_) (fun h40=>?_)
  ·(try simp only[go_sem] at h40);refine aa ?_;simp only[go_sem];refine af ?_;simp only[go_sem];refine aq ?_
   have hk:keyC (s.getD i 0)=false:=by
    simp only[keyC,keyN,Bool.or_eq_false_iff,Bool.and_eq_false_iff,decide_eq_false_iff_not];omega
   have:s.all keyC=false:=by
    rw[← List.take_append_drop (i+1) s,List.all_append,htk,List.all_append,List.all_cons,hk,Bool.false_and,Bool.and_false,Bool.false_and]
   rw[zaw,this,Bool.false_and]
  ·(try simp only[go_sem] at h40);refine ag ?_;(try simp only[go_sem]);refine aj ?_;simp only[go_sem];intro t10 e10;(try replace e10:=w64 e10 (by omega) (by omega))
   have hk:keyC (s.getD i 0)=true:=by
    simp only[keyC,keyN,Bool.or_eq_true,Bool.and_eq_true,decide_eq_true_eq];omega
   refine ay (i+1) ⟨by omega,by rw[htk,List.all_append,hI1.2,List.all_cons,hk];rfl⟩ (by first|omega|(dsimp only;omega)) byC
 ·(try simp only[go_sem] at h8);refine bk ?_;simp only[go_sem];refine aa ?_;simp only[go_sem];intro t43 e43;intro t47 e47;intro t48 e48;rw[ar] at e48;subst e43 e47 e48;refine af ?_;simp only[go_sem];refine aq ?_;have hi:s.take i=s:=List.take_of_length_le (by omega)
  have:=hI1.2;rw[hi] at this;rw[zaw,this,Bool.true_and]
  congr 1<;>(congr 1;apply propext;omega)
end Go.VM.Tryz
end
section
set_option maxHeartbeats 4000000
open Go Go.VM Go.Proofs Tether
namespace Go.VM.Tryz
def treeAt (j:Journal) (i:Nat):List Entry:=(fk j.base j.first (j.commits.take i)).1
def treesTo (j:Journal) (i:Nat):List (List Entry):=(List.range (i+1)).map (treeAt j)
def treesP (j:Journal):List (List Entry):=if (bl j).2=0 then treesTo j j.commits.length else []
theorem treesTo_next (j:Journal) (i:Nat):treesTo j (i+1)=treesTo j i++[treeAt j (i+1)]:=by
 rw[treesTo,List.range_succ,List.map_append];rfl
theorem treesTo_len (j:Journal) (i:Nat):(treesTo j i).length=i+1:=by simp[treesTo]
theorem nodup_of {l:List Commit} (h:∀ b,b<l.length→∀ a,a<b→(l.getD a default).key≠(l.getD b default).key):(fh l).Nodup:=by
 unfold List.Nodup;rw[List.pairwise_iff_getElem];intro a b ha hb hab;have h1:=h b (by simpa [fh] using hb) a hab
 rw[← znv,← znv] at h1;simpa [List.getD,ha,hb] using h1
theorem nodup_not {l:List Commit} {a b:Nat} (hb:b<l.length) (hab:a<b) (h:(l.getD a default).key=(l.getD b default).key):¬ (fh l).Nodup:=by
 intro hn;unfold List.Nodup at hn;rw[List.pairwise_iff_getElem] at hn;have hl:(fh l).length=l.length:=zfw l;have:=hn a b (by omega) (by omega) hab
 rw[← znv,← znv] at h;exact this (by simpa [List.getD,show a<(fh l).length by omega,show b<(fh l).length by omega] using h)
theorem OpenJournal_c (j:Journal) (ok:okJ j):Meets Tryz.prog 64 [.agg (jnE j)] (.tup [lstV 1 z3c [] (treesP j),.int .i64 (bl j).2]) []:=by
 refine an (fn:=Tryz.f64) Tryz.func64 rfl fb64 (by kernel_rfl) (Nat.le_of_ble_eq_true rfl) ?_
 have hbl:=ok.1.1;have hcl:=ok.2.1;have hbad:(bl j).2≠0→treesP j=[]:=fun h=>by rw[treesP,if_neg h]
 refine aa ?_;simp only[go_sem];repeat first|(with_reducible refine ad ?_ ?_;exact byD)|(with_reducible refine ae ?_ ?_;exact byQ)
 refine aa ?_;simp only[go_sem];refine cw_m (RCheckTree_c j.base ok.1) byW byT ?_;simp only[go_sem];refine ab ?_;refine aa ?_;simp only[go_sem];intro t15 e15;subst e15;refine ah _ rfl (fun h15=>?_) (fun h15=>?_)
 ·(try simp only[go_sem] at h15);refine aa ?_;simp only[go_sem];refine af ?_;simp only[go_sem];have h:¬ dd j.base=0:=by simpa using h15
  have ho:=zof h;rw[hbad (by rw[ho];exact h),ho]
  exact ap 1 [] rfl byC byC byC byC
 ·(try simp only[go_sem] at h15);have hc0:dd j.base=0:=by simpa using h15
  refine ag ?_;(try simp only[go_sem]);refine ab ?_;refine aa ?_;simp only[go_sem];refine cw_m (RIsVersion_c j.first) byW byT ?_
  simp only[go_sem];intro t20 e20;subst e20;refine ah _ rfl (fun h20=>?_) (fun h20=>?_)
  ·(try simp only[go_sem] at h20);refine aa ?_;simp only[go_sem];refine af ?_;simp only[go_sem];have ho:=zjy (j:=j) hc0 (by omega)
   rw[hbad (by rw[ho];decide),ho]
   exact ap 1 [] rfl byC byC byC byC
  ·(try simp only[go_sem] at h20);have hf0:¬ (j.first<1∨1000000<j.first):=by omega
   refine ag ?_;(try simp only[go_sem]);refine ab ?_;refine aa ?_;simp only[go_sem];intro t24 e24;subst e24;refine ah _ rfl (fun h24=>?_) (fun h24=>?_)
   ·(try simp only[go_sem] at h24);refine aa ?_;simp only[go_sem];refine af ?_;simp only[go_sem];have ho:=znd (j:=j) hc0 hf0 (by omega)
    rw[hbad (by rw[ho];decide),ho]
    exact ap 1 [] rfl byC byC byC byC
   ·(try simp only[go_sem] at h24);have hm0:¬ 30<j.commits.length:=by omega
    refine ag ?_;(try simp only[go_sem]);refine aa ?_;simp only[go_sem];refine aa ?_;simp only[go_sem];refine ab ?_;refine aa ?_;simp only[go_sem];refine ai ?_;refine gz (σ:=Nat × List Entry) (fun s=>s.1≤j.commits.length∧okE s.2∧FullT s.2∧fk j.base j.first (j.commits.take s.1)=(s.2,0)) (fun s=>[⟨7,0,[],.int .i64 (s.1:Nat)⟩,⟨6,0,[],esV s.2⟩,⟨5,0,[],.own none 1 1 0 (treesTo j s.1).length .loose⟩]) [1] (fun s=>[.box (jnE j),.arr 1 (treesTo j s.1).length (En z3c [] (treesTo j s.1))]) (fun s=>j.commits.length-s.1) (0,j.base) ⟨Nat.zero_le _,ok.1,checkT_iff.1 hc0,rfl⟩ (fun _=>(Nat.zero_le _)) (by simp only[go_sem,wk,wks,wkB,wkH,subw,cn,cm,ltb,subr,dc];rw[show treesTo j 0=[j.base] from rfl];refine⟨⟨rfl,rfl⟩,Nat.le_refl _,fun i hi=>?_⟩;obtain rfl:i=0:=(by simpa using hi);exact⟨⟨rfl,rfl,.inr rfl,.inr rfl,fun i hi=>ak _⟩,rfl⟩) (fun s hI1=>?_)
    simp only[go_sem];have htl:=treesTo_len j s.1;refine ab ?_;refine aa ?_;simp only[go_sem];repeat first|(with_reducible refine ad ?_ ?_;exact byD)|(with_reducible refine ae ?_ ?_;exact byQ)
    intro t34 e34;subst e34;refine ah _ rfl (fun h34=>?_) (fun h34=>?_)
    ·(try simp only[go_sem] at h34);have hcc:=ok.2.2 _ (bj (l:=j.commits) (i:=s.1) (d:=default) (by omega))
     have hon:=zki (l:=j.commits) (i:=s.1) (by omega) hI1.2.2.2
     rw[zce hI1.2.2.1] at hon;have hgd:=qf hI1.2.1 (checkT_iff.2 hI1.2.2.1);have hal:=zwo s.2 (j.commits.getD s.1 default).changes (j.commits.getD s.1 default).number;have hsl:=hI1.2.1.1;have htn:=treesTo_next j s.1;refine ag ?_;(try simp only[go_sem]);refine ab (ai ?_);refine aa ?_;simp only[go_sem];repeat first|(with_reducible refine ad ?_ ?_;exact byD)|(with_reducible refine ae ?_ ?_;exact byQ)
     refine ab (ai ?_);refine aa ?_;simp only[go_sem];intro t48 e48;(try replace e48:=w64 e48 (by omega) (by omega))
     intro t49 e49;subst e49;refine ah _ rfl (fun h42=>?_) (fun h42=>?_)
     ·(try simp only[go_sem] at h42);refine aa ?_;simp only[go_sem];refine af ?_;simp only[go_sem];have hx:ii (j.first+s.1) (j.commits.getD s.1 default)=4:=by rw[ii,if_pos (by omega)]
      rw[if_pos (by rw[hx];decide),hx] at hon
      have ho:=ph hc0 hf0 hm0 (by decide) (lx (by decide) hon)
      rw[hbad (by rw[ho];decide),ho]
      exact ap 1 [] rfl byC byC byC byC
     ·(try simp only[go_sem] at h42);refine aa ?_;simp only[go_sem];intro t53 e53;subst e53;refine ah _ rfl (fun h50=>?_) (fun h50=>?_)
      ·(try simp only[go_sem] at h50);refine aa ?_;simp only[go_sem];refine af ?_;simp only[go_sem];have hx:ii (j.first+s.1) (j.commits.getD s.1 default)=3:=by rw[ii,if_neg (by omega),if_pos (by omega)]
       rw[if_pos (by rw[hx];decide),hx] at hon
       have ho:=ph hc0 hf0 hm0 (by decide) (lx (by decide) hon)
       rw[hbad (by rw[ho];decide),ho]
       exact ap 1 [] rfl byC byC byC byC
      ·(try simp only[go_sem] at h50);refine ab ?_;refine aa ?_;simp only[go_sem];refine cw_m (RIsKey_c (j.commits.getD s.1 default).key (by have:=hcc.1;omega)) byW byT ?_
       simp only[go_sem];intro t58 e58;subst e58;refine ah _ rfl (fun h54=>?_) (fun h54=>?_)
       ·(try simp only[go_sem] at h54);refine ag ?_;(try simp only[go_sem]);refine ah _ rfl (fun h54b=>?_) (fun h54b=>ew h54b)
        refine aa ?_;simp only[go_sem];refine af ?_;simp only[go_sem];have hx:ii (j.first+s.1) (j.commits.getD s.1 default)=1:=by rw[ii,if_neg (by omega),if_neg (by omega),if_pos (by left;simpa using h54)]
        rw[if_pos (by rw[hx];decide),hx] at hon
        have ho:=ph hc0 hf0 hm0 (by decide) (lx (by decide) hon)
        rw[hbad (by rw[ho];decide),ho]
        exact ap 1 [] rfl byC byC byC byC
       ·(try simp only[go_sem] at h54);refine aj ?_;simp only[go_sem];intro t62 e62;subst e62;refine ah _ rfl (fun h54b=>?_) (fun h54b=>?_)
        ·(try simp only[go_sem] at h54b);refine aa ?_;simp only[go_sem];refine af ?_;simp only[go_sem];have hx:ii (j.first+s.1) (j.commits.getD s.1 default)=1:=by rw[ii,if_neg (by omega),if_neg (by omega),if_pos (by right;exact List.length_eq_zero_iff.1 (by omega))]
         rw[if_pos (by rw[hx];decide),hx] at hon
         have ho:=ph hc0 hf0 hm0 (by decide) (lx (by decide) hon)
         rw[hbad (by rw[ho];decide),ho]
         exact ap 1 [] rfl byC byC byC byC
        ·(try simp only[go_sem] at h54b)
         have hx:ii (j.first+s.1) (j.commits.getD s.1 default)=0:=by
          rw[ii,if_neg (by omega),if_neg (by omega),if_neg]
          rintro (h|h)
          ·rw[h] at h54;simp at h54
          ·rw[h] at h54b;simp at h54b
         rw[if_neg (by simpa using hx),← show (j.commits.getD s.1 default).number=j.first+s.1 by omega] at hon
         refine ag ?_;(try simp only[go_sem]);refine aa ?_;simp only[go_sem];refine cw_m (AllOf_c s.2 (j.commits.getD s.1 default).changes (j.commits.getD s.1 default).number hgd hcc.2) byW byT ?_;simp only[go_sem];refine ab ?_;refine aa ?_;simp only[go_sem];intro t74 e74;subst e74;refine ah _ rfl (fun h74=>?_) (fun h74=>?_)
         ·(try simp only[go_sem] at h74);refine aa ?_;simp only[go_sem];refine af ?_;simp only[go_sem];have h:(allR s.2 (j.commits.getD s.1 default).changes (j.commits.getD s.1 default).number).2.2≠0:=by simpa using h74
          rw[if_pos h] at hon;have ho:=ph hc0 hf0 hm0 h (lx h hon);rw[hbad (by rw[ho];exact h),ho]
          exact ap 1 [] rfl byC byC byC byC
         ·(try simp only[go_sem] at h74);refine ag ?_;(try simp only[go_sem]);refine aj ?_;simp only[go_sem];repeat first|(with_reducible refine ad ?_ ?_;exact byD)|(with_reducible refine ae ?_ ?_;exact byQ)
          refine aj ?_;simp only[go_sem];intro t36 e36;(try replace e36:=w64 e36 (by omega) (by omega))
          have h:(allR s.2 (j.commits.getD s.1 default).changes (j.commits.getD s.1 default).number).2.2=0:=by simpa using h74
          rw[if_neg (by simpa using h)] at hon
          have hok:okE (allR s.2 (j.commits.getD s.1 default).changes (j.commits.getD s.1 default).number).1:=by
           have:=zcz (v:=(j.commits.getD s.1 default).number) hI1.2.1 hcc.2 (by rw[zce hI1.2.2.1];exact h)
           rw[zce hI1.2.2.1] at this;exact this.ok
          rw[show treeAt j (s.1+1)=(allR s.2 (j.commits.getD s.1 default).changes (j.commits.getD s.1 default).number).1 by rw[treeAt,hon]] at htn
          refine ke (s.1+1,(allR s.2 (j.commits.getD s.1 default).changes (j.commits.getD s.1 default).number).1) [0,4] ⟨by dsimp only;omega,hok,zdf hI1.2.2.1 h,hon⟩ (by first|omega|(dsimp only;omega)) ⟨rfl,rfl, ?_, ?_⟩
          ·(try rw[htn]);exact byC
          ·rw[htn];skip;simp only[go_sem,wk,wks,wkB,wkH,List.length_append,List.length_cons,List.length_nil]
           first|exact fun q hq=>dx (fun x=>ej _ rfl) (by rfl) hq|(and_intros<;>first|trivial|rfl|omega|(exact fun q hq=>dx (fun x=>ej _ rfl) (by rfl) hq)|exact ak _|exact byC)
    ·(try simp only[go_sem] at h34);have hi1:s.1=j.commits.length:=by omega
     have hrun:fk j.base j.first j.commits=(s.2,0):=by
      have:=hI1.2.2.2
      rwa [hi1,List.take_length] at this
     have hop:=zgm hc0 hf0 hm0 hrun;refine bk ?_;simp only[go_sem];refine ab ?_;refine aa ?_;simp only[go_sem];refine ai ?_;refine gz (σ:=Nat) (fun i=>i≤j.commits.length∧∀ b,b<i→∀ a,a<b→(j.commits.getD a default).key≠(j.commits.getD b default).key) (fun i=>[⟨9,0,[],.int .i64 (i:Nat)⟩]) [1,5] (fun i=>[.box (jnE j),.arr 1 (treesTo j s.1).length (En z3c [] (treesTo j s.1))]) (fun i=>j.commits.length-i) 0 ⟨Nat.zero_le _,fun b hb=>absurd hb (Nat.not_lt_zero b)⟩ (fun _=>(Nat.zero_le _)) byC (fun i hI2=>?_)
     simp only[go_sem];refine ab ?_;refine aa ?_;simp only[go_sem];repeat first|(with_reducible refine ad ?_ ?_;exact byD)|(with_reducible refine ae ?_ ?_;exact byQ)
     intro t84 e84;subst e84;refine ah _ rfl (fun h84=>?_) (fun h84=>?_)
     ·(try simp only[go_sem] at h84);refine ag ?_;(try simp only[go_sem]);refine ab (ai ?_);refine aa ?_;simp only[go_sem];refine ai ?_;refine gz (σ:=Nat) (fun k=>k≤i∧∀ a,a<k→(j.commits.getD a default).key≠(j.commits.getD i default).key) (fun k=>[⟨10,0,[],.int .i64 (k:Nat)⟩]) [1,5,9] (fun k=>[.box (jnE j),.arr 1 (treesTo j s.1).length (En z3c [] (treesTo j s.1))]) (fun k=>i-k) 0 ⟨Nat.zero_le _,fun b hb=>absurd hb (Nat.not_lt_zero b)⟩ (fun _=>(Nat.zero_le _)) byC (fun k hI3=>?_)
      simp only[go_sem];refine ab ?_;refine aa ?_;simp only[go_sem];repeat first|(with_reducible refine ad ?_ ?_;exact byD)|(with_reducible refine ae ?_ ?_;exact byQ)
      intro t89 e89;subst e89;refine ah _ rfl (fun h89=>?_) (fun h89=>?_)
      ·(try simp only[go_sem] at h89);refine ag ?_;(try simp only[go_sem]);refine ab (ai ?_);refine ab (bc cj [] (.first 0 (.first 1 (.first 2 (.first 3 (.first 4 (.first 5 (.first 6 (.first 7 (.first 8 (.first 9 (.first 10 (.first 11 (.first 12 (.done)))))))))))))) (by kernel_rfl) ?_)
       simp only[go_sem];repeat first|(with_reducible refine ad ?_ ?_;exact byD)|(with_reducible refine ae ?_ ?_;exact byQ)
       intro t104 e104;subst e104;refine ah _ rfl (fun h104=>?_) (fun h104=>?_)
       ·(try simp only[go_sem] at h104);refine aa ?_;simp only[go_sem];refine af ?_;simp only[go_sem];rw[if_neg (nodup_not (a:=k) (b:=i) (by omega) (by omega) h104)] at hop
        rw[hbad (by rw[hop];decide),hop]
        exact ap 1 [] rfl byC byC byC byC
       ·(try simp only[go_sem] at h104);refine ag ?_;(try simp only[go_sem]);refine aj ?_;simp only[go_sem];intro t91 e91;(try replace e91:=w64 e91 (by omega) (by omega))
        refine ay (k+1) ⟨by omega,fun a ha=>?_⟩ (by first|omega|(dsimp only;omega)) byC
        rcases Nat.lt_or_ge a k with h|h
        ·exact hI3.2 a h
        ·obtain rfl:a=k:=by omega
         exact h104
      ·(try simp only[go_sem] at h89);refine bk ?_;simp only[go_sem];refine aj ?_;simp only[go_sem];intro t86 e86;(try replace e86:=w64 e86 (by omega) (by omega))
       refine ay (i+1) ⟨by omega,fun b hb a ha=>?_⟩ (by first|omega|(dsimp only;omega)) byC
       rcases Nat.lt_or_ge b i with h|h
       ·exact hI2.2 b h a ha
       ·obtain rfl:b=i:=by omega
        exact hI3.2 a (by omega)
     ·(try simp only[go_sem] at h84);refine bk ?_;simp only[go_sem];refine aa ?_;simp only[go_sem];refine af ?_;simp only[go_sem];rw[if_pos (nodup_of fun b hb a ha=>hI2.2 b (by omega) a ha)] at hop
      have ht:treesP j=treesTo j s.1:=by rw[treesP,hop,if_pos rfl,hi1]
      rw[ht,hop];exact ap 2 [] rfl byC byC byC byC
theorem RCheckJournal_c (j:Journal) (ok:okJ j):Meets Tryz.prog 41 [.agg (jnE j)] (.int .i64 (bl j).2) []:=by
 refine an (fn:=Tryz.f41) Tryz.func41 rfl fb41 (by kernel_rfl) (Nat.le_of_ble_eq_true rfl) ?_
 refine aa ?_;simp only[go_sem];repeat first|(with_reducible refine ad ?_ ?_;exact byD)|(with_reducible refine ae ?_ ?_;exact byQ)
 refine aa ?_;simp only[go_sem];refine cw_m (OpenJournal_c j ok) byW byT ?_;simp only[go_sem];refine aa ?_;simp only[go_sem];refine af ?_;simp only[go_sem];exact am rfl
theorem treesP_last {j:Journal} (h:(bl j).2=0):(treesP j).length=j.commits.length+1∧(treesP j).getD j.commits.length []=(bl j).1:=by
 rw[treesP,if_pos h];refine⟨treesTo_len _ _, ?_⟩
 have h1:(bl j).1=(fk j.base j.first j.commits).1:=by
  unfold bl at h ⊢;grind
 rw[h1];simp[treesTo,List.getD,treeAt]
theorem TreeOf_c (j:Journal) (ok:okJ j) (h:(bl j).2=0):Meets Tryz.prog 28 [.agg (jnE j)] (esV (bl j).1) []:=by
 refine an (fn:=Tryz.f28) Tryz.func28 rfl fb28 (by kernel_rfl) (Nat.le_of_ble_eq_true rfl) ?_
 obtain⟨hl1,hl2⟩:=treesP_last h;have hcl:=ok.2.1;refine aa ?_;simp only[go_sem];repeat first|(with_reducible refine ad ?_ ?_;exact byD)|(with_reducible refine ae ?_ ?_;exact byQ)
 refine aa ?_;simp only[go_sem];refine cw_m (OpenJournal_c j ok) byW byT ?_;simp only[go_sem];refine aa ?_;simp only[go_sem];intro t13 e13;(try replace e13:=w64 e13 (by omega) (by omega))
 repeat first|(with_reducible refine ad ?_ ?_;exact byD)|(with_reducible refine ae ?_ ?_;exact byQ)
 refine af ?_;simp only[go_sem];rw[show t13.toNat=j.commits.length by omega,hl2]
 exact ap 1 [] rfl byC byC byC byC
end Go.VM.Tryz
end
section
set_option maxHeartbeats 4000000
open Go Go.VM
namespace Tether
theorem ahead_of {a b:Grant} (h:blt b.folder a.folder=false∧(¬ b.folder=a.folder∨blt b.who a.who=false∧¬ b.who=a.who)):gq a b:=by
 have h1:¬ b.folder<a.folder:=fun h'=>by rw[blt_iff.2 h'] at h;exact absurd h.1 (by simp)
 unfold gq
 rcases qk a.folder b.folder with k|k|k
 ·exact .inl k
 ·refine .inr ⟨k, ?_⟩
  rcases h.2 with h2 | ⟨h2,h3⟩
  ·exact absurd k.symm h2
  ·rcases qk a.who b.who with q|q|q
   ·exact q
   ·exact absurd q.symm h3
   ·rw[blt_iff.2 q] at h2;cases h2
 ·exact absurd k h1
theorem not_ahead_of {a b:Grant} (h:blt b.folder a.folder=true∨b.folder=a.folder∧(blt b.who a.who=true∨b.who=a.who)):¬ gq a b:=by
 rintro (k | ⟨k1,k2⟩)
 ·rcases h with h | ⟨h,_⟩
  ·exact List.lt_irrefl _ (List.lt_trans k (blt_iff.1 h))
  ·rw[h] at k;exact List.lt_irrefl _ k
 ·rcases h with h | ⟨_,h|h⟩
  ·rw[k1] at h;exact List.lt_irrefl _ (blt_iff.1 h)
  ·exact List.lt_irrefl _ (List.lt_trans k2 (blt_iff.1 h))
  ·rw[h] at k2;exact List.lt_irrefl _ k2
end Tether
end
section
set_option maxHeartbeats 4000000
open Go Go.VM Go.Proofs Tether
namespace Go.VM.Tryz.Gr
set_option maxHeartbeats 1000000
theorem ROwned_c (l:List Grant) (hl:l.length<4611686018427387904) (f:Str):Meets Tryz.prog 77 [gsV l,.str f] (.bool (l.any fun h=>decide (h.folder=f) && decide (h.right=3))) []:=by
 refine an (fn:=Tryz.f77) Tryz.func77 rfl fb77 (by kernel_rfl) (Nat.le_of_ble_eq_true rfl) ?_
 refine aa ?_;simp only[go_sem];repeat first|(with_reducible refine ad ?_ ?_;exact byD)|(with_reducible refine ae ?_ ?_;exact byQ)
 refine ab ?_;refine aa ?_;simp only[go_sem];refine ai ?_;refine bm (σ:=Nat) (fun i=>i≤l.length∧∀ j,j<i→¬ ((l.getD j default).folder=f∧(l.getD j default).right=3)) (fun i=>[⟨5,0,[],.int .i64 (i:Nat)⟩]) [0,1] (fun i=>l.length-i) 0 ⟨Nat.zero_le _,fun j hj=>absurd hj (Nat.not_lt_zero j)⟩ (Nat.zero_le _) byC (fun i hI1=>?_)
 simp only[go_sem];refine ab ?_;refine aa ?_;simp only[go_sem];repeat first|(with_reducible refine ad ?_ ?_;exact byD)|(with_reducible refine ae ?_ ?_;exact byQ)
 intro t9 e9;subst e9;refine ah _ rfl (fun h9=>?_) (fun h9=>?_)
 ·(try simp only[go_sem] at h9);refine ag ?_;(try simp only[go_sem]);refine ab (ai ?_);refine aa ?_;simp only[go_sem];repeat first|(with_reducible refine ad ?_ ?_;exact byD)|(with_reducible refine ae ?_ ?_;exact byQ)
  intro t18 e18;repeat first|(with_reducible refine ad ?_ ?_;exact byD)|(with_reducible refine ae ?_ ?_;exact byQ)
  intro t25 e25;intro t26 e26;rw[ar] at e26;subst e18 e25 e26;refine ah _ rfl (fun h26=>?_) (fun h26=>?_)
  ·(try simp only[go_sem] at h26);refine aa ?_;simp only[go_sem];refine af ?_;simp only[go_sem];refine aq ?_;exact (List.any_eq_true.2 ⟨l.getD i default,bj (by omega),by grind⟩).symm
  ·(try simp only[go_sem] at h26);refine ag ?_;(try simp only[go_sem]);refine aj ?_;simp only[go_sem];intro t11 e11;(try replace e11:=w64 e11 (by omega) (by omega))
   refine ay (i+1) ⟨by omega,bw hI1.2 (by grind)⟩ (by first|omega|(dsimp only;omega)) byC
 ·(try simp only[go_sem] at h9);refine bk ?_;simp only[go_sem];refine aa ?_;simp only[go_sem];refine af ?_;simp only[go_sem];refine aq ?_;refine (List.any_eq_false.2 fun x hx=>?_).symm
  obtain⟨j,hj,rfl⟩:=List.getElem_of_mem hx;have:=hI1.2 j (by omega)
  simpa [List.getD,hj] using this
theorem RWhoOf_c (l:List Grant) (hl:l.length<4611686018427387904) (hl2:l.length*16≤140737488355328) (f:Str):Meets Tryz.prog 43 [gsV l,.str f] (strsV (whoG l f)) []:=by
 refine an (fn:=Tryz.f43) Tryz.func43 rfl fb43 (by kernel_rfl) (Nat.le_of_ble_eq_true rfl) ?_
 refine aa ?_;simp only[go_sem];repeat first|(with_reducible refine ad ?_ ?_;exact byD)|(with_reducible refine ae ?_ ?_;exact byQ)
 refine aa ?_;simp only[go_sem];refine fp 5 1 (En strE [] []) rfl ?_;refine ab ?_;refine aa ?_;simp only[go_sem];refine ai ?_;refine gz (σ:=Nat) (fun i=>i≤l.length) (fun i=>[⟨6,0,[],.int .i64 (i:Nat)⟩,⟨5,0,[],.own none 0 1 0 (whoG (l.take i) f).length .loose⟩]) [0,1,4] (fun i=>[.arr 1 (whoG (l.take i) f).length (En strE [] (whoG (l.take i) f))]) (fun i=>l.length-i) 0 (by first|trivial|omega|simp) (fun _=>(Nat.zero_le _)) byC (fun i hI1=>?_)
 simp only[go_sem];have hwl:=whoG_len (l.take i) f;have hwl2:(l.take i).length≤i:=by simp;omega
 refine ab ?_;refine aa ?_;simp only[go_sem];repeat first|(with_reducible refine ad ?_ ?_;exact byD)|(with_reducible refine ae ?_ ?_;exact byQ)
 intro t10 e10;subst e10;refine ah _ rfl (fun h10=>?_) (fun h10=>?_)
 ·(try simp only[go_sem] at h10);refine ag ?_;(try simp only[go_sem]);refine ab (ai ?_);refine aa ?_;simp only[go_sem];repeat first|(with_reducible refine ad ?_ ?_;exact byD)|(with_reducible refine ae ?_ ?_;exact byQ)
  intro t19 e19;subst e19;refine ah _ rfl (fun h19=>?_) (fun h19=>?_)
  ·(try simp only[go_sem] at h19);refine aj ?_;simp only[go_sem];repeat first|(with_reducible refine ad ?_ ?_;exact byD)|(with_reducible refine ae ?_ ?_;exact byQ)
   refine aj ?_;simp only[go_sem];intro t12 e12;(try replace e12:=w64 e12 (by omega) (by omega))
   refine ke (i+1) [2] (by omega) (by first|omega|(dsimp only;omega)) ⟨rfl,rfl, ?_, ?_⟩
   ·(try rw[whoG_T (by omega) h19]);exact byC
   ·rw[whoG_T (by omega) h19];skip
    simp only[go_sem,wk,wks,wkB,wkH,List.length_append,List.length_cons,List.length_nil]
    first|exact fun q hq=>dx (fun x=>ej _ rfl) (by rfl) hq|(and_intros<;>first|trivial|rfl|omega|(exact fun q hq=>dx (fun x=>ej _ rfl) (by rfl) hq)|exact ak _|exact byC)
  ·(try simp only[go_sem] at h19);refine ag ?_;(try simp only[go_sem]);refine aj ?_;simp only[go_sem];intro t12 e12;(try replace e12:=w64 e12 (by omega) (by omega))
   refine ay (i+1) (by omega) (by first|omega|(dsimp only;omega)) ?_
   rw[whoG_F (by omega) h19]
   exact byC
 ·(try simp only[go_sem] at h10);refine bk ?_;simp only[go_sem];refine aa ?_;simp only[go_sem];refine af ?_;simp only[go_sem];have:l.take i=l:=List.take_of_length_le (by omega)
  rw[this];exact ap 1 [] rfl byC byC byC byC
theorem RCheckGrants_c (l:List Grant) (hl:Tether.okG l):Meets Tryz.prog 42 [gsV l] (.int .i64 (eo l)) []:=by
 refine an (fn:=Tryz.f42) Tryz.func42 rfl fb42 (by kernel_rfl) (Nat.le_of_ble_eq_true rfl) ?_
 have hln:=hl.len;refine aa ?_;simp only[go_sem];repeat first|(with_reducible refine ad ?_ ?_;exact byD)|(with_reducible refine ae ?_ ?_;exact byQ)
 refine ab ?_;refine aa ?_;simp only[go_sem];intro t8 e8;subst e8;refine ah _ rfl (fun h8=>?_) (fun h8=>?_)
 ·(try simp only[go_sem] at h8);refine aa ?_;simp only[go_sem];refine af ?_;simp only[go_sem];refine am ?_;simp[eo,h8]
 ·(try simp only[go_sem] at h8);refine ag ?_;(try simp only[go_sem]);refine ab ?_;refine aa ?_;simp only[go_sem];refine ai ?_;refine bm (σ:=Nat) (fun i=>i≤l.length∧∀ j,j<i→gErr (l.getD j default)=0) (fun i=>[⟨3,0,[],.int .i64 (i:Nat)⟩]) [0] (fun i=>l.length-i) 0 ⟨Nat.zero_le _,fun j hj=>absurd hj (Nat.not_lt_zero j)⟩ (Nat.zero_le _) byC (fun i hI1=>?_)
  simp only[go_sem];refine ab ?_;refine aa ?_;simp only[go_sem];repeat first|(with_reducible refine ad ?_ ?_;exact byD)|(with_reducible refine ae ?_ ?_;exact byQ)
  intro t12 e12;subst e12;refine ah _ rfl (fun h12=>?_) (fun h12=>?_)
  ·(try simp only[go_sem] at h12);have hm:=hl.2 _ (bj (l:=l) (d:=default) (show i<l.length by omega))
   refine ag ?_;(try simp only[go_sem]);refine ab (ai ?_);refine ab ?_;refine aa ?_;simp only[go_sem];repeat first|(with_reducible refine ad ?_ ?_;exact byD)|(with_reducible refine ae ?_ ?_;exact byQ)
   refine cw_m (zdj _ hm.1) byW byT ?_;simp only[go_sem];intro t21 e21;repeat first|(with_reducible refine ad ?_ ?_;exact byD)|(with_reducible refine ae ?_ ?_;exact byQ)
   refine⟨_,fun hp=>cw_m (zdj (l.getD i default).who hm.2) byW byT ⟨rfl,rfl⟩, ?_⟩
   simp only[go_sem];intro t29 e29;intro t30 e30;rw[az] at e30;subst e21 e29 e30;refine ah _ rfl (fun h30=>?_) (fun h30=>?_)
   ·(try simp only[go_sem] at h30);refine aa ?_;simp only[go_sem];refine af ?_;simp only[go_sem];refine am ?_;have hg:gErr (l.getD i default)=1:=by grind [gErr]
    have hf:=dq (f:=gErr) (l:=l) (d:=default) (i:=i) (by omega) hI1.2 (by rw[hg];decide)
    rw[eo,if_neg h8,hf,hg,if_pos (by decide)]
   ·(try simp only[go_sem] at h30);refine ag ?_;(try simp only[go_sem]);refine aa ?_;simp only[go_sem];repeat first|(with_reducible refine ad ?_ ?_;exact byD)|(with_reducible refine ae ?_ ?_;exact byQ)
    intro t36 e36;repeat first|(with_reducible refine ad ?_ ?_;exact byD)|(with_reducible refine ae ?_ ?_;exact byQ)
    intro t43 e43;intro t44 e44;rw[az] at e44;subst e36 e43 e44;refine ah _ rfl (fun h44=>?_) (fun h44=>?_)
    ·(try simp only[go_sem] at h44);refine aa ?_;simp only[go_sem];refine af ?_;simp only[go_sem];refine am ?_;have hg:gErr (l.getD i default)=3:=by grind [gErr]
     have hf:=dq (f:=gErr) (l:=l) (d:=default) (i:=i) (by omega) hI1.2 (by rw[hg];decide)
     rw[eo,if_neg h8,hf,hg,if_pos (by decide)]
    ·(try simp only[go_sem] at h44);refine ag ?_;(try simp only[go_sem]);refine aj ?_;simp only[go_sem];intro t14 e14;(try replace e14:=w64 e14 (by omega) (by omega))
     refine ay (i+1) ⟨by omega,bw hI1.2 (by grind [gErr])⟩ (by first|omega|(dsimp only;omega)) byC
  ·(try simp only[go_sem] at h12);have hf:=fw (f:=gErr) (l:=l) (d:=default) fun j hj=>hI1.2 j (by omega)
   refine bk ?_;simp only[go_sem];refine ab ?_;refine aa ?_;simp only[go_sem];refine ai ?_;refine bm (σ:=Nat) (fun i=>1≤i∧(i=1∨i≤l.length)∧∀ j,1≤j→j<i→oc l j=true) (fun i=>[⟨4,0,[],.int .i64 (i:Nat)⟩]) [0] (fun i=>l.length-i) 1 ⟨Nat.le_refl _,.inl rfl,fun j hj hj'=>by omega⟩ (Nat.zero_le _) byC (fun i hI2=>?_)
   simp only[go_sem];refine ab ?_;refine aa ?_;simp only[go_sem];repeat first|(with_reducible refine ad ?_ ?_;exact byD)|(with_reducible refine ae ?_ ?_;exact byQ)
   intro t48 e48;subst e48;refine ah _ rfl (fun h48=>?_) (fun h48=>?_)
   ·(try simp only[go_sem] at h48);refine ag ?_;(try simp only[go_sem]);refine ab (ai ?_);refine ab (bc cj [] (.first 0 (.first 1 (.first 2 (.first 3 (.first 4 (.first 5 (.first 6 (.first 7 (.first 8 (.first 9 (.first 10 (.first 11 (.first 12 (.first 13 (.first 14 (.first 15 (.first 16 (.first 17 (.first 18 (.first 19 (.first 20 (.first 21 (.first 22 (.first 23 (.first 24 (.first 25 (.first 26 (.first 27 (.first 28 (.first 29 (.first 30 (.first 31 (.first 32 (.first 33 (.first 34 (.first 35 (.first 36 (.first 37 (.first 38 (.first 39 (.done))))))))))))))))))))))))))))))))))))))))) (by kernel_rfl) ?_)
    simp only[go_sem];repeat first|(with_reducible refine ad ?_ ?_;exact byD)|(with_reducible refine ae ?_ ?_;exact byQ)
    intro t58 e58;(try replace e58:=w64 e58 (by omega) (by omega))
    repeat first|(with_reducible refine ad ?_ ?_;exact byD)|(with_reducible refine ae ?_ ?_;exact byQ)
    intro t62 e62;repeat first|(with_reducible refine ad ?_ ?_;exact byD)|(with_reducible refine ae ?_ ?_;exact byQ)
    intro t71 e71;(try replace e71:=w64 e71 (by omega) (by omega))
    repeat first|(with_reducible refine ad ?_ ?_;exact byD)|(with_reducible refine ae ?_ ?_;exact byQ)
    intro t75 e75;repeat first|(with_reducible refine ad ?_ ?_;exact byD)|(with_reducible refine ae ?_ ?_;exact byQ)
    intro t84 e84;(try replace e84:=w64 e84 (by omega) (by omega))
    repeat first|(with_reducible refine ad ?_ ?_;exact byD)|(with_reducible refine ae ?_ ?_;exact byQ)
    intro t88 e88;intro t89 e89;rw[ar] at e89;intro t90 e90;rw[az] at e90;subst e62 e75 e88 e89 e90;refine ah _ rfl (fun h90=>?_) (fun h90=>?_)
    ·(try simp only[go_sem] at h90);refine aa ?_;simp only[go_sem];refine af ?_;simp only[go_sem];refine am ?_
     have hr:((List.range l.length).all fun i=>i=0 || oc l i)=false:=dl (i:=i) (by omega) (by
      have:¬ i=0:=by omega
      simp only[this,decide_false,Bool.false_or,oc,decide_eq_false_iff_not,order_lt];have e1:t58.toNat=i-1:=by omega
      have e2:t71.toNat=i-1:=by omega
      have e3:t84.toNat=i-1:=by omega
      rw[e1,e2,e3] at h90;exact not_ahead_of h90)
     rw[eo,if_neg h8,hf,if_neg (by simp),hr,if_pos rfl]
    ·(try simp only[go_sem] at h90);refine ag ?_;(try simp only[go_sem]);refine aj ?_;simp only[go_sem];intro t50 e50;(try replace e50:=w64 e50 (by omega) (by omega))
     have hk:((i:Int)-1).toNat=i-1:=by omega
     refine ay (i+1) ⟨by omega,by omega,fun j h1 hj=>?_⟩ (by first|omega|(dsimp only;omega)) byC
     exact bw (p:=fun j=>1≤j→oc l j=true) (fun j hj h1=>hI2.2.2 j h1 hj) (fun _=>by
      simp only[oc,decide_eq_true_eq,order_lt];have e1:t58.toNat=i-1:=by omega
      have e2:t71.toNat=i-1:=by omega
      have e3:t84.toNat=i-1:=by omega
      rw[e1,e2,e3] at h90;exact ahead_of h90) j hj h1
   ·(try simp only[go_sem] at h48)
    have hr:((List.range l.length).all fun i=>i=0 || oc l i)=true:=dk fun j hj=>by
     by_cases h0:j=0
     ·simp[h0]
     ·simp[hI2.2.2 j (by omega) (by omega)]
    refine bk ?_;simp only[go_sem];refine ab ?_;refine aa ?_;simp only[go_sem];refine ai ?_;refine bm (σ:=Nat) (fun i=>i≤l.length∧∀ j,j<i→(l.any fun h=>decide (h.folder=(l.getD j default).folder) && decide (h.right=3))=true) (fun i=>[⟨5,0,[],.int .i64 (i:Nat)⟩]) [0] (fun i=>l.length-i) 0 ⟨Nat.zero_le _,fun j hj=>absurd hj (Nat.not_lt_zero j)⟩ (Nat.zero_le _) byC (fun i hI3=>?_)
    simp only[go_sem];refine ab ?_;refine aa ?_;simp only[go_sem];repeat first|(with_reducible refine ad ?_ ?_;exact byD)|(with_reducible refine ae ?_ ?_;exact byQ)
    intro t94 e94;subst e94;refine ah _ rfl (fun h94=>?_) (fun h94=>?_)
    ·(try simp only[go_sem] at h94);refine ag ?_;(try simp only[go_sem]);refine ab (ai ?_);refine aa ?_;simp only[go_sem];repeat first|(with_reducible refine ad ?_ ?_;exact byD)|(with_reducible refine ae ?_ ?_;exact byQ)
     refine cw_m (ROwned_c l hln (l.getD i default).folder) byW byT ?_;simp only[go_sem];intro t104 e104;subst e104;refine ah _ rfl (fun h104=>?_) (fun h104=>?_)
     ·(try simp only[go_sem] at h104);refine aa ?_;simp only[go_sem];refine af ?_;simp only[go_sem];refine am ?_;have ho:mg l=false:=zoq (d:=default) (i:=i) (by omega) h104
      rw[eo,if_neg h8,hf,if_neg (by simp),hr,if_neg (by simp),if_pos ho]
     ·(try simp only[go_sem] at h104);refine ag ?_;(try simp only[go_sem]);refine aj ?_;simp only[go_sem];intro t96 e96;(try replace e96:=w64 e96 (by omega) (by omega))
      refine ay (i+1) ⟨by omega,bw hI3.2 h104⟩ (by first|omega|(dsimp only;omega)) byC
    ·(try simp only[go_sem] at h94);refine bk ?_;simp only[go_sem];refine aa ?_;simp only[go_sem];refine af ?_;simp only[go_sem];refine am ?_;have ho:mg l=true:=zoa (d:=default) fun j hj=>hI3.2 j (by omega)
     rw[eo,if_neg h8,hf,if_neg (by simp),hr,if_neg (by simp),if_neg (by simp[ho])]
end Go.VM.Tryz.Gr
end
section
set_option maxHeartbeats 4000000
open Go Go.VM Go.Proofs Tether
namespace Go.VM.Tryz
def tickP (h:Hub) (n:Int):Hub × Int:=if dn h≠0 then (noH,dn h) else if n<0∨1099511627776-h.now<n then (noH,3) else ({ h with now:=h.now+n },0)
theorem Tick_c (h:Hub) (n:Int) (ok:dz h):Meets Tryz.prog 26 [.agg (hubE h),.int .i64 n] (.tup [.agg (hubE (tickP h n).1),.int .i64 (tickP h n).2]) []:=by
 refine an (fn:=Tryz.f26) Tryz.func26 rfl fb26 (by kernel_rfl) (Nat.le_of_ble_eq_true rfl) ?_
 refine aa ?_;simp only[go_sem];repeat first|(with_reducible refine ad ?_ ?_;exact byD)|(with_reducible refine ae ?_ ?_;exact byQ)
 refine ab ?_;refine aa ?_;simp only[go_sem];refine cw_m (nz h ok) byW byT ?_;simp only[go_sem];refine aa ?_;simp only[go_sem];intro t10 e10;subst e10;refine ah _ rfl (fun h10=>?_) (fun h10=>?_)
 ·(try simp only[go_sem] at h10);refine aa ?_;simp only[go_sem];refine af ?_;simp only[go_sem];have he:tickP h n=(noH,dn h):=by rw[tickP,if_pos (by simpa using h10)]
  rw[he];exact ap 2 [] rfl byC byC byC byC
 ·(try simp only[go_sem] at h10);have hc:dn h=0:=by simpa using h10
  have hnow:=(checkH_good.1 hc).now;refine ag ?_;(try simp only[go_sem]);refine ab ?_;refine aa ?_;simp only[go_sem];intro t14 e14;intro t19 e19;(try replace e19:=w64 e19 (by omega) (by omega))
  intro t20 e20;intro t21 e21;rw[az] at e21;subst e14 e20 e21;refine ah _ rfl (fun h21=>?_) (fun h21=>?_)
  ·(try simp only[go_sem] at h21);refine aa ?_;simp only[go_sem];refine af ?_;simp only[go_sem];have he:tickP h n=(noH,3):=by rw[tickP,if_neg (by simpa using hc),if_pos (by grind)]
   rw[he];exact ap 2 [] rfl byC byC byC byC
  ·(try simp only[go_sem] at h21);refine ag ?_;(try simp only[go_sem]);refine aa ?_;simp only[go_sem];refine cw_m (ow h ok) byW byT ?_;simp only[go_sem];refine aa ?_;simp only[go_sem];intro t28 e28;(try replace e28:=w64 e28 (by omega) (by omega))
   refine aa ?_;simp only[go_sem];refine af ?_;simp only[go_sem];have he:tickP h n=({ h with now:=h.now+n },0):=by rw[tickP,if_neg (by simpa using hc),if_neg (by grind)]
   rw[he];exact ap 2 [] rfl byC byC byC byC
def fAt (l:List Shared) (p:Str):Int:=if hasF l p=true then (fIx l p:Int) else -1
theorem FolderAt_c (h:Hub) (p:Str) (hs:fo h.folders) (hl:h.folders.length≤1048576):Meets Tryz.prog 27 [.agg (hubE h),.str p] (.int .i64 (fAt h.folders p)) []:=by
 refine an (fn:=Tryz.f27) Tryz.func27 rfl fb27 (by kernel_rfl) (Nat.le_of_ble_eq_true rfl) ?_
 refine aa ?_;simp only[go_sem];repeat first|(with_reducible refine ad ?_ ?_;exact byD)|(with_reducible refine ae ?_ ?_;exact byQ)
 refine ab ?_;refine aa ?_;simp only[go_sem];refine ai ?_;refine bm (σ:=Nat) (fun i=>i≤h.folders.length∧∀ j,j<i→¬ (h.folders.getD j default).name=p) (fun i=>[⟨5,0,[],.int .i64 (i:Nat)⟩]) [1,2] (fun i=>h.folders.length-i) 0 ⟨Nat.zero_le _,fun j hj=>absurd hj (Nat.not_lt_zero j)⟩ (Nat.zero_le _) byC (fun i hI1=>?_)
 simp only[go_sem];refine ab ?_;refine aa ?_;simp only[go_sem];repeat first|(with_reducible refine ad ?_ ?_;exact byD)|(with_reducible refine ae ?_ ?_;exact byQ)
 intro t10 e10;subst e10;refine ah _ rfl (fun h10=>?_) (fun h10=>?_)
 ·(try simp only[go_sem] at h10);refine ag ?_;(try simp only[go_sem]);refine ab (ai ?_);refine aa ?_;simp only[go_sem];repeat first|(with_reducible refine ad ?_ ?_;exact byD)|(with_reducible refine ae ?_ ?_;exact byQ)
  intro t20 e20;subst e20;refine ah _ rfl (fun h20=>?_) (fun h20=>?_)
  ·(try simp only[go_sem] at h20);refine aa ?_;simp only[go_sem];refine af ?_;simp only[go_sem];refine am ?_;obtain⟨e1,e2⟩:=zxr hs (i:=i) (by omega)
   have h20':(h.folders.getD i default).name=p:=by simpa using h20
   rw[h20'] at e1 e2;rw[fAt,if_pos e2,e1]
  ·(try simp only[go_sem] at h20);refine ag ?_;(try simp only[go_sem]);refine aj ?_;simp only[go_sem];intro t12 e12;(try replace e12:=w64 e12 (by omega) (by omega))
   refine ay (i+1) ⟨by omega,bw hI1.2 (by simpa using h20)⟩ (by first|omega|(dsimp only;omega)) byC
 ·(try simp only[go_sem] at h10);refine bk ?_;simp only[go_sem];refine aa ?_;simp only[go_sem];refine af ?_;simp only[go_sem];refine am ?_;rw[fAt,if_neg];intro hh;obtain⟨s,hm,e⟩:=(ld hs).1 hh;obtain⟨j,hj,rfl⟩:=List.getElem_of_mem hm;exact hI1.2 j (by omega) (by simpa [List.getD,hj] using e)
theorem RCheckHub_c (h:Hub) (ok:dz h):Meets Tryz.prog 17 [.agg (hubE h)] (.int .i64 (dn h)) []:=by
 refine an (fn:=Tryz.f17) Tryz.func17 rfl fb17 (by kernel_rfl) (Nat.le_of_ble_eq_true rfl) ?_
 have hfl:=ok.1.1;have hsh:=ok.1.2;have hgl:=ok.2.1.1;refine aa ?_;simp only[go_sem];repeat first|(with_reducible refine ad ?_ ?_;exact byD)|(with_reducible refine ae ?_ ?_;exact byQ)
 refine ab ?_;refine aa ?_;simp only[go_sem];intro t11 e11;intro t15 e15;intro t16 e16;rw[az] at e16;subst e11 e15 e16;refine ah _ rfl (fun h16=>?_) (fun h16=>?_)
 ·(try simp only[go_sem] at h16);refine aa ?_;simp only[go_sem];refine af ?_;simp only[go_sem];refine am ?_;rw[dn,if_pos (by grind)]
 ·(try simp only[go_sem] at h16);have hb:¬ (h.now<0∨1099511627776<h.now):=by grind
  refine ag ?_;(try simp only[go_sem]);refine ab ?_;refine aa ?_;simp only[go_sem];intro t20 e20;subst e20;refine ah _ rfl (fun h20=>?_) (fun h20=>?_)
  ·(try simp only[go_sem] at h20);refine aa ?_;simp only[go_sem];refine af ?_;simp only[go_sem];refine am ?_;rw[dn,if_neg hb,if_pos (by omega)]
  ·(try simp only[go_sem] at h20);refine ag ?_;(try simp only[go_sem]);refine ab ?_;refine aa ?_;simp only[go_sem];refine ai ?_;refine bm (σ:=Nat) (fun i=>i≤h.folders.length∧∀ j,j<i→sw (h.folders.getD j default)=0) (fun i=>[⟨3,0,[],.int .i64 (i:Nat)⟩]) [1] (fun i=>h.folders.length-i) 0 ⟨Nat.zero_le _,fun j hj=>absurd hj (Nat.not_lt_zero j)⟩ (Nat.zero_le _) byC (fun i hI1=>?_)
   simp only[go_sem];refine ab ?_;refine aa ?_;simp only[go_sem];repeat first|(with_reducible refine ad ?_ ?_;exact byD)|(with_reducible refine ae ?_ ?_;exact byQ)
   intro t25 e25;subst e25;refine ah _ rfl (fun h25=>?_) (fun h25=>?_)
   ·(try simp only[go_sem] at h25);have hm:=hsh _ (bj (l:=h.folders) (d:=default) (show i<h.folders.length by omega))
    refine ag ?_;(try simp only[go_sem]);refine ab (ai ?_);refine ab ?_;refine aa ?_;simp only[go_sem];repeat first|(with_reducible refine ad ?_ ?_;exact byD)|(with_reducible refine ae ?_ ?_;exact byQ)
    refine cw_m (zdj (h.folders.getD i default).name (by have:=hm.1;omega)) byW byT ?_
    simp only[go_sem];intro t35 e35;subst e35;refine ah _ rfl (fun h35=>?_) (fun h35=>?_)
    ·(try simp only[go_sem] at h35);refine aa ?_;simp only[go_sem];refine af ?_;simp only[go_sem];refine am ?_;have he:sw (h.folders.getD i default)=1:=by rw[sw,if_pos (by simpa using h35)]
     have h1:=dq (f:=sw) (l:=h.folders) (d:=default) (i:=i) (by omega) hI1.2 (by rw[he];decide)
     rw[dn,if_neg hb,if_neg (by omega),if_pos (by rw[h1,he];decide),h1,he]
    ·(try simp only[go_sem] at h35);have he:sw (h.folders.getD i default)=(bl (h.folders.getD i default).jn).2:=by rw[sw,if_neg (by simpa using h35)]
     refine ag ?_;(try simp only[go_sem]);refine aa ?_;simp only[go_sem];repeat first|(with_reducible refine ad ?_ ?_;exact byD)|(with_reducible refine ae ?_ ?_;exact byQ)
     refine cw_m (RCheckJournal_c (h.folders.getD i default).jn hm.2) byW byT ?_;simp only[go_sem];refine aa ?_;simp only[go_sem];intro t44 e44;subst e44;refine ah _ rfl (fun h44=>?_) (fun h44=>?_)
     ·(try simp only[go_sem] at h44);refine aa ?_;simp only[go_sem];refine af ?_;simp only[go_sem];refine am ?_;have h1:=dq (f:=sw) (l:=h.folders) (d:=default) (i:=i) (by omega) hI1.2 (by rw[he];exact h44)
      rw[dn,if_neg hb,if_neg (by omega),if_pos (by rw[h1,he];exact h44),h1,he]
     ·(try simp only[go_sem] at h44);refine ag ?_;(try simp only[go_sem]);refine aj ?_;simp only[go_sem];intro t27 e27;(try replace e27:=w64 e27 (by omega) (by omega))
      refine ay (i+1) ⟨by omega,bw hI1.2 (by rw[he];simpa using h44)⟩ (by first|omega|(dsimp only;omega)) byC
   ·(try simp only[go_sem] at h25);have hE:bh sw h.folders=0:=fw (d:=default) fun j hj=>hI1.2 j (by omega)
    refine bk ?_;simp only[go_sem];refine ab ?_;refine aa ?_;simp only[go_sem];refine ai ?_;refine bm (σ:=Nat) (fun i=>1≤i∧(i≤h.folders.length∨i=1)∧∀ j,j<i→1≤j→oo h.folders j=true) (fun i=>[⟨5,0,[],.int .i64 (i:Nat)⟩]) [1] (fun i=>h.folders.length-i) 1 ⟨Nat.le_refl _,.inr rfl,fun j h1 h2=>by omega⟩ (Nat.zero_le _) byC (fun i hI2=>?_)
    simp only[go_sem];refine ab ?_;refine aa ?_;simp only[go_sem];repeat first|(with_reducible refine ad ?_ ?_;exact byD)|(with_reducible refine ae ?_ ?_;exact byQ)
    intro t50 e50;subst e50;refine ah _ rfl (fun h50=>?_) (fun h50=>?_)
    ·(try simp only[go_sem] at h50);refine ag ?_;(try simp only[go_sem]);refine ab (ai ?_);refine ab (bc cj [] (.first 0 (.first 1 (.first 2 (.first 3 (.first 4 (.first 5 (.first 6 (.first 7 (.first 8 (.first 9 (.first 10 (.first 11 (.first 12 (.first 13 (.done))))))))))))))) (by kernel_rfl) ?_)
     simp only[go_sem];repeat first|(with_reducible refine ad ?_ ?_;exact byD)|(with_reducible refine ae ?_ ?_;exact byQ)
     intro t62 e62;(try replace e62:=w64 e62 (by omega) (by omega))
     repeat first|(with_reducible refine ad ?_ ?_;exact byD)|(with_reducible refine ae ?_ ?_;exact byQ)
     intro t66 e66;subst e66;refine ah _ rfl (fun h66=>?_) (fun h66=>?_)
     ·(try simp only[go_sem] at h66);refine aa ?_;simp only[go_sem];refine af ?_;simp only[go_sem];refine am ?_;have hk:((i:Int)-1).toNat=i-1:=by omega
      subst e62;rw[hk] at h66
      have hr:((List.range h.folders.length).all fun i=>decide (i=0) || oo h.folders i)=false:=dl (i:=i) (by omega) (by
       have h0:¬ i=0:=by omega
       simp only[h0,decide_false,Bool.false_or,oo];grind [leq_F])
      rw[dn,if_neg hb,if_neg (by omega),if_neg (by simp[hE]),if_pos hr]
     ·(try simp only[go_sem] at h66);refine ag ?_;(try simp only[go_sem]);refine aj ?_;simp only[go_sem];intro t52 e52;(try replace e52:=w64 e52 (by omega) (by omega))
      have hk:((i:Int)-1).toNat=i-1:=by omega
      subst e62;rw[hk] at h66
      have hb2:oo h.folders i=true:=by
       unfold oo;grind [leq_F]
      refine ay (i+1) ⟨by omega,by omega,fun j h1 h2=>?_⟩ (by first|omega|(dsimp only;omega)) byC
      exact bw (p:=fun j=>1≤j→oo h.folders j=true) (fun j hj h1=>hI2.2.2 j hj h1) (fun _=>hb2) j h1 h2
    ·(try simp only[go_sem] at h50)
     have hR:((List.range h.folders.length).all fun i=>decide (i=0) || oo h.folders i)=true:=dk fun j hj=>by
      by_cases h0:j=0
      ·simp[h0]
      ·simp[hI2.2.2 j (by omega) (by omega)]
     have hs:=rises_sorted.1 hR;refine bk ?_;simp only[go_sem];refine aa ?_;simp only[go_sem];refine cw_m (Gr.RCheckGrants_c h.grants ok.2.1.good) byW byT ?_;simp only[go_sem];refine ab ?_;refine aa ?_;simp only[go_sem];intro t71 e71;subst e71;refine ah _ rfl (fun h71=>?_) (fun h71=>?_)
     ·(try simp only[go_sem] at h71);refine aa ?_;simp only[go_sem];refine af ?_;simp only[go_sem];refine am ?_;rw[dn,if_neg hb,if_neg (by omega),if_neg (by simp[hE]),if_neg (by simp[hR]),if_pos (by simpa using h71)]
     ·(try simp only[go_sem] at h71);have hg:eo h.grants=0:=by simpa using h71
      refine ag ?_;(try simp only[go_sem]);refine ab ?_;refine aa ?_;simp only[go_sem];refine ai ?_;refine bm (σ:=Nat) (fun i=>i≤h.grants.length∧∀ j,j<i→hasF h.folders (h.grants.getD j default).folder=true) (fun i=>[⟨7,0,[],.int .i64 (i:Nat)⟩]) [1] (fun i=>h.grants.length-i) 0 ⟨Nat.zero_le _,fun j hj=>absurd hj (Nat.not_lt_zero j)⟩ (Nat.zero_le _) byC (fun i hI3=>?_)
      simp only[go_sem];refine ab ?_;refine aa ?_;simp only[go_sem];repeat first|(with_reducible refine ad ?_ ?_;exact byD)|(with_reducible refine ae ?_ ?_;exact byQ)
      intro t77 e77;subst e77;refine ah _ rfl (fun h77=>?_) (fun h77=>?_)
      ·(try simp only[go_sem] at h77);refine ag ?_;(try simp only[go_sem]);refine ab (ai ?_);refine ab (bc cj [] (.first 0 (.first 1 (.first 2 (.first 3 (.first 4 (.first 5 (.first 6 (.one 7 (.first 8 (.done)))))))))) (by kernel_rfl) ?_)
       simp only[go_sem];repeat first|(with_reducible refine ad ?_ ?_;exact byD)|(with_reducible refine ae ?_ ?_;exact byQ)
       refine ek (FolderAt_c h (h.grants.getD i default).folder hs hfl) byW byT ?_;simp only[go_sem];intro t88 e88;subst e88;refine ah _ rfl (fun h88=>?_) (fun h88=>?_)
       ·(try simp only[go_sem] at h88)
        have hno:hasF h.folders (h.grants.getD i default).folder=false:=by
         cases hq:hasF h.folders (h.grants.getD i default).folder with
         | false=>rfl
         | true =>
           unfold fAt at h88;rw[if_pos hq] at h88;omega
        refine aa ?_;simp only[go_sem];refine af ?_;simp only[go_sem];refine am ?_;have hmt:=zfr (h:=h) hs (bj (l:=h.grants) (d:=default) (show i<h.grants.length by omega)) hno
        rw[dn,if_neg hb,if_neg (by omega),if_neg (by simp[hE]),if_neg (by simp[hR]),if_neg (by simp[hg]),if_pos hmt]
       ·(try simp only[go_sem] at h88)
        have hyes:hasF h.folders (h.grants.getD i default).folder=true:=by
         cases hq:hasF h.folders (h.grants.getD i default).folder with
         | true=>rfl
         | false =>
           unfold fAt at h88;rw[if_neg (by rw[hq];decide)] at h88
           omega
        refine ag ?_;(try simp only[go_sem]);refine aj ?_;simp only[go_sem];intro t79 e79;(try replace e79:=w64 e79 (by omega) (by omega))
        refine ay (i+1) ⟨by omega,bw hI3.2 hyes⟩ (by first|omega|(dsimp only;omega)) byC
      ·(try simp only[go_sem] at h77)
       have hA:(h.grants.all fun g=>h.folders.any fun s=>decide (s.name=g.folder))=true:=by
        rw[List.all_eq_true];intro x hx;obtain⟨j,hj,rfl⟩:=List.getElem_of_mem hx;have h3:=hI3.2 j (by omega)
        obtain⟨s,h1,h2⟩:=(ld hs).1 h3;have e:h.grants.getD j default=h.grants[j]:=by simp[List.getD,hj]
        rw[e] at h2;exact List.any_eq_true.2 ⟨s,h1,by simp[h2]⟩
       refine bk ?_;simp only[go_sem];refine ab ?_;refine aa ?_;simp only[go_sem];refine ai ?_;refine bm (σ:=Nat) (fun i=>i≤h.folders.length∧∀ j,j<i→whoG h.grants (h.folders.getD j default).name≠[]) (fun i=>[⟨8,0,[],.int .i64 (i:Nat)⟩]) [1] (fun i=>h.folders.length-i) 0 ⟨Nat.zero_le _,fun j hj=>absurd hj (Nat.not_lt_zero j)⟩ (Nat.zero_le _) byC (fun i hI4=>?_)
       simp only[go_sem];refine ab ?_;refine aa ?_;simp only[go_sem];repeat first|(with_reducible refine ad ?_ ?_;exact byD)|(with_reducible refine ae ?_ ?_;exact byQ)
       intro t93 e93;subst e93;refine ah _ rfl (fun h93=>?_) (fun h93=>?_)
       ·(try simp only[go_sem] at h93);refine ag ?_;(try simp only[go_sem]);refine ab (ai ?_);refine ab (bc cj [] (.first 0 (.first 1 (.first 2 (.first 3 (.first 4 (.first 5 (.first 6 (.first 7 (.one 8 (.first 9 (.first 10 (.done)))))))))))) (by kernel_rfl) ?_)
        simp only[go_sem];repeat first|(with_reducible refine ad ?_ ?_;exact byD)|(with_reducible refine ae ?_ ?_;exact byQ)
        refine ek (Gr.RWhoOf_c h.grants (by omega) (by omega) (h.folders.getD i default).name) byW byT ?_
        simp only[go_sem];intro t106 e106;subst e106;refine ah _ rfl (fun h106=>?_) (fun h106=>?_)
        ·(try simp only[go_sem] at h106);refine aa ?_;simp only[go_sem];refine af ?_;simp only[go_sem];refine am ?_;have hw:whoG h.grants (h.folders.getD i default).name=[]:=List.length_eq_zero_iff.1 (by omega)
         have hmt:gm h=false:=by
          unfold gm;rw[hA,Bool.true_and,List.all_eq_false];refine⟨h.folders.getD i default,bj (by omega), ?_⟩
          intro h1;obtain⟨x,hx,e⟩:=List.any_eq_true.1 h1;unfold whoG at hw;rw[List.map_eq_nil_iff,List.filter_eq_nil_iff] at hw;exact hw x hx e
         rw[dn,if_neg hb,if_neg (by omega),if_neg (by simp[hE]),if_neg (by simp[hR]),if_neg (by simp[hg]),if_pos hmt]
        ·(try simp only[go_sem] at h106);refine ag ?_;(try simp only[go_sem]);refine aj ?_;simp only[go_sem];intro t95 e95;(try replace e95:=w64 e95 (by omega) (by omega))
         refine ay (i+1) ⟨by omega,bw hI4.2 (by intro e;rw[e] at h106;simp at h106)⟩ (by first|omega|(dsimp only;omega)) byC
       ·(try simp only[go_sem] at h93);refine bk ?_;simp only[go_sem];refine aa ?_;simp only[go_sem];refine cw_m (Up.RCheck_c h.ups ok.2.2.good.len (fun s hs=>(ok.2.2.good.2 s hs).1)) byW byT ?_
        simp only[go_sem];refine af ?_;simp only[go_sem];refine am ?_
        have hmt:gm h=true:=by
         unfold gm;rw[hA,Bool.true_and,List.all_eq_true];intro x hx;obtain⟨j,hj,rfl⟩:=List.getElem_of_mem hx;have h3:=hI4.2 j (by omega)
         have e:h.folders.getD j default=h.folders[j]:=by simp[List.getD,hj]
         rw[e] at h3;unfold whoG at h3;rw[Ne,List.map_eq_nil_iff,List.filter_eq_nil_iff] at h3;simp only[Classical.not_forall,Classical.not_not] at h3;obtain⟨y,hy,h4⟩:=h3;exact List.any_eq_true.2 ⟨y,hy,h4⟩
        rw[dn,if_neg hb,if_neg (by omega),if_neg (by simp[hE]),if_neg (by simp[hR]),if_neg (by simp[hg]),if_neg (by simp[hmt])]
end Go.VM.Tryz
end
section
set_option maxHeartbeats 4000000
open Go Go.VM Go.Proofs Tether
namespace Go.VM.Tryz
theorem HubChecks_c (h:Hub) (ok:dz h):Meets Tryz.prog 4 [.agg (hubE h)] (.bool true) []:=by
 refine an (fn:=Tryz.f4) Tryz.func4 rfl fb4 (by kernel_rfl) (Nat.le_of_ble_eq_true rfl) ?_
 refine aa ?_;simp only[go_sem];repeat first|(with_reducible refine ad ?_ ?_;exact byD)|(with_reducible refine ae ?_ ?_;exact byQ)
 refine ab (bc cj [] (.one 0 (.first 1 (.first 2 (.first 4 (.one 3 (.one 5 (.first 6 (.first 7 (.first 8 (.done)))))))))) (by kernel_rfl) ?_)
 simp only[go_sem];refine ek (iq) byW byT ?_;simp only[go_sem];refine⟨_,fun hp=>ek (nz h ok) byW byT ⟨rfl,rfl⟩, ?_⟩
 simp only[go_sem];refine⟨_,fun hp=>ek (RCheckHub_c h ok) byW byT ⟨rfl,rfl⟩, ?_⟩
 simp only[go_sem];intro t9 e9;intro t10 e10;rw[ar] at e10;subst e9 e10;refine af ?_;simp only[go_sem];exact aq (by simp)
theorem HubTicks_c (h:Hub) (n:Int) (p:Str) (ok:dz h):Meets Tryz.prog 10 [.agg (hubE h),.int .i64 n,.str p] (.bool true) []:=by
 refine an (fn:=Tryz.f10) Tryz.func10 rfl fb10 (by kernel_rfl) (Nat.le_of_ble_eq_true rfl) ?_
 have hfl:=ok.1.1;refine aa ?_;simp only[go_sem];repeat first|(with_reducible refine ad ?_ ?_;exact byD)|(with_reducible refine ae ?_ ?_;exact byQ)
 refine aa ?_;simp only[go_sem];refine cw_m (Tick_c h n ok) byW byT ?_;simp only[go_sem];refine aa ?_;simp only[go_sem];refine cw_m (vl h p ok) byW byT ?_;simp only[go_sem];refine aa ?_;simp only[go_sem];refine cw_m (RCheckHub_c h ok) byW byT ?_;simp only[go_sem];refine aa ?_;simp only[go_sem];refine ab ?_;refine aa ?_;simp only[go_sem];intro t33 e33;intro t36 e36;intro t41 e41;(try replace e41:=w64 e41 (by omega) (by omega))
 intro t42 e42;intro t43 e43;rw[az] at e43;intro t44 e44;rw[ar] at e44;subst e33 e36 e42 e43 e44;refine zp (σ:=Unit) (fun u=>True) (fun u=>[⟨12,0,[],.int .i64 (tickP h n).2⟩]) [1,2,3,6,7,8,9,10,11,13] (Nat.zero_le _) ?_ (fun u hIM1=>?_)
 ·refine ah _ rfl (fun h44=>?_) (fun h44=>?_)
  ·(try simp only[go_sem] at h44);refine aj ?_;simp only[go_sem];have hnr:=(checkH_good.1 h44.1).now;have e41':=w64 e41 (by omega) (by omega)
   have he:tickP h n=(noH,3):=by rw[tickP,if_neg (by simp[h44.1]),if_pos (by omega)]
   refine gi () trivial ?_;rw[he];exact byC
  ·(try simp only[go_sem] at h44);refine ag ?_;(try simp only[go_sem])
   have he:(tickP h n).2=dn h:=by
    unfold tickP;split
    ·rfl
    ·rename_i h1;have hc:dn h=0:=Classical.not_not.1 h1;have hnr:=(checkH_good.1 hc).now;have e41':=w64 e41 (by omega) (by omega)
     rw[if_neg (by grind),hc]
   refine gi () trivial ?_;rw[he];exact byC
 simp only[go_sem];refine ab ?_;refine aa ?_;simp only[go_sem];repeat first|(with_reducible refine ad ?_ ?_;exact byD)|(with_reducible refine ae ?_ ?_;exact byQ)
 intro t46 e46;subst e46;refine ah _ rfl (fun h46=>?_) (fun h46=>?_)
 ·(try simp only[go_sem] at h46);have hz:(tickP h n).2=0:=by simpa using h46
  have hc:dn h=0:=by unfold tickP at hz;grind
  have he:tickP h n=({ h with now:=h.now+n },0):=by
   unfold tickP at hz ⊢;rw[if_neg (by simpa using hc)] at hz ⊢
   split
   ·rename_i h1;rw[if_pos h1] at hz;simp at hz
   ·rfl
  have hnr:=(checkH_good.1 hc).now
  have hnn:¬ (n<0∨1099511627776-h.now<n):=by
   intro h1;unfold tickP at hz;rw[if_neg (by simpa using hc),if_pos h1] at hz
   simp at hz
  rw[he];dsimp only;refine aa ?_;simp only[go_sem];refine aj ?_;simp only[go_sem];intro t51 e51;(try replace e51:=w64 e51 (by omega) (by omega))
  refine aa ?_;simp only[go_sem];refine ab ?_;refine aa ?_;simp only[go_sem];intro t54 e54;subst e54;refine ah _ rfl (fun h54=>?_) (fun h54=>?_)
  ·(try simp only[go_sem] at h54);have hc0:dn h=0:=by simpa using h54
   have g:=checkH_good.1 hc0;refine aa ?_;simp only[go_sem];refine cw_m (FolderAt_c h p g.sorted hfl) byW byT ?_;simp only[go_sem];refine aa ?_;simp only[go_sem];intro t59 e59;subst e59;refine ah _ rfl (fun h59=>?_) (fun h59=>?_)
   ·(try simp only[go_sem] at h59)
    have hh:hasF h.folders p=true:=by
     cases hq:hasF h.folders p with
     | true=>rfl
     | false=>rw[fAt,if_neg (by rw[hq];decide)] at h59;omega
    have hix:fIx h.folders p<h.folders.length:=by rw[lw] at hh;simp at hh;exact hh.1
    have hmem:=ok.1.2 _ (bj (l:=h.folders) (d:=default) hix);have hop:=(g.each _ (bj (l:=h.folders) (d:=default) hix)).2;have hfa:fAt h.folders p=(fIx h.folders p:Nat):=by rw[fAt,if_pos hh]
    have ht:eu h p=bl (h.folders.getD (fIx h.folders p) default).jn:=by rw[eu,if_neg (by simpa using hc0),if_neg (by simp[hh])]
    have hol:=(nw hmem.2 hop).len;rw[hfa,ht];refine aj ?_;simp only[go_sem];repeat first|(with_reducible refine ad ?_ ?_;exact byD)|(with_reducible refine ae ?_ ?_;exact byQ)
    refine cw_m (TreeOf_c (h.folders.getD (fIx h.folders p) default).jn hmem.2 hop) byW byT ?_;simp only[go_sem];refine aa ?_;simp only[go_sem];refine cw_m (iq) byW byT ?_;simp only[go_sem];intro t71 e71;intro t72 e72;rw[ar] at e72
    first|(refine⟨_,fun hp=>cw_m (ly noH noH th th) byW byT ⟨rfl,rfl⟩, ?_⟩)|(refine⟨_,fun hp=>cw_m (ly { h with now:=h.now+n } { h with now:=h.now+n } ok ok) byW byT ⟨rfl,rfl⟩, ?_⟩)
    simp only[go_sem];intro t77 e77;rw[ar] at e77
    first|(refine⟨_,fun hp=>cw_m (treeIs_c (bl (h.folders.getD (fIx h.folders p) default).jn).1 (bl (h.folders.getD (fIx h.folders p) default).jn).2 0 (bl (h.folders.getD (fIx h.folders p) default).jn).1 (by omega) (by omega)) byW byT ⟨rfl,rfl⟩, ?_⟩)|(refine⟨_,fun hp=>cw_m (treeIs_c [] 5 5 [] (by simp) (by simp)) byW byT ⟨rfl,rfl⟩, ?_⟩)|(refine⟨_,fun hp=>cw_m (treeIs_c [] (dn h) (dn h) [] (by simp) (by simp)) byW byT ⟨rfl,rfl⟩, ?_⟩)
    simp only[go_sem];intro t84 e84;rw[ar] at e84;subst e71 e72 e77 e84;refine af ?_;simp only[go_sem];exact aq (by simp_all)
   ·(try simp only[go_sem] at h59)
    have hh:hasF h.folders p=false:=by
     cases hq:hasF h.folders p with
     | false=>rfl
     | true=>rw[fAt,if_pos hq] at h59;omega
    have ht:eu h p=([],5):=by rw[eu,if_neg (by simpa using hc0),if_pos hh]
    rw[ht];dsimp only;refine aj ?_;simp only[go_sem];refine aa ?_;simp only[go_sem];refine cw_m (iq) byW byT ?_;simp only[go_sem];intro t71 e71;intro t72 e72;rw[ar] at e72
    first|(refine⟨_,fun hp=>cw_m (ly noH noH th th) byW byT ⟨rfl,rfl⟩, ?_⟩)|(refine⟨_,fun hp=>cw_m (ly { h with now:=h.now+n } { h with now:=h.now+n } ok ok) byW byT ⟨rfl,rfl⟩, ?_⟩)
    simp only[go_sem];intro t77 e77;rw[ar] at e77
    first|(refine⟨_,fun hp=>cw_m (treeIs_c (bl (h.folders.getD (fIx h.folders p) default).jn).1 (bl (h.folders.getD (fIx h.folders p) default).jn).2 0 (bl (h.folders.getD (fIx h.folders p) default).jn).1 (by omega) (by omega)) byW byT ⟨rfl,rfl⟩, ?_⟩)|(refine⟨_,fun hp=>cw_m (treeIs_c [] 5 5 [] (by simp) (by simp)) byW byT ⟨rfl,rfl⟩, ?_⟩)|(refine⟨_,fun hp=>cw_m (treeIs_c [] (dn h) (dn h) [] (by simp) (by simp)) byW byT ⟨rfl,rfl⟩, ?_⟩)
    simp only[go_sem];intro t84 e84;rw[ar] at e84;subst e71 e72 e77 e84;refine af ?_;simp only[go_sem];exact aq (by simp_all)
  ·(try simp only[go_sem] at h54);have ht:eu h p=([],dn h):=by rw[eu,if_pos (by simpa using h54)]
   rw[ht];dsimp only;refine ag ?_;(try simp only[go_sem]);refine aa ?_;simp only[go_sem];refine cw_m (iq) byW byT ?_;simp only[go_sem];intro t71 e71;intro t72 e72;rw[ar] at e72
   first|(refine⟨_,fun hp=>cw_m (ly noH noH th th) byW byT ⟨rfl,rfl⟩, ?_⟩)|(refine⟨_,fun hp=>cw_m (ly { h with now:=h.now+n } { h with now:=h.now+n } ok ok) byW byT ⟨rfl,rfl⟩, ?_⟩)
   simp only[go_sem];intro t77 e77;rw[ar] at e77
   first|(refine⟨_,fun hp=>cw_m (treeIs_c (bl (h.folders.getD (fIx h.folders p) default).jn).1 (bl (h.folders.getD (fIx h.folders p) default).jn).2 0 (bl (h.folders.getD (fIx h.folders p) default).jn).1 (by omega) (by omega)) byW byT ⟨rfl,rfl⟩, ?_⟩)|(refine⟨_,fun hp=>cw_m (treeIs_c [] 5 5 [] (by simp) (by simp)) byW byT ⟨rfl,rfl⟩, ?_⟩)|(refine⟨_,fun hp=>cw_m (treeIs_c [] (dn h) (dn h) [] (by simp) (by simp)) byW byT ⟨rfl,rfl⟩, ?_⟩)
   simp only[go_sem];intro t84 e84;rw[ar] at e84;subst e71 e72 e77 e84;refine af ?_;simp only[go_sem];exact aq (by simp_all)
 ·(try simp only[go_sem] at h46);have hz:¬ (tickP h n).2=0:=by simpa using h46
  have he:(tickP h n).1=noH:=by
   unfold tickP at hz ⊢;split
   ·rfl
   ·rename_i h1;rw[if_neg h1] at hz;split
    ·rfl
    ·rename_i h2;rw[if_neg h2] at hz;simp at hz
  rw[he];refine ag ?_;(try simp only[go_sem]);refine aa ?_;simp only[go_sem];refine ab ?_;refine aa ?_;simp only[go_sem];intro t54 e54;subst e54;refine ah _ rfl (fun h54=>?_) (fun h54=>?_)
  ·(try simp only[go_sem] at h54);have hc0:dn h=0:=by simpa using h54
   have g:=checkH_good.1 hc0;refine aa ?_;simp only[go_sem];refine cw_m (FolderAt_c h p g.sorted hfl) byW byT ?_;simp only[go_sem];refine aa ?_;simp only[go_sem];intro t59 e59;subst e59;refine ah _ rfl (fun h59=>?_) (fun h59=>?_)
   ·(try simp only[go_sem] at h59)
    have hh:hasF h.folders p=true:=by
     cases hq:hasF h.folders p with
     | true=>rfl
     | false=>rw[fAt,if_neg (by rw[hq];decide)] at h59;omega
    have hix:fIx h.folders p<h.folders.length:=by rw[lw] at hh;simp at hh;exact hh.1
    have hmem:=ok.1.2 _ (bj (l:=h.folders) (d:=default) hix);have hop:=(g.each _ (bj (l:=h.folders) (d:=default) hix)).2;have hfa:fAt h.folders p=(fIx h.folders p:Nat):=by rw[fAt,if_pos hh]
    have ht:eu h p=bl (h.folders.getD (fIx h.folders p) default).jn:=by rw[eu,if_neg (by simpa using hc0),if_neg (by simp[hh])]
    have hol:=(nw hmem.2 hop).len;rw[hfa,ht];refine aj ?_;simp only[go_sem];repeat first|(with_reducible refine ad ?_ ?_;exact byD)|(with_reducible refine ae ?_ ?_;exact byQ)
    refine cw_m (TreeOf_c (h.folders.getD (fIx h.folders p) default).jn hmem.2 hop) byW byT ?_;simp only[go_sem];refine aa ?_;simp only[go_sem];refine cw_m (iq) byW byT ?_;simp only[go_sem];intro t71 e71;intro t72 e72;rw[ar] at e72
    first|(refine⟨_,fun hp=>cw_m (ly noH noH th th) byW byT ⟨rfl,rfl⟩, ?_⟩)|(refine⟨_,fun hp=>cw_m (ly { h with now:=h.now+n } { h with now:=h.now+n } ok ok) byW byT ⟨rfl,rfl⟩, ?_⟩)
    simp only[go_sem];intro t77 e77;rw[ar] at e77
    first|(refine⟨_,fun hp=>cw_m (treeIs_c (bl (h.folders.getD (fIx h.folders p) default).jn).1 (bl (h.folders.getD (fIx h.folders p) default).jn).2 0 (bl (h.folders.getD (fIx h.folders p) default).jn).1 (by omega) (by omega)) byW byT ⟨rfl,rfl⟩, ?_⟩)|(refine⟨_,fun hp=>cw_m (treeIs_c [] 5 5 [] (by simp) (by simp)) byW byT ⟨rfl,rfl⟩, ?_⟩)|(refine⟨_,fun hp=>cw_m (treeIs_c [] (dn h) (dn h) [] (by simp) (by simp)) byW byT ⟨rfl,rfl⟩, ?_⟩)
    simp only[go_sem];intro t84 e84;rw[ar] at e84;subst e71 e72 e77 e84;refine af ?_;simp only[go_sem];exact aq (by simp_all)
   ·(try simp only[go_sem] at h59)
    have hh:hasF h.folders p=false:=by
     cases hq:hasF h.folders p with
     | false=>rfl
     | true=>rw[fAt,if_pos hq] at h59;omega
    have ht:eu h p=([],5):=by rw[eu,if_neg (by simpa using hc0),if_pos hh]
    rw[ht];dsimp only;refine aj ?_;simp only[go_sem];refine aa ?_;simp only[go_sem];refine cw_m (iq) byW byT ?_;simp only[go_sem];intro t71 e71;intro t72 e72;rw[ar] at e72
    first|(refine⟨_,fun hp=>cw_m (ly noH noH th th) byW byT ⟨rfl,rfl⟩, ?_⟩)|(refine⟨_,fun hp=>cw_m (ly { h with now:=h.now+n } { h with now:=h.now+n } ok ok) byW byT ⟨rfl,rfl⟩, ?_⟩)
    simp only[go_sem];intro t77 e77;rw[ar] at e77
    first|(refine⟨_,fun hp=>cw_m (treeIs_c (bl (h.folders.getD (fIx h.folders p) default).jn).1 (bl (h.folders.getD (fIx h.folders p) default).jn).2 0 (bl (h.folders.getD (fIx h.folders p) default).jn).1 (by omega) (by omega)) byW byT ⟨rfl,rfl⟩, ?_⟩)|(refine⟨_,fun hp=>cw_m (treeIs_c [] 5 5 [] (by simp) (by simp)) byW byT ⟨rfl,rfl⟩, ?_⟩)|(refine⟨_,fun hp=>cw_m (treeIs_c [] (dn h) (dn h) [] (by simp) (by simp)) byW byT ⟨rfl,rfl⟩, ?_⟩)
    simp only[go_sem];intro t84 e84;rw[ar] at e84;subst e71 e72 e77 e84;refine af ?_;simp only[go_sem];exact aq (by simp_all)
  ·(try simp only[go_sem] at h54);have ht:eu h p=([],dn h):=by rw[eu,if_pos (by simpa using h54)]
   rw[ht];dsimp only;refine ag ?_;(try simp only[go_sem]);refine aa ?_;simp only[go_sem];refine cw_m (iq) byW byT ?_;simp only[go_sem];intro t71 e71;intro t72 e72;rw[ar] at e72
   first|(refine⟨_,fun hp=>cw_m (ly noH noH th th) byW byT ⟨rfl,rfl⟩, ?_⟩)|(refine⟨_,fun hp=>cw_m (ly { h with now:=h.now+n } { h with now:=h.now+n } ok ok) byW byT ⟨rfl,rfl⟩, ?_⟩)
   simp only[go_sem];intro t77 e77;rw[ar] at e77
   first|(refine⟨_,fun hp=>cw_m (treeIs_c (bl (h.folders.getD (fIx h.folders p) default).jn).1 (bl (h.folders.getD (fIx h.folders p) default).jn).2 0 (bl (h.folders.getD (fIx h.folders p) default).jn).1 (by omega) (by omega)) byW byT ⟨rfl,rfl⟩, ?_⟩)|(refine⟨_,fun hp=>cw_m (treeIs_c [] 5 5 [] (by simp) (by simp)) byW byT ⟨rfl,rfl⟩, ?_⟩)|(refine⟨_,fun hp=>cw_m (treeIs_c [] (dn h) (dn h) [] (by simp) (by simp)) byW byT ⟨rfl,rfl⟩, ?_⟩)
   simp only[go_sem];intro t84 e84;rw[ar] at e84;subst e71 e72 e77 e84;refine af ?_;simp only[go_sem];exact aq (by simp_all)
end Go.VM.Tryz
end
section
set_option maxHeartbeats 4000000
open Go Go.VM Go.Proofs
namespace Go.VM.Tryz
open Go.VM.U Go.Proofs.YtmbnphmhaoomoaaGreatDoor
theorem ar_str:ARd Tryz.prog 9 (fun s:List UInt8=>V.str s) (fun s=>s.length≤upB):=ARd.cell jo (by rw[Tryz.underlying9];trivial)
end Go.VM.Tryz
end
section
set_option maxHeartbeats 4000000
open Go Go.VM Go.Proofs Tether
namespace Go.VM.Tryz
theorem commit_tree {j:Journal} {key:Str} {a:List Change} (h:(ci j key a).2.2=0) (hix:¬ 0≤idxF (isK key) j.commits) :
  bl (ci j key a).1=((allP (bl j).1 a (j.first+j.commits.length)).1,0)∧(ci j key a).2.1=j.first+j.commits.length∧(allP (bl j).1 a (j.first+j.commits.length)).2.2=0:=by
 have hopen:(bl j).2=0:=by
  refine Classical.byContradiction fun h0=>?_
  rw[zfh h0] at h;exact h0 h
 have hkey:zaw key=true:=by
  cases hk:zaw key with
  | true=>rfl
  | false =>
    unfold ci at h;rw[if_neg (by simpa using hopen),if_pos hk] at h
    cases h
 have hc:ci j key a=if a=[] then (noJ,0,1) else if 1000000<j.first+j.commits.length then (noJ,0,3)
   else if (allP (bl j).1 a (j.first+j.commits.length)).2.2≠0 then (noJ,0,(allP (bl j).1 a (j.first+j.commits.length)).2.2)
   else (addJ j ⟨j.first+j.commits.length,key,a⟩,j.first+j.commits.length,0):=by
  rw[ci,if_neg (by simpa using hopen),if_neg (by simp[hkey]),if_neg hix]
 rw[hc] at h;have ha:¬ a=[]:=fun e=>by rw[if_pos e] at h;cases h
 rw[if_neg ha] at h hc;have hr:¬ 1000000<j.first+j.commits.length:=fun e=>by rw[if_pos e] at h;cases h
 rw[if_neg hr] at h hc;have hal:¬ (allP (bl j).1 a (j.first+j.commits.length)).2.2≠0:=fun e=>by rw[if_pos e] at h;exact e h
 rw[if_neg hal] at hc;have hal0:(allP (bl j).1 a (j.first+j.commits.length)).2.2=0:=Classical.not_not.1 hal
 obtain⟨hrun,hnd⟩:=zpi hopen;obtain⟨hr1,hr2,hr3⟩:=pg hopen;have hno:=keyIx hix;have hbase:=zkd hopen;rw[hc];refine⟨?_,rfl,hal0⟩;show bl (addJ j ⟨j.first+j.commits.length,key,a⟩)=_
 unfold addJ
 by_cases hlen:30<j.commits.length+1
 ·rw[if_pos hlen]
  rcases hcm:j.commits with _ | ⟨c0,r⟩
  ·rw[hcm] at hlen;simp at hlen
  ·rw[hcm] at hrun hnd hno hr3 hlen;have hg0:((c0::r)++[(⟨j.first+(c0::r).length,key,a⟩:Commit)]).getD 0 default=c0:=rfl
   rw[hg0];rw[fk] at hrun
   by_cases e1:ii j.first c0≠0
   ·rw[if_pos e1] at hrun;exact absurd (congrArg Prod.snd hrun) e1
   ·rw[if_neg e1] at hrun
    by_cases e2:(allP j.base c0.changes j.first).2.2≠0
    ·rw[if_pos e2] at hrun;exact absurd (congrArg Prod.snd hrun) e2
    ·rw[if_neg e2] at hrun;have e2':(allP j.base c0.changes j.first).2.2=0:=Classical.not_not.1 e2
     have hfull:FullT (allP j.base c0.changes j.first).1:=by
      rw[zce hbase] at e2' ⊢;exact zdf hbase e2'
     have hlen2:(c0::r).length=r.length+1:=rfl;have hn1:j.first+((c0::r).length:Nat)=j.first+1+(r.length:Nat):=by rw[hlen2];omega
     have hsn:fk (allP j.base c0.changes j.first).1 (j.first+1) (r++[⟨j.first+(c0::r).length,key,a⟩])=((allP (bl j).1 a (j.first+j.commits.length)).1,0):=by
      refine zht hrun hn1 (by rw[hcm] at hr;dsimp only;omega) hkey ha ?_ hal0
      dsimp only;rw[hcm,hn1]
     have hnd2:(fh (r++[⟨j.first+(c0::r).length,key,a⟩])).Nodup:=by
      have h1:(fh r).Nodup:=(List.nodup_cons.1 hnd).2;have h2:key ∉ fh r:=fun e=>hno (.tail _ e)
      unfold fh at h1 h2 ⊢;rw[List.map_append];refine List.nodup_append.2 ⟨h1,by simp,fun x hx y hy e=>?_⟩
      simp at hy;subst hy;subst e;exact h2 hx
     have hd:((c0::r)++[(⟨j.first+(c0::r).length,key,a⟩:Commit)]).drop 1=r++[⟨j.first+(c0::r).length,key,a⟩]:=rfl
     rw[hd];exact zie (j:=⟨(allP j.base c0.changes j.first).1,j.first+1,r++[⟨j.first+(c0::r).length,key,a⟩]⟩) (checkT_iff.2 hfull) (by dsimp only;omega) (by dsimp only;rw[hcm,hlen2] at hr;omega) (by simp;rw[hlen2] at hr3;omega) (by rw[hcm] at hsn;exact hsn) hnd2
 ·rw[if_neg hlen];have hsn:=zht hrun (c:=⟨j.first+j.commits.length,key,a⟩) rfl (by dsimp only;omega) hkey ha rfl hal0
  have hnd2:(fh (j.commits++[⟨j.first+j.commits.length,key,a⟩])).Nodup:=by
   unfold fh at hnd hno ⊢;rw[List.map_append];refine List.nodup_append.2 ⟨hnd,by simp,fun x hx y hy e=>?_⟩
   simp at hy;subst hy;subst e;exact hno hx
  exact zie (j:=⟨j.base,j.first,j.commits++[⟨j.first+j.commits.length,key,a⟩]⟩) (checkT_iff.2 hbase) hr1 hr2 (by simp;omega) hsn hnd2
def upS (u:Uploads) (who:Str) (size now:Int) (c:Str):Uploads:=⟨(swept u now).ss++[⟨u.next,who,c,size,now+u.lasts⟩],u.next+1,u.lasts,u.room⟩
theorem upS_open {u:Uploads} {who:Str} {size now:Int} (h:fb u who size now=0):ip u who size now=(upS u who size now [],u.next,0):=if_pos h
theorem upS_swept {u:Uploads} (hg:GoodU u) (who:Str) (size now:Int) (c:Str):swept (upS u who size now c) now=upS u who size now c:=by
 have hl:=hg.lasts;have h1:¬ now+u.lasts<now:=by omega
 unfold swept upS
 congr 1
 rw[List.filter_append]
 congr 1
 ·show (u.ss.filter _).filter _=u.ss.filter _;rw[List.filter_filter];simp
 ·simp[h1]
theorem upS_at (u:Uploads) (who:Str) (size now:Int) (c:Str):(upS u who size now c).ss.getD (swept u now).ss.length default=⟨u.next,who,c,size,now+u.lasts⟩:=by
 simp[upS,List.getD]
theorem upS_ix {u:Uploads} (hg:GoodU u) (who:Str) (size now:Int) (c:Str):dv (upS u who size now c) who u.next now=((swept u now).ss.length:Nat):=by
 unfold dv;rw[upS_swept hg];refine qr (d:=default) (by simp[upS]) (fun a ha=>?_) ?_
 ·have e:(upS u who size now c).ss.getD a default=(swept u now).ss.getD a default:=by simp[upS,List.getD,List.getElem?_append_left ha]
  rw[e];have hm:=bj (l:=(swept u now).ss) (d:=default) ha;have:=(sessErr_iff.1 ((hg.swept now).sess _ hm)).1;rw[yq,wq (by have:=hg.next;omega) (by have:=hg.next;omega)] at this
  unfold rt;rw[decide_eq_false (by omega),Bool.false_and]
 ·rw[upS_at];simp[rt]
theorem upS_mine {u:Uploads} (hg:GoodU u) {who:Str} {size now:Int} {c:Str} (hn:0≤now∧now≤1099511627776) (hw:ba who=true) (hc:dj (upS u who size now c)=0):ck (upS u who size now c) who u.next now=0:=by
 refine zqg ?_ (by simp[hw]) (by rw[upS_ix hg];omega)
 unfold cz;rw[if_neg (by simpa using hc),if_neg (by simp[Tether.within_iff.2 hn])]
theorem upS_append {u:Uploads} (hg:GoodU u) {who:Str} {size now:Int} {a b:Str} (hn:0≤now∧now≤1099511627776) (hw:ba who=true) (hc:dj (upS u who size now a)=0) (hl:((a++b).length:Int)≤size) :
  bz (upS u who size now a) who u.next a.length b now=(upS u who size now (a++b),((a++b).length:Int),0):=by
 have hl':(a.length:Int)+(b.length:Int)≤size:=by simpa using hl
 rw[bz,if_pos (upS_mine hg hn hw hc)];dsimp only;rw[upS_ix hg,upS_swept hg];rw[show ((((swept u now).ss.length:Nat):Int)).toNat=(swept u now).ss.length from Int.toNat_natCast _,upS_at];dsimp only;split
 ·rename_i h1
  have hb:b=[]:=by
   have:=h1.2;rw[Int.toNat_natCast] at this;rw[← this];simp
  subst hb;simp
 ·rw[if_neg (by simp),if_neg (by omega)]
  congr 1
  unfold upS
  congr 1
  simp
theorem upS_query {u:Uploads} (hg:GoodU u) {who:Str} {size now:Int} {c:Str} (hn:0≤now∧now≤1099511627776) (hw:ba who=true) (hc:dj (upS u who size now c)=0) :
  la (upS u who size now c) who u.next now=((c.length:Int),0):=by
 rw[la,if_pos (upS_mine hg hn hw hc),upS_ix hg,upS_swept hg,Int.toNat_natCast,upS_at]
theorem upS_finish {u:Uploads} (hg:GoodU u) {who:Str} {size now:Int} {c:Str} (hn:0≤now∧now≤1099511627776) (hw:ba who=true) (hc:dj (upS u who size now c)=0) (hl:(c.length:Int)=size) :
  (fd (upS u who size now c) who u.next now).2=(c,0):=by
 rw[fd,if_pos (upS_mine hg hn hw hc)];dsimp only;rw[upS_ix hg,upS_swept hg,Int.toNat_natCast,upS_at,if_neg (by dsimp only;omega)]
end Go.VM.Tryz
end
section
set_option maxHeartbeats 4000000
open Go Go.VM Go.Proofs Tether
namespace Go.VM.Tryz
theorem serveO_4 {h:Hub} {r:Request} (k:r.kind=4) (hw:ba r.who=true):bd h r=(upsH h (ip h.ups r.who r.number h.now).1 (ip h.ups r.who r.number h.now).2.2,⟨0,(ip h.ups r.who r.number h.now).2.1,noG⟩,(ip h.ups r.who r.number h.now).2.2):=by
 unfold bd;rw[if_neg (by omega),if_neg (by simp[hw]),if_neg (by omega),if_neg (by omega),if_neg (by omega),if_pos k]
theorem serveO_5 {h:Hub} {r:Request} (k:r.kind=5) (hw:ba r.who=true):bd h r=(upsH h (bz h.ups r.who r.number r.offset r.text h.now).1 (bz h.ups r.who r.number r.offset r.text h.now).2.2,⟨0,(bz h.ups r.who r.number r.offset r.text h.now).2.1,noG⟩,(bz h.ups r.who r.number r.offset r.text h.now).2.2):=by
 unfold bd;rw[if_neg (by omega),if_neg (by simp[hw]),if_neg (by omega),if_neg (by omega),if_neg (by omega),if_neg (by omega),if_pos k]
theorem serveO_6 {h:Hub} {r:Request} (k:r.kind=6) (hw:ba r.who=true):bd h r=(h,⟨0,(la h.ups r.who r.number h.now).1,noG⟩,(la h.ups r.who r.number h.now).2):=by
 unfold bd;rw[if_neg (by omega),if_neg (by simp[hw]),if_neg (by omega),if_neg (by omega),if_neg (by omega),if_neg (by omega),if_neg (by omega),if_pos k]
def up4 (who:Str) (n:Int):Request:=⟨4,who,[],[],[],[],n,0,0,[]⟩
def up5 (who:Str) (n o:Int) (t:Str):Request:=⟨5,who,[],[],[],t,n,o,0,[]⟩
def up6 (who:Str) (n:Int):Request:=⟨6,who,[],[],[],[],n,0,0,[]⟩
def up7 (who:Str) (n:Int) (folder name key:Str):Request:=⟨7,who,folder,name,key,[],n,0,-1,[]⟩
def hubU (h:Hub) (who:Str) (n:Int) (c:Str):Hub:={ h with ups:=upS h.ups who n h.now c }
structure UpO (h:Hub) (who:Str) (n:Int):Prop where
 good:GoodU h.ups
 now:0≤h.now∧h.now≤1099511627776
 name:ba who=true
 goodH:GoodH (hubU h who n [])
theorem up_open {h:Hub} {r:Request} (g:GoodH h) (k:r.kind=4) (h0:(bi h r).2.err=0):UpO h r.who r.number∧bi h r=(hubU h r.who r.number [],⟨0,h.ups.next,noG⟩):=by
 have h1:(bd h r).2.2=0:=by
  refine Classical.byContradiction fun hc=>?_
  rw[bi,if_pos hc] at h0;exact hc h0
 have sv:=zb h1;have gx:=gj (r:=r) g;rw[serveO_4 k sv.1] at h1
 have ho:fb h.ups r.who r.number h.now=0:=by
  refine Classical.byContradiction fun hc=>?_
  rw[zqk hc] at h1;exact hc h1
 obtain⟨x,o⟩:=opened ho
 have hs:bi h r=(hubU h r.who r.number [],⟨0,h.ups.next,noG⟩):=by
  rw[bi,serveO_4 k sv.1,upS_open ho];rfl
 rw[hs] at gx;exact⟨⟨o.good,o.hnow,o.hname,gx⟩,hs⟩
theorem up_app {h:Hub} {who:Str} {n:Int} (u:UpO h who n) {a b:Str} {r:Request} (g:GoodH (hubU h who n a)) (k:r.kind=5) (hw:r.who=who) (hn:r.number=h.ups.next) (ho:r.offset=a.length) (ht:r.text=b) (hl:((a++b).length:Int)≤n) :
  bi (hubU h who n a) r=(hubU h who n (a++b),⟨0,((a++b).length:Int),noG⟩):=by
 have e:bz (hubU h who n a).ups r.who r.number r.offset r.text (hubU h who n a).now=(upS h.ups who n h.now (a++b),((a++b).length:Int),0):=by
  rw[hw,hn,ho,ht];exact upS_append u.good u.now u.name g.ups hl
 rw[bi,serveO_5 k (by rw[hw];exact u.name),e]
 rfl
theorem up_query {h:Hub} {who:Str} {n:Int} (u:UpO h who n) {c:Str} {r:Request} (g:GoodH (hubU h who n c)) (k:r.kind=6) (hw:r.who=who) (hn:r.number=h.ups.next) :
  (bi (hubU h who n c) r).2=⟨0,(c.length:Int),noG⟩:=by
 have e:la (hubU h who n c).ups r.who r.number (hubU h who n c).now=((c.length:Int),0):=by
  rw[hw,hn];exact upS_query u.good u.now u.name g.ups
 rw[bi,serveO_6 k (by rw[hw];exact u.name),e]
 rfl
theorem served_err0 {h:Hub} {r:Request} {x:Hub} {a:Answer} (s:Served h r x a):a.err=0:=by
 cases s<;>rfl
theorem serve_errU {h:Hub} {r:Request} (he:(bi h r).2.err≠0):(bi h r).1=h:=by
 unfold bi at he ⊢;split
 ·rfl
 ·rename_i h0;rw[if_neg h0] at he;exact absurd (served_err0 (zb (Classical.not_not.1 h0)).2) he
theorem up_fin {h:Hub} {who:Str} {n:Int} (u:UpO h who n) {c:Str} {r:Request} (ok:dz (hubU h who n c)) (okr:okRq r) (g:GoodH (hubU h who n c)) (k:r.kind=7) (hw:r.who=who) (hn:r.number=h.ups.next) (hl:(c.length:Int)=n)
  (hkey:∀ s∈h.folders,∀ m∈s.jn.commits,m.key≠r.key) (h0:(bi (hubU h who n c) r).2.err=0) :
  (eu (bi (hubU h who n c) r).1 r.folder).2=0∧findP (eu (bi (hubU h who n c) r).1 r.folder).1 r.name=(⟨r.name,false,c,(bi (hubU h who n c) r).2.number⟩,0):=by
 have h1:(bd (hubU h who n c) r).2.2=0:=by
  refine Classical.byContradiction fun hc=>?_
  rw[bi,if_pos hc] at h0;exact hc h0
 have gx:=gj (r:=r) g;obtain⟨mx,_⟩:=kn ok okr g;have hR:bi (hubU h who n c) r=((bd (hubU h who n c) r).1,(bd (hubU h who n c) r).2.1):=by rw[bi,if_neg (by simpa using h1)]
 rw[hR] at gx mx ⊢;have sv:=(zb h1).2;generalize hz:hubU h who n c=z at *;generalize (bd z r).1=v at *;generalize (bd z r).2.1=d at *
 cases sv with
 | make k' e=>omega
 | give k' e=>omega
 | page k' e=>omega
 | opens k' e=>omega
 | app k' e=>omega
 | query k' e=>omega
 | com k' m e=>omega
 | fin k' m e =>
   have hf:(finU z r).2=(c,0):=by
    subst hz;show (fd (upS h.ups who n h.now c) r.who r.number h.now).2=(c,0);rw[hw,hn];exact upS_finish u.good u.now u.name g.ups hl
   have hC:finC z r=⟨2,r.name,[],c,r.base⟩:=by rw[finC,hf]
   have hf2:¬ (finU z r).2.2≠0:=by rw[hf];simp
   have hp0:(comP z r [finC z r]).2.2=0:=by rw[finP,if_neg hf2] at e;exact e
   have hP:finP z r=({ comH z r [finC z r] with ups:=(finU z r).1 },(comP z r [finC z r]).2.1,(comP z r [finC z r]).2.2):=by
    rw[finP,if_neg hf2];dsimp only;rw[if_pos hp0]
   have hH:comH z r [finC z r]=setJ z r.folder (comP z r [finC z r]).1:=if_pos hp0;have hh:=gn g (by decide:(1:Int)≤2) m
   obtain⟨m1,m2,m3⟩:=zcb hh
   have hix:¬ 0≤idxF (isK r.key) (jnAt z r.folder).commits:=by
    intro hc;obtain⟨i,e1,e2,e3,_⟩:=rh (p:=isK r.key) (l:=(jnAt z r.folder).commits) default (by omega)
    have hm:z.folders.getD (fIx z.folders r.folder) default∈h.folders:=by subst hz;exact m1
    have:=hkey _ hm _ (bj (d:=default) e2);simp only[isK,decide_eq_true_eq] at e3;exact this e3
   obtain⟨t1,t2,t3⟩:=commit_tree (j:=jnAt z r.folder) (key:=r.key) (a:=[finC z r]) hp0 hix;rw[hP] at gx mx ⊢;dsimp only at gx mx ⊢;have hhas:hasF (comH z r [finC z r]).folders r.folder=true:=by rw[hH,zha];exact hh
   have hjn:jnAt { comH z r [finC z r] with ups:=(finU z r).1 } r.folder=(comP z r [finC z r]).1:=by
    show jnAt (comH z r [finC z r]) r.folder=_;rw[hH];have:fIx (setJ z r.folder (comP z r [finC z r]).1).folders r.folder=fIx z.folders r.folder:=by unfold fIx;rw[uj]
    unfold jnAt;rw[this];show ((z.folders.set _ _).getD _ _).jn=_;simp[List.getD,m3]
   have hT:eu { comH z r [finC z r] with ups:=(finU z r).1 } r.folder=((allP (bl (jnAt z r.folder)).1 [finC z r] ((jnAt z r.folder).first+(jnAt z r.folder).commits.length)).1,0):=by
    rw[iv gx,if_pos hhas,hjn];exact t1
   rw[hT];refine⟨rfl, ?_⟩;dsimp only;have hopen:(bl (jnAt z r.folder)).2=0:=(g.each _ m1).2;have hfull:FullT (bl (jnAt z r.folder)).1:=nw (ok.1.2 _ m1).2 hopen;have hnum:(comP z r [finC z r]).2.1=(jnAt z r.folder).first+(jnAt z r.folder).commits.length:=t2
   rw[hnum];generalize (jnAt z r.folder).first+((jnAt z r.folder).commits.length:Int)=w at *
   have hA:allP (bl (jnAt z r.folder)).1 [finC z r] w=fj w (bl (jnAt z r.folder)).1 [finC z r] 0:=by
    have t3':=t3;unfold allP at t3' ⊢;grind
   have hr:ik (bl (jnAt z r.folder)).1 (finC z r) w=0:=by
    refine Classical.byContradiction fun hc=>?_
    rw[hA,fj,if_pos hc] at t3;exact hc t3
   have hA2:(allP (bl (jnAt z r.folder)).1 [finC z r] w).1=putE (bl (jnAt z r.folder)).1 ⟨r.name,false,c,w⟩:=by
    rw[hA,fj,if_neg (by simpa using hr),fj,hC]
    rfl
   have hpath:bn [r.name]=0:=by
    have:=(sk (z1r hr).1).1;rw[hC] at this;exact this
   have hck:dd (allP (bl (jnAt z r.folder)).1 [finC z r] w).1=0:=by
    have hjx:okJ (comP z r [finC z r]).1:=by
     have:=(mx.1.2 _ (zcb (l:=(comH z r [finC z r]).folders) hhas).1).2;have e:jnAt { comH z r [finC z r] with ups:=(finU z r).1 } r.folder=(comP z r [finC z r]).1:=hjn
     unfold jnAt at e;rw[← e];exact this
    have t1':bl (comP z r [finC z r]).1=((allP (bl (jnAt z r.folder)).1 [finC z r] w).1,0):=t1;have:=nw hjx (by rw[t1'])
    rw[t1'] at this;exact checkT_iff.2 this
   unfold findP;rw[if_neg (by simpa using hck),if_neg (by simpa using hpath),hA2,putE_find hfull.sorted,if_pos rfl]
end Go.VM.Tryz
end
