import Derived.Test.YtmbnphmhaoomoaaGreatDoorAV1
import Derived.Test.YtmbnphmhaoomoaaGreatDoorAV2
import Derived.Test.YtmbnphmhaoomoaaGreatDoorAV3
import Derived.Test.YtmbnphmhaoomoaaGreatDoorAV4
import Derived.Test.YtmbnphmhaoomoaaGreatDoorAV5
import Derived.Test.YtmbnphmhaoomoaaGreatDoorAW1
import Derived.Test.YtmbnphmhaoomoaaGreatDoorAV6
import Derived.Test.YtmbnphmhaoomoaaGreatDoorAW2
import Derived.Test.YtmbnphmhaoomoaaGreatDoorAW3
import Derived.Test.YtmbnphmhaoomoaaGreatDoorAW4
import Derived.Test.YtmbnphmhaoomoaaGreatDoorAV7
import Derived.Test.YtmbnphmhaoomoaaGreatDoorAW5
import Derived.Test.YtmbnphmhaoomoaaGreatDoorAV8
import Derived.Test.YtmbnphmhaoomoaaGreatDoorAW6
import Derived.Test.YtmbnphmhaoomoaaGreatDoorAV9
import Derived.Test.YtmbnphmhaoomoaaGreatDoorAW7
import Derived.Test.YtmbnphmhaoomoaaGreatDoorAV10
import Derived.Test.YtmbnphmhaoomoaaGreatDoorAW8
import Derived.Test.YtmbnphmhaoomoaaGreatDoorAV11
import Derived.Test.YtmbnphmhaoomoaaGreatDoorAW9
import Derived.Test.YtmbnphmhaoomoaaGreatDoorAV12
import Derived.Test.YtmbnphmhaoomoaaGreatDoorAW10
import Derived.Test.YtmbnphmhaoomoaaGreatDoorAV13
import Derived.Test.YtmbnphmhaoomoaaGreatDoorAW11
import Derived.Test.YtmbnphmhaoomoaaGreatDoorAV14
import Derived.Test.YtmbnphmhaoomoaaGreatDoorAW12
import Derived.Test.YtmbnphmhaoomoaaGreatDoorAW13
import Derived.Test.YtmbnphmhaoomoaaGreatDoorAW14
import Derived.Test.YtmbnphmhaoomoaaGreatDoorAW15
import Derived.Test.YtmbnphmhaoomoaaGreatDoorAX1
import Derived.Test.YtmbnphmhaoomoaaGreatDoorAX2
set_option linter.unusedVariables false
set_option linter.unusedSimpArgs false
set_option maxRecDepth 100000
set_option maxHeartbeats 4000000
section
open Go Go.VM Go.Proofs Tether
namespace Go.VM.Tryz
theorem half_eq (n:Nat):((n:Int).tdiv 2)=((n / 2:Nat):Int):=by
 rw[Int.tdiv_eq_ediv_of_nonneg (by omega)]
 omega
theorem at_getD {l:List Commit} {a:Nat} (ha:a<l.length):l.getD a default=l[a]:=by simp[List.getD,ha]
theorem htree_okE {h:Hub} (ok:dz h) (g:GoodH h) (f:Str):okE (eu h f).1:=by
 rw[iv g];split
 ·rename_i hh;obtain⟨m1,m2,m3⟩:=zcb hh;exact (nw (ok.1.2 _ m1).2 (g.each _ m1).2).ok
 ·exact⟨by simp,by simp⟩
set_option maxHeartbeats 8000000 in
theorem HubUploads_c (h:Hub) (who folder name text key:Str) (ok:dz h) (k1:who.length≤1048576) (k2:folder.length≤1048576) (k3:name.length≤1048576) (k4:text.length≤1048576) (k5:key.length≤1048576) :
  Meets Tryz.prog 11 [.agg (hubE h),.str who,.str folder,.str name,.str text,.str key] (.bool true) []:=by
 refine an (fn:=Tryz.f11) Tryz.func11 rfl fb11 (by kernel_rfl) (Nat.le_of_ble_eq_true rfl) ?_
 have hfl:=ok.1.1;have okr4:okRq (up4 who text.length):=⟨k1,by simp[up4],by simp[up4],by simp[up4],by simp[up4],by simp[up4],by simp[up4]⟩
 have okr5:∀ n o t,t.length≤1048576→okRq (up5 who n o t):=fun n o t ht=>⟨k1,by simp[up5],by simp[up5],by simp[up5],ht,by simp[up5],by simp[up5]⟩
 have okr6:∀ n,okRq (up6 who n):=fun n=>⟨k1,by simp[up6],by simp[up6],by simp[up6],by simp[up6],by simp[up6],by simp[up6]⟩
 have okr7:∀ n,okRq (up7 who n folder name key):=fun n=>⟨k1,k2,k3,k5,by simp[up7],by simp[up7],by simp[up7]⟩
 have hta:(text.take (text.length / 2)).length≤text.length:=by simp;omega
 have htb:(text.drop (text.length / 2)).length≤text.length:=by simp
 have htab:text.take (text.length / 2)++text.drop (text.length / 2)=text:=List.take_append_drop _ _;have htl:(text.take (text.length / 2)).length=text.length / 2:=by simp;omega
 refine aa ?_;simp only[go_sem];repeat first|(with_reducible refine ad ?_ ?_;exact byD)|(with_reducible refine ae ?_ ?_;exact byQ)
 refine ab ?_;refine aa ?_;simp only[go_sem];refine cw_m (iq) byW byT ?_;simp only[go_sem];intro t33 e33;intro t37 e37;intro t38 e38;rw[az] at e38;subst e33 e37 e38;refine ah _ rfl (fun h38=>?_) (fun h38=>?_)
 ·(try simp only[go_sem] at h38);refine aa ?_;simp only[go_sem];refine cw_m (iq) byW byT ?_;simp only[go_sem];refine af ?_;simp only[go_sem];exact aq rfl
 ·(try simp only[go_sem] at h38);refine ag ?_;(try simp only[go_sem]);refine aa ?_;simp only[go_sem];refine cw_m (np h (up4 who text.length) ok okr4) byW byT ?_;simp only[go_sem];refine ab ?_;refine aa ?_;simp only[go_sem];intro t51 e51;intro t55 e55;intro t56 e56;rw[az] at e56;subst e51 e55 e56;refine ah _ rfl (fun h56=>?_) (fun h56=>?_)
  ·(try simp only[go_sem] at h56);refine aa ?_;simp only[go_sem];refine af ?_;simp only[go_sem];exact aq rfl
  ·(try simp only[go_sem] at h56)
   have hz:(dg h (up4 who text.length)).2.2=0:=by
    have h56':=h56
    try simp at h56'
    grind
   have g:=tv hz;have hp:=jt (r:=up4 who text.length) g
   have he:(bi h (up4 who text.length)).2.err=0:=by
    have h56':=h56;rw[hp] at h56'
    try simp at h56'
    grind
   obtain⟨uo,hs⟩:=up_open g rfl he;have uo:UpO h who text.length:=uo;have hs:bi h (up4 who text.length)=(hubU h who text.length [],⟨0,h.ups.next,noG⟩):=hs;obtain⟨m1,_⟩:=kn ok okr4 g;rw[hs] at m1 hp;dsimp only at m1;have g1:=uo.goodH
   have s5:bi (hubU h who text.length []) (up5 who h.ups.next 0 (text.take (text.length / 2)))=(hubU h who text.length (text.take (text.length / 2)),⟨0,((text.length / 2:Nat):Int),noG⟩):=by
    have:=up_app uo (a:=[]) (b:=text.take (text.length / 2)) (r:=up5 who h.ups.next 0 (text.take (text.length / 2))) g1 rfl rfl rfl rfl rfl (by simp only[List.nil_append];omega)
    rw[this];simp only[List.nil_append,htl]
   have p5:=jt (r:=up5 who h.ups.next 0 (text.take (text.length / 2))) g1;have g2:=gj (r:=up5 who h.ups.next 0 (text.take (text.length / 2))) g1;obtain⟨m2,_⟩:=kn m1 (okr5 h.ups.next 0 (text.take (text.length / 2)) (by omega)) g1
   rw[s5] at p5 g2 m2;dsimp only at g2 m2
   have s6:bi (hubU h who text.length (text.take (text.length / 2))) (up5 who h.ups.next ((text.length / 2:Nat):Int) (text.drop (text.length / 2)))=(hubU h who text.length text,⟨0,(text.length:Int),noG⟩):=by
    have:=up_app uo (a:=text.take (text.length / 2)) (b:=text.drop (text.length / 2)) (r:=up5 who h.ups.next ((text.length / 2:Nat):Int) (text.drop (text.length / 2))) g2 rfl rfl rfl (by rw[htl];rfl) rfl (by rw[htab];omega)
    rw[this,htab]
   have p6:=jt (r:=up5 who h.ups.next ((text.length / 2:Nat):Int) (text.drop (text.length / 2))) g2;have g3:=gj (r:=up5 who h.ups.next ((text.length / 2:Nat):Int) (text.drop (text.length / 2))) g2;obtain⟨m3,_⟩:=kn m2 (okr5 h.ups.next ((text.length / 2:Nat):Int) (text.drop (text.length / 2)) (by omega)) g2
   rw[s6] at p6 g3 m3;dsimp only at g3 m3;have hS5:=np (hubU h who text.length []) (up5 who h.ups.next 0 (text.take (text.length / 2))) m1 (okr5 _ _ _ (by omega))
   rw[p5] at hS5;have hS6:=np (hubU h who text.length (text.take (text.length / 2))) (up5 who h.ups.next ((text.length / 2:Nat):Int) (text.drop (text.length / 2))) m2 (okr5 _ _ _ (by omega))
   rw[p6] at hS6;have p7:=jt (r:=up7 who h.ups.next folder name key) g3;have hS7:=np (hubU h who text.length text) (up7 who h.ups.next folder name key) m3 (okr7 _);rw[p7] at hS7;obtain⟨m4,_⟩:=kn m3 (okr7 h.ups.next) g3;have g4:=gj (r:=up7 who h.ups.next folder name key) g3;have hfn:=up_fin uo (c:=text) (r:=up7 who h.ups.next folder name key) m3 (okr7 _) g3 rfl rfl rfl rfl;have hq:=up_query uo (c:=text) (r:=up6 who h.ups.next) g3 rfl rfl rfl;have hS8:=np (hubU h who text.length text) (up6 who h.ups.next) m3 (okr6 _);rw[jt (r:=up6 who h.ups.next) g3] at hS8;have okt4:=htree_okE m4 g4 folder;dsimp only at hS5 hS6 hS7 hS8;rw[hp];dsimp only;refine ag ?_;(try simp only[go_sem]);refine aa ?_;simp only[go_sem];repeat first|(with_reducible refine ad ?_ ?_;exact byD)|(with_reducible refine ae ?_ ?_;exact byQ)
   intro t59 e59;have e59':t59=((text.length / 2:Nat):Int):=by rw[e59,half_eq,IntKind.wrap_i64];omega
   subst e59';refine uk ([⟨1,0,[],.str who⟩,⟨2,0,[],.str folder⟩,⟨3,0,[],.str name⟩,⟨4,0,[],.str text⟩,⟨5,0,[],.str key⟩,⟨6,0,[],.ptr 0 0⟩,⟨14,0,[],.ptr 1 0⟩,⟨15,0,[],.int .i64 0⟩,⟨16,0,[],.int .i64 ((text.length / 2:Nat):Int)⟩,⟨17,0,[],.ptr 2 0⟩,⟨18,0,[],.ptr 3 0⟩]) ([.box (hubE h),.box (anE ⟨0,h.ups.next,noG⟩),.box (hubE (hubU h who text.length (text.take (text.length / 2)))),.box (anE ⟨0,((text.length / 2:Nat):Int),noG⟩)]) (bc cj [15,16] (.first 0 (.first 1 (.first 2 (.first 3 (.first 4 (.first 5 (.first 6 (.first 7 (.alt 8 (.first 9 (.first 10 (.first 11 (.first 12 (.alt 13 (.one 14 (.one 15 (.one 16 (.first 17 (.done))))) (.one 14 (.one 13 (.one 15 (.one 16 (.first 17 (.done))))))))))) (.alt 13 (.alt 8 (.first 9 (.first 10 (.first 11 (.first 12 (.one 14 (.one 15 (.one 16 (.first 17 (.done))))))))) (.one 14 (.one 8 (.first 9 (.first 10 (.first 11 (.first 12 (.one 15 (.one 16 (.first 17 (.done))))))))))) (.one 14 (.alt 8 (.first 9 (.first 10 (.first 11 (.first 12 (.one 13 (.one 15 (.one 16 (.first 17 (.done))))))))) (.one 13 (.one 8 (.first 9 (.first 10 (.first 11 (.first 12 (.one 15 (.one 16 (.first 17 (.done)))))))))))))))))))))) (by kernel_rfl) ?_) ?_
   ·simp only[go_sem];repeat first|(with_reducible refine ad ?_ ?_;exact byD)|(with_reducible refine ae ?_ ?_;exact byQ)
    refine⟨?_, ?_⟩
    ·refine ek (hS5) byW byT ?_;simp only[go_sem];refine⟨?_, ?_⟩
     ·first|(refine⟨[0,2,3,4],rfl,rfl, ?_, ?_⟩<;>(first|trivial|(simp only[go_sem,wk,wks,wkB,wkH,subw,cn,cm,ltb,subr,dc];done)|(simp only[go_sem,wk,wks,wkB,wkH,subw,cn,cm,ltb,subr,dc];and_intros<;>first|trivial|rfl|omega|assumption|exact Nat.le_refl _|exact ak _|exact bf _|(intros;exact ak _)|(subst_vars;intro q hq;refine dx (fun x=>?_) ?_ ?_;exact ej _ rfl;rfl;simp at hq;omega)|(simp;done)|(simp;omega))))|(refine⟨[0,2,4,3],rfl,rfl, ?_, ?_⟩<;>(first|trivial|(simp only[go_sem,wk,wks,wkB,wkH,subw,cn,cm,ltb,subr,dc];done)|(simp only[go_sem,wk,wks,wkB,wkH,subw,cn,cm,ltb,subr,dc];and_intros<;>first|trivial|rfl|omega|assumption|exact Nat.le_refl _|exact ak _|exact bf _|(intros;exact ak _)|(subst_vars;intro q hq;refine dx (fun x=>?_) ?_ ?_;exact ej _ rfl;rfl;simp at hq;omega)|(simp;done)|(simp;omega))))
     ·first|(refine⟨[0,2,3,4],rfl,rfl, ?_, ?_⟩<;>(first|trivial|(simp only[go_sem,wk,wks,wkB,wkH,subw,cn,cm,ltb,subr,dc];done)|(simp only[go_sem,wk,wks,wkB,wkH,subw,cn,cm,ltb,subr,dc];and_intros<;>first|trivial|rfl|omega|assumption|exact Nat.le_refl _|exact ak _|exact bf _|(intros;exact ak _)|(subst_vars;intro q hq;refine dx (fun x=>?_) ?_ ?_;exact ej _ rfl;rfl;simp at hq;omega)|(simp;done)|(simp;omega))))|(refine⟨[0,2,4,3],rfl,rfl, ?_, ?_⟩<;>(first|trivial|(simp only[go_sem,wk,wks,wkB,wkH,subw,cn,cm,ltb,subr,dc];done)|(simp only[go_sem,wk,wks,wkB,wkH,subw,cn,cm,ltb,subr,dc];and_intros<;>first|trivial|rfl|omega|assumption|exact Nat.le_refl _|exact ak _|exact bf _|(intros;exact ak _)|(subst_vars;intro q hq;refine dx (fun x=>?_) ?_ ?_;exact ej _ rfl;rfl;simp at hq;omega)|(simp;done)|(simp;omega))))
    ·refine⟨?_, ?_⟩
     ·refine⟨?_, ?_⟩
      ·refine ek (hS5) byW byT ?_;simp only[go_sem]
       first|(refine⟨[0,2,3,4],rfl,rfl, ?_, ?_⟩<;>(first|trivial|(simp only[go_sem,wk,wks,wkB,wkH,subw,cn,cm,ltb,subr,dc];done)|(simp only[go_sem,wk,wks,wkB,wkH,subw,cn,cm,ltb,subr,dc];and_intros<;>first|trivial|rfl|omega|assumption|exact Nat.le_refl _|exact ak _|exact bf _|(intros;exact ak _)|(subst_vars;intro q hq;refine dx (fun x=>?_) ?_ ?_;exact ej _ rfl;rfl;simp at hq;omega)|(simp;done)|(simp;omega))))|(refine⟨[0,2,4,3],rfl,rfl, ?_, ?_⟩<;>(first|trivial|(simp only[go_sem,wk,wks,wkB,wkH,subw,cn,cm,ltb,subr,dc];done)|(simp only[go_sem,wk,wks,wkB,wkH,subw,cn,cm,ltb,subr,dc];and_intros<;>first|trivial|rfl|omega|assumption|exact Nat.le_refl _|exact ak _|exact bf _|(intros;exact ak _)|(subst_vars;intro q hq;refine dx (fun x=>?_) ?_ ?_;exact ej _ rfl;rfl;simp at hq;omega)|(simp;done)|(simp;omega))))
      ·refine ek (hS5) byW byT ?_;simp only[go_sem]
       first|(refine⟨[0,2,3,4],rfl,rfl, ?_, ?_⟩<;>(first|trivial|(simp only[go_sem,wk,wks,wkB,wkH,subw,cn,cm,ltb,subr,dc];done)|(simp only[go_sem,wk,wks,wkB,wkH,subw,cn,cm,ltb,subr,dc];and_intros<;>first|trivial|rfl|omega|assumption|exact Nat.le_refl _|exact ak _|exact bf _|(intros;exact ak _)|(subst_vars;intro q hq;refine dx (fun x=>?_) ?_ ?_;exact ej _ rfl;rfl;simp at hq;omega)|(simp;done)|(simp;omega))))|(refine⟨[0,2,4,3],rfl,rfl, ?_, ?_⟩<;>(first|trivial|(simp only[go_sem,wk,wks,wkB,wkH,subw,cn,cm,ltb,subr,dc];done)|(simp only[go_sem,wk,wks,wkB,wkH,subw,cn,cm,ltb,subr,dc];and_intros<;>first|trivial|rfl|omega|assumption|exact Nat.le_refl _|exact ak _|exact bf _|(intros;exact ak _)|(subst_vars;intro q hq;refine dx (fun x=>?_) ?_ ?_;exact ej _ rfl;rfl;simp at hq;omega)|(simp;done)|(simp;omega))))
     ·refine⟨?_, ?_⟩
      ·refine ek (hS5) byW byT ?_;simp only[go_sem]
       first|(refine⟨[0,2,3,4],rfl,rfl, ?_, ?_⟩<;>(first|trivial|(simp only[go_sem,wk,wks,wkB,wkH,subw,cn,cm,ltb,subr,dc];done)|(simp only[go_sem,wk,wks,wkB,wkH,subw,cn,cm,ltb,subr,dc];and_intros<;>first|trivial|rfl|omega|assumption|exact Nat.le_refl _|exact ak _|exact bf _|(intros;exact ak _)|(subst_vars;intro q hq;refine dx (fun x=>?_) ?_ ?_;exact ej _ rfl;rfl;simp at hq;omega)|(simp;done)|(simp;omega))))|(refine⟨[0,2,4,3],rfl,rfl, ?_, ?_⟩<;>(first|trivial|(simp only[go_sem,wk,wks,wkB,wkH,subw,cn,cm,ltb,subr,dc];done)|(simp only[go_sem,wk,wks,wkB,wkH,subw,cn,cm,ltb,subr,dc];and_intros<;>first|trivial|rfl|omega|assumption|exact Nat.le_refl _|exact ak _|exact bf _|(intros;exact ak _)|(subst_vars;intro q hq;refine dx (fun x=>?_) ?_ ?_;exact ej _ rfl;rfl;simp at hq;omega)|(simp;done)|(simp;omega))))
      ·refine ek (hS5) byW byT ?_;simp only[go_sem]
       first|(refine⟨[0,2,3,4],rfl,rfl, ?_, ?_⟩<;>(first|trivial|(simp only[go_sem,wk,wks,wkB,wkH,subw,cn,cm,ltb,subr,dc];done)|(simp only[go_sem,wk,wks,wkB,wkH,subw,cn,cm,ltb,subr,dc];and_intros<;>first|trivial|rfl|omega|assumption|exact Nat.le_refl _|exact ak _|exact bf _|(intros;exact ak _)|(subst_vars;intro q hq;refine dx (fun x=>?_) ?_ ?_;exact ej _ rfl;rfl;simp at hq;omega)|(simp;done)|(simp;omega))))|(refine⟨[0,2,4,3],rfl,rfl, ?_, ?_⟩<;>(first|trivial|(simp only[go_sem,wk,wks,wkB,wkH,subw,cn,cm,ltb,subr,dc];done)|(simp only[go_sem,wk,wks,wkB,wkH,subw,cn,cm,ltb,subr,dc];and_intros<;>first|trivial|rfl|omega|assumption|exact Nat.le_refl _|exact ak _|exact bf _|(intros;exact ak _)|(subst_vars;intro q hq;refine dx (fun x=>?_) ?_ ?_;exact ej _ rfl;rfl;simp at hq;omega)|(simp;done)|(simp;omega))))
   refine uk ([⟨1,0,[],.str who⟩,⟨2,0,[],.str folder⟩,⟨3,0,[],.str name⟩,⟨4,0,[],.str text⟩,⟨5,0,[],.str key⟩,⟨6,0,[],.ptr 0 0⟩,⟨14,0,[],.ptr 1 0⟩,⟨15,0,[],.int .i64 0⟩,⟨18,0,[],.ptr 2 0⟩,⟨19,0,[],.ptr 3 0⟩,⟨20,0,[],.ptr 4 0⟩,⟨21,0,[],.int .i64 0⟩]) ([.box (hubE h),.box (anE ⟨0,h.ups.next,noG⟩),.box (anE ⟨0,((text.length / 2:Nat):Int),noG⟩),.box (hubE (hubU h who text.length text)),.box (anE ⟨0,(text.length:Int),noG⟩)]) (bc cj [16,17] (.first 0 (.first 1 (.first 2 (.first 3 (.first 4 (.first 5 (.first 6 (.first 7 (.first 8 (.alt 9 (.first 10 (.first 11 (.first 12 (.first 13 (.alt 14 (.one 15 (.one 16 (.one 17 (.first 18 (.done))))) (.one 15 (.one 14 (.one 16 (.one 17 (.first 18 (.done))))))))))) (.alt 14 (.alt 9 (.first 10 (.first 11 (.first 12 (.first 13 (.one 15 (.one 16 (.one 17 (.first 18 (.done))))))))) (.one 15 (.one 9 (.first 10 (.first 11 (.first 12 (.first 13 (.one 16 (.one 17 (.first 18 (.done))))))))))) (.one 15 (.alt 9 (.first 10 (.first 11 (.first 12 (.first 13 (.one 14 (.one 16 (.one 17 (.first 18 (.done))))))))) (.one 14 (.one 9 (.first 10 (.first 11 (.first 12 (.first 13 (.one 16 (.one 17 (.first 18 (.done))))))))))))))))))))))) (by kernel_rfl) ?_) ?_
   ·simp only[go_sem];repeat first|(with_reducible refine ad ?_ ?_;exact byD)|(with_reducible refine ae ?_ ?_;exact byQ)
    refine⟨?_, ?_⟩
    ·refine ek (hS6) byW byT ?_;simp only[go_sem];refine⟨?_, ?_⟩
     ·first|(refine⟨[0,1,3,4,5],rfl,rfl, ?_, ?_⟩<;>(first|trivial|(simp only[go_sem,wk,wks,wkB,wkH,subw,cn,cm,ltb,subr,dc];done)|(simp only[go_sem,wk,wks,wkB,wkH,subw,cn,cm,ltb,subr,dc];and_intros<;>first|trivial|rfl|omega|assumption|exact Nat.le_refl _|exact ak _|exact bf _|(intros;exact ak _)|(subst_vars;intro q hq;refine dx (fun x=>?_) ?_ ?_;exact ej _ rfl;rfl;simp at hq;omega)|(simp;done)|(simp;omega))))|(refine⟨[0,1,3,5,4],rfl,rfl, ?_, ?_⟩<;>(first|trivial|(simp only[go_sem,wk,wks,wkB,wkH,subw,cn,cm,ltb,subr,dc];done)|(simp only[go_sem,wk,wks,wkB,wkH,subw,cn,cm,ltb,subr,dc];and_intros<;>first|trivial|rfl|omega|assumption|exact Nat.le_refl _|exact ak _|exact bf _|(intros;exact ak _)|(subst_vars;intro q hq;refine dx (fun x=>?_) ?_ ?_;exact ej _ rfl;rfl;simp at hq;omega)|(simp;done)|(simp;omega))))
     ·first|(refine⟨[0,1,3,4,5],rfl,rfl, ?_, ?_⟩<;>(first|trivial|(simp only[go_sem,wk,wks,wkB,wkH,subw,cn,cm,ltb,subr,dc];done)|(simp only[go_sem,wk,wks,wkB,wkH,subw,cn,cm,ltb,subr,dc];and_intros<;>first|trivial|rfl|omega|assumption|exact Nat.le_refl _|exact ak _|exact bf _|(intros;exact ak _)|(subst_vars;intro q hq;refine dx (fun x=>?_) ?_ ?_;exact ej _ rfl;rfl;simp at hq;omega)|(simp;done)|(simp;omega))))|(refine⟨[0,1,3,5,4],rfl,rfl, ?_, ?_⟩<;>(first|trivial|(simp only[go_sem,wk,wks,wkB,wkH,subw,cn,cm,ltb,subr,dc];done)|(simp only[go_sem,wk,wks,wkB,wkH,subw,cn,cm,ltb,subr,dc];and_intros<;>first|trivial|rfl|omega|assumption|exact Nat.le_refl _|exact ak _|exact bf _|(intros;exact ak _)|(subst_vars;intro q hq;refine dx (fun x=>?_) ?_ ?_;exact ej _ rfl;rfl;simp at hq;omega)|(simp;done)|(simp;omega))))
    ·refine⟨?_, ?_⟩
     ·refine⟨?_, ?_⟩
      ·refine ek (hS6) byW byT ?_;simp only[go_sem]
       first|(refine⟨[0,1,3,4,5],rfl,rfl, ?_, ?_⟩<;>(first|trivial|(simp only[go_sem,wk,wks,wkB,wkH,subw,cn,cm,ltb,subr,dc];done)|(simp only[go_sem,wk,wks,wkB,wkH,subw,cn,cm,ltb,subr,dc];and_intros<;>first|trivial|rfl|omega|assumption|exact Nat.le_refl _|exact ak _|exact bf _|(intros;exact ak _)|(subst_vars;intro q hq;refine dx (fun x=>?_) ?_ ?_;exact ej _ rfl;rfl;simp at hq;omega)|(simp;done)|(simp;omega))))|(refine⟨[0,1,3,5,4],rfl,rfl, ?_, ?_⟩<;>(first|trivial|(simp only[go_sem,wk,wks,wkB,wkH,subw,cn,cm,ltb,subr,dc];done)|(simp only[go_sem,wk,wks,wkB,wkH,subw,cn,cm,ltb,subr,dc];and_intros<;>first|trivial|rfl|omega|assumption|exact Nat.le_refl _|exact ak _|exact bf _|(intros;exact ak _)|(subst_vars;intro q hq;refine dx (fun x=>?_) ?_ ?_;exact ej _ rfl;rfl;simp at hq;omega)|(simp;done)|(simp;omega))))
      ·refine ek (hS6) byW byT ?_;simp only[go_sem]
       first|(refine⟨[0,1,3,4,5],rfl,rfl, ?_, ?_⟩<;>(first|trivial|(simp only[go_sem,wk,wks,wkB,wkH,subw,cn,cm,ltb,subr,dc];done)|(simp only[go_sem,wk,wks,wkB,wkH,subw,cn,cm,ltb,subr,dc];and_intros<;>first|trivial|rfl|omega|assumption|exact Nat.le_refl _|exact ak _|exact bf _|(intros;exact ak _)|(subst_vars;intro q hq;refine dx (fun x=>?_) ?_ ?_;exact ej _ rfl;rfl;simp at hq;omega)|(simp;done)|(simp;omega))))|(refine⟨[0,1,3,5,4],rfl,rfl, ?_, ?_⟩<;>(first|trivial|(simp only[go_sem,wk,wks,wkB,wkH,subw,cn,cm,ltb,subr,dc];done)|(simp only[go_sem,wk,wks,wkB,wkH,subw,cn,cm,ltb,subr,dc];and_intros<;>first|trivial|rfl|omega|assumption|exact Nat.le_refl _|exact ak _|exact bf _|(intros;exact ak _)|(subst_vars;intro q hq;refine dx (fun x=>?_) ?_ ?_;exact ej _ rfl;rfl;simp at hq;omega)|(simp;done)|(simp;omega))))
     ·refine⟨?_, ?_⟩
      ·refine ek (hS6) byW byT ?_;simp only[go_sem]
       first|(refine⟨[0,1,3,4,5],rfl,rfl, ?_, ?_⟩<;>(first|trivial|(simp only[go_sem,wk,wks,wkB,wkH,subw,cn,cm,ltb,subr,dc];done)|(simp only[go_sem,wk,wks,wkB,wkH,subw,cn,cm,ltb,subr,dc];and_intros<;>first|trivial|rfl|omega|assumption|exact Nat.le_refl _|exact ak _|exact bf _|(intros;exact ak _)|(subst_vars;intro q hq;refine dx (fun x=>?_) ?_ ?_;exact ej _ rfl;rfl;simp at hq;omega)|(simp;done)|(simp;omega))))|(refine⟨[0,1,3,5,4],rfl,rfl, ?_, ?_⟩<;>(first|trivial|(simp only[go_sem,wk,wks,wkB,wkH,subw,cn,cm,ltb,subr,dc];done)|(simp only[go_sem,wk,wks,wkB,wkH,subw,cn,cm,ltb,subr,dc];and_intros<;>first|trivial|rfl|omega|assumption|exact Nat.le_refl _|exact ak _|exact bf _|(intros;exact ak _)|(subst_vars;intro q hq;refine dx (fun x=>?_) ?_ ?_;exact ej _ rfl;rfl;simp at hq;omega)|(simp;done)|(simp;omega))))
      ·refine ek (hS6) byW byT ?_;simp only[go_sem]
       first|(refine⟨[0,1,3,4,5],rfl,rfl, ?_, ?_⟩<;>(first|trivial|(simp only[go_sem,wk,wks,wkB,wkH,subw,cn,cm,ltb,subr,dc];done)|(simp only[go_sem,wk,wks,wkB,wkH,subw,cn,cm,ltb,subr,dc];and_intros<;>first|trivial|rfl|omega|assumption|exact Nat.le_refl _|exact ak _|exact bf _|(intros;exact ak _)|(subst_vars;intro q hq;refine dx (fun x=>?_) ?_ ?_;exact ej _ rfl;rfl;simp at hq;omega)|(simp;done)|(simp;omega))))|(refine⟨[0,1,3,5,4],rfl,rfl, ?_, ?_⟩<;>(first|trivial|(simp only[go_sem,wk,wks,wkB,wkH,subw,cn,cm,ltb,subr,dc];done)|(simp only[go_sem,wk,wks,wkB,wkH,subw,cn,cm,ltb,subr,dc];and_intros<;>first|trivial|rfl|omega|assumption|exact Nat.le_refl _|exact ak _|exact bf _|(intros;exact ak _)|(subst_vars;intro q hq;refine dx (fun x=>?_) ?_ ?_;exact ej _ rfl;rfl;simp at hq;omega)|(simp;done)|(simp;omega))))
   refine ab ?_;refine aa ?_;simp only[go_sem];intro t88 e88;intro t91 e91;intro t92 e92;rw[az] at e92;intro t96 e96;intro t97 e97;rw[az] at e97;intro t101 e101;intro t102 e102;rw[az] at e102;intro t108 e108;intro t109 e109;rw[az] at e109;subst e88 e91 e92 e96 e97 e101 e102 e108 e109;refine ah _ rfl (fun h109=>?_) (fun h109=>?_)
   ·(try simp only[go_sem] at h109);refine aa ?_;simp only[go_sem];refine af ?_;simp only[go_sem];exfalso;simp at h109
   ·(try simp only[go_sem] at h109);refine ag ?_;(try simp only[go_sem]);refine ab ?_;refine aa ?_;simp only[go_sem];refine ai ?_;refine bm (σ:=Nat) (fun i=>i≤h.folders.length∧∀ j,j<i→∀ m∈(h.folders.getD j default).jn.commits,m.key≠key) (fun i=>[⟨22,0,[],.int .i64 (i:Nat)⟩]) [1,2,3,4,5,6,14,19] (fun i=>h.folders.length-i) 0 (⟨Nat.zero_le _,fun j hj=>absurd hj (by omega)⟩) (Nat.zero_le _) byC (fun i hI1=>?_)
    simp only[go_sem];refine ab ?_;refine aa ?_;simp only[go_sem];repeat first|(with_reducible refine ad ?_ ?_;exact byD)|(with_reducible refine ae ?_ ?_;exact byQ)
    intro t114 e114;subst e114;refine ah _ rfl (fun h114=>?_) (fun h114=>?_)
    ·(try simp only[go_sem] at h114);have hmj:=ok.1.2 _ (bj (l:=h.folders) (d:=default) (show i<h.folders.length by omega))
     have hcl:=hmj.2.2.1;refine ag ?_;(try simp only[go_sem]);refine ab (ai ?_);refine aa ?_;simp only[go_sem];repeat first|(with_reducible refine ad ?_ ?_;exact byD)|(with_reducible refine ae ?_ ?_;exact byQ)
     refine aa ?_;simp only[go_sem];refine ai ?_;refine bm (σ:=Nat) (fun k=>k≤(h.folders.getD i default).jn.commits.length∧∀ j,j<k→((h.folders.getD i default).jn.commits.getD j default).key≠key) (fun k=>[⟨24,0,[],.int .i64 (k:Nat)⟩]) [1,2,3,4,5,6,14,19,22,23] (fun k=>(h.folders.getD i default).jn.commits.length-k) 0 (⟨Nat.zero_le _,fun j hj=>absurd hj (by omega)⟩) (Nat.zero_le _) byC (fun k hI2=>?_)
     simp only[go_sem];refine ab ?_;refine aa ?_;simp only[go_sem];repeat first|(with_reducible refine ad ?_ ?_;exact byD)|(with_reducible refine ae ?_ ?_;exact byQ)
     intro t127 e127;subst e127;refine ah _ rfl (fun h127=>?_) (fun h127=>?_)
     ·(try simp only[go_sem] at h127);refine ag ?_;(try simp only[go_sem]);refine ab (ai ?_);refine aa ?_;simp only[go_sem];repeat first|(with_reducible refine ad ?_ ?_;exact byD)|(with_reducible refine ae ?_ ?_;exact byQ)
      intro t137 e137;subst e137;refine ah _ rfl (fun h137=>?_) (fun h137=>?_)
      ·(try simp only[go_sem] at h137);refine aa ?_;simp only[go_sem];refine af ?_;simp only[go_sem];exact aq rfl
      ·(try simp only[go_sem] at h137);refine ag ?_;(try simp only[go_sem]);refine aj ?_;simp only[go_sem];intro t129 e129;(try replace e129:=w64 e129 (by omega) (by omega))
       refine ay (k+1) ⟨by omega,fun j hj=>by
        rcases Nat.lt_or_ge j k with h1|h1
        ·exact hI2.2 j h1
        ·obtain rfl:j=k:=by omega
         simpa using h137⟩ (by first|omega|(dsimp only;omega)) byC
     ·(try simp only[go_sem] at h127);refine bk ?_;simp only[go_sem];refine aj ?_;simp only[go_sem];intro t116 e116;(try replace e116:=w64 e116 (by omega) (by omega))
      refine ay (i+1) ⟨by omega,fun j hj=>by
        rcases Nat.lt_or_ge j i with h1|h1
        ·exact hI1.2 j h1
        ·obtain rfl:j=i:=by omega
         intro m hm;obtain⟨a,ha,rfl⟩:=List.getElem_of_mem hm;have e:=hI2.2 a (by omega)
         rw[at_getD ha] at e;exact e⟩ (by first|omega|(dsimp only;omega)) byC
    ·(try simp only[go_sem] at h114);refine bk ?_;simp only[go_sem];refine aa ?_;simp only[go_sem];refine cw_m (hS7) byW byT ?_;simp only[go_sem];refine ab ?_;refine aa ?_;simp only[go_sem];intro t152 e152;subst e152;refine ah _ rfl (fun h152=>?_) (fun h152=>?_)
     ·(try simp only[go_sem] at h152);refine aa ?_;simp only[go_sem];refine af ?_;simp only[go_sem];exfalso;simp at h152
     ·(try simp only[go_sem] at h152);refine ag ?_;(try simp only[go_sem]);refine ab ?_;refine aa ?_;simp only[go_sem];intro t155 e155;subst e155;refine ah _ rfl (fun h155=>?_) (fun h155=>?_)
      ·(try simp only[go_sem] at h155);have hE:=serve_errU (h:=hubU h who text.length text) (r:=up7 who h.ups.next folder name key) (by simpa using h155)
       rw[hE];refine aa ?_;simp only[go_sem];refine cw_m hS8 byW byT ?_;simp only[go_sem];refine aa ?_;simp only[go_sem];intro t167 e167;intro t171 e171;intro t172 e172;rw[ar] at e172;intro t178 e178;intro t179 e179;rw[ar] at e179;subst e167 e171 e172 e178 e179;refine af ?_;simp only[go_sem];refine aq ?_;rw[hq];simp
      ·(try simp only[go_sem] at h155);refine ag ?_;(try simp only[go_sem]);refine aa ?_;simp only[go_sem];refine cw_m (vl (bi (hubU h who text.length text) (up7 who h.ups.next folder name key)).1 folder m4) byW byT ?_;simp only[go_sem];refine aa ?_;simp only[go_sem];refine cw_m (Find_c (eu (bi (hubU h who text.length text) (up7 who h.ups.next folder name key)).1 folder).1 name okt4 k3) byW byT ?_;simp only[go_sem];refine aa ?_;simp only[go_sem];intro t193 e193;intro t196 e196;intro t197 e197;rw[ar] at e197;intro t202 e202;intro t203 e203;rw[ar] at e203;intro t209 e209;intro t210 e210;rw[ar] at e210;subst e193 e196 e197 e202 e203 e209 e210;refine af ?_;simp only[go_sem];refine aq ?_
       have hkey:∀ s∈h.folders,∀ m∈s.jn.commits,m.key≠key:=fun s hs=>by
        obtain⟨a,ha,rfl⟩:=List.getElem_of_mem hs;have:=hI1.2 a (by omega)
        simpa [List.getD,ha] using this
       obtain⟨f1,f2⟩:=hfn hkey (by simpa using h155)
       have f1:(eu (bi (hubU h who text.length text) (up7 who h.ups.next folder name key)).1 folder).2=0:=f1;have f2:findP (eu (bi (hubU h who text.length text) (up7 who h.ups.next folder name key)).1 folder).1 name=(⟨name,false,text,(bi (hubU h who text.length text) (up7 who h.ups.next folder name key)).2.number⟩,0):=f2;rw[f1,f2];simp
end Go.VM.Tryz
end
