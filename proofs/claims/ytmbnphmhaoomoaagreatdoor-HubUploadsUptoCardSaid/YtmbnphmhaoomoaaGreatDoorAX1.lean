import Derived.Test.YtmbnphmhaoomoaaGreatDoorAV1
import Derived.Test.YtmbnphmhaoomoaaGreatDoorAV2
import Derived.Test.YtmbnphmhaoomoaaGreatDoorAV3
import Derived.Test.YtmbnphmhaoomoaaGreatDoorAV4
import Derived.Test.YtmbnphmhaoomoaaGreatDoorAV5
import Derived.Test.YtmbnphmhaoomoaaGreatDoorAW1
import Derived.Test.YtmbnphmhaoomoaaGreatDoorAV6
import Derived.Test.YtmbnphmhaoomoaaGreatDoorAW2
import Derived.Test.YtmbnphmhaoomoaaGreatDoorAW3
import Derived.Test.YtmbnphmhaoomoaaGreatDoorAW4
import Derived.Test.YtmbnphmhaoomoaaGreatDoorAV7
import Derived.Test.YtmbnphmhaoomoaaGreatDoorAW5
import Derived.Test.YtmbnphmhaoomoaaGreatDoorAV8
import Derived.Test.YtmbnphmhaoomoaaGreatDoorAW6
import Derived.Test.YtmbnphmhaoomoaaGreatDoorAV9
import Derived.Test.YtmbnphmhaoomoaaGreatDoorAW7
import Derived.Test.YtmbnphmhaoomoaaGreatDoorAV10
import Derived.Test.YtmbnphmhaoomoaaGreatDoorAW8
import Derived.Test.YtmbnphmhaoomoaaGreatDoorAV11
import Derived.Test.YtmbnphmhaoomoaaGreatDoorAW9
import Derived.Test.YtmbnphmhaoomoaaGreatDoorAV12
import Derived.Test.YtmbnphmhaoomoaaGreatDoorAW10
import Derived.Test.YtmbnphmhaoomoaaGreatDoorAV13
import Derived.Test.YtmbnphmhaoomoaaGreatDoorAW11
import Derived.Test.YtmbnphmhaoomoaaGreatDoorAV14
import Derived.Test.YtmbnphmhaoomoaaGreatDoorAW12
import Derived.Test.YtmbnphmhaoomoaaGreatDoorAW13
import Derived.Test.YtmbnphmhaoomoaaGreatDoorAW14
import Derived.Test.YtmbnphmhaoomoaaGreatDoorAW15
set_option linter.unusedVariables false
set_option linter.unusedSimpArgs false
set_option maxRecDepth 100000
section
namespace Go.VM
section
variable {α:Type} {enc:α→List V} {d:α} {l l':List α}
end
section
variable {P:Program} {n:Nat} {E:Env} {H:Heap} {K:X→Env→Heap→Prop}
theorem finw_str {a b:List UInt8} {H:Heap} (h:a=b):finx (.str b) [] (.str a) H:=cy rfl (by rw[h];exact bf _)
end
end Go.VM
namespace Go.VM
section
variable {P:Program} {ops:List Oper} {k i:Nat} {o:Oper} {os:List Oper} {K:Env→Heap→Prop} {E E':Env} {H H':Heap} {p p':Path} {late:List Nat} {s t:Plan}
end
section
variable {P:Program} {k:Nat} {K:Env→Heap→Prop} {E:Env} {H:Heap} {p:Path} {d:Option Nat} {ty:TypeId} {pos:String} {aft:Array Edge} {g:Option (Nat × Bool)}
end
section
variable {P:Program} {H:Heap} {p:Path}
end
section
variable {α:Type} {enc:α→List V} {d:α} {l l':List α}
end
section
variable {top:Bool} {g:List V→List V} {σ:List Nat} {H:Heap} {ok:List V→Prop}
end
end Go.VM
end
section
set_option maxHeartbeats 4000000
open Go Go.VM
namespace Tether
def whoG (l:List Grant) (f:Str):List Str:=(l.filter fun g=>decide (g.folder=f)).map (·.who)
end Tether
end
section
set_option maxHeartbeats 4000000
open Go Go.VM Go.Proofs
namespace Go.VM.Tryz
theorem tb9:co Tryz.prog 9=16:=by kernel_rfl
theorem tb41:co Tryz.prog 41=24:=by kernel_rfl
theorem tn89:tint Tryz.prog 89=false:=by kernel_rfl
theorem tn117:tint Tryz.prog 117=false:=by kernel_rfl
theorem fb4:aw Tryz.prog 4=true:=by kernel_rfl
theorem fb10:aw Tryz.prog 10=true:=by kernel_rfl
theorem fb11:aw Tryz.prog 11=true:=by kernel_rfl
theorem fb17:aw Tryz.prog 17=true:=by kernel_rfl
theorem fb26:aw Tryz.prog 26=true:=by kernel_rfl
theorem fb27:aw Tryz.prog 27=true:=by kernel_rfl
theorem fb28:aw Tryz.prog 28=true:=by kernel_rfl
theorem fb29:aw Tryz.prog 29=true:=by kernel_rfl
theorem fb30:aw Tryz.prog 30=true:=by kernel_rfl
theorem fb41:aw Tryz.prog 41=true:=by kernel_rfl
theorem fb42:aw Tryz.prog 42=true:=by kernel_rfl
theorem fb43:aw Tryz.prog 43=true:=by kernel_rfl
theorem fb64:aw Tryz.prog 64=true:=by kernel_rfl
theorem fb77:aw Tryz.prog 77=true:=by kernel_rfl
theorem fb96:aw Tryz.prog 96=true:=by kernel_rfl
theorem fb97:aw Tryz.prog 97=true:=by kernel_rfl
theorem fb109:aw Tryz.prog 109=true:=by kernel_rfl
theorem fb110:aw Tryz.prog 110=true:=by kernel_rfl
theorem fb130:aw Tryz.prog 130=true:=by kernel_rfl
theorem fb137:aw Tryz.prog 137=true:=by kernel_rfl
theorem fb138:aw Tryz.prog 138=true:=by kernel_rfl
theorem fb139:aw Tryz.prog 139=true:=by kernel_rfl
theorem fb160:aw Tryz.prog 160=true:=by kernel_rfl
theorem fb161:aw Tryz.prog 161=true:=by kernel_rfl
theorem fb162:aw Tryz.prog 162=true:=by kernel_rfl
theorem fb163:aw Tryz.prog 163=true:=by kernel_rfl
theorem fb164:aw Tryz.prog 164=true:=by kernel_rfl
theorem fb165:aw Tryz.prog 165=true:=by kernel_rfl
theorem fb166:aw Tryz.prog 166=true:=by kernel_rfl
attribute [go_sem] tb9 tb41 tn89 tn117
end Go.VM.Tryz
end
section
set_option maxHeartbeats 4000000
open Go Go.VM Tether
namespace Go.VM.Tryz
def nm (s:Str):Nat→List Str × Nat
 | 0=>([],0)
 | i+1=>if at8 s i=47 then ((nm s i).1++[(s.take i).drop (nm s i).2],i+1) else nm s i
theorem pcs_cat:∀ (u v:List UInt8),47 ∉ u→pcs (u++47::v)=u::pcs v
 | [],v,_=>by simp[pcs]
 | b::u,v,h=>by
   have h1:b≠47:=fun e=>h (by simp[e])
   have h2:47 ∉ u:=fun e=>h (.tail _ e)
   simp[pcs,h1,pcs_cat u v h2]
theorem at8_47 {s:Str} {i:Nat} (hi:i<s.length):at8 s i=47↔s[i]=47:=by
 simp only[at8,List.getD_eq_getElem?_getD,List.getElem?_eq_getElem hi,Option.getD_some];constructor
 ·intro h
  apply UInt8.toNat_inj.1
  have:(47:UInt8).toNat=47:=rfl;rw[this];omega
 ·intro h;rw[h];rfl
theorem nm_inv (s:Str):∀ i,i≤s.length→pcs s=(nm s i).1++pcs (s.drop (nm s i).2)∧(nm s i).2≤i∧47 ∉ (s.take i).drop (nm s i).2∧(nm s i).1.length≤i
 | 0,_=>by simp[nm]
 | i+1,h=>by
   obtain⟨h1,h2,h3,h4⟩:=nm_inv s i (by omega)
   have ht:s.take (i+1)=s.take i++[s[i]]:=by rw[List.take_add_one,List.getElem?_eq_getElem (by omega)];rfl
   unfold nm
   by_cases hc:at8 s i=47
   ·rw[if_pos hc];have hi:s[i]=47:=(at8_47 (by omega)).1 hc
    refine⟨?_,Nat.le_refl _,by simp,by simp;omega⟩
    have e:∀ k,k≤i→s.drop k=(s.take i).drop k++47::s.drop (i+1):=by
     intro k hk
     have:s=s.take i++47::s.drop (i+1):=by
      rw[← hi,← List.drop_eq_getElem_cons,List.take_append_drop]
     conv=>lhs;rw[this]
     rw[List.drop_append_of_le_length (by simp;omega)]
    rw[h1,e _ h2,pcs_cat _ _ h3];simp
   ·rw[if_neg hc];have hi:s[i]≠47:=fun e=>hc ((at8_47 (by omega)).2 e)
    refine⟨h1,by omega, ?_,by omega⟩
    rw[ht,List.drop_append_of_le_length (by simp;omega)]
    simp only[List.mem_append,List.mem_singleton,not_or];exact⟨h3,fun e=>hi e.symm⟩
theorem nm_pcs (s:Str):(nm s s.length).1++[s.drop (nm s s.length).2]=pcs s:=by
 obtain⟨h1,h2,h3,h4⟩:=nm_inv s s.length (Nat.le_refl _);rw[h1,uy (s.drop _) (by simpa using h3)]
end Go.VM.Tryz
end
section
set_option maxHeartbeats 4000000
open Go Go.VM Go.Proofs Tether
namespace Go.VM.Tryz
theorem nm_le (s:Str) {i:Nat} (hi:i≤s.length):(nm s i).2≤i∧(nm s i).1.length≤i:=⟨(nm_inv s i hi).2.1,(nm_inv s i hi).2.2.2⟩
theorem NamesOf_c (s:Str) (hs:(s.length+1)*16≤140737488355328):Meets Tryz.prog 165 [.str s] (strsV' (pcs s)) []:=by
 refine an (fn:=Tryz.f165) Tryz.func165 rfl fb165 (by kernel_rfl) (Nat.le_of_ble_eq_true rfl) ?_
 refine aa ?_;simp only[go_sem];repeat first|(with_reducible refine ad ?_ ?_;exact byD)|(with_reducible refine ae ?_ ?_;exact byQ)
 refine aa ?_;simp only[go_sem];refine fp 3 1 (En strE' [] []) rfl ?_;refine aa ?_;simp only[go_sem];refine ab ?_;refine aa ?_;simp only[go_sem];refine ai ?_;refine gz (σ:=Nat) (fun i=>i≤s.length) (fun i=>[⟨5,0,[],.int .i64 (i:Nat)⟩,⟨4,0,[],.int .i64 ((nm s i).2:Nat)⟩,⟨3,0,[],.own none 0 1 0 (nm s i).1.length .loose⟩]) [0,2] (fun i=>[.arr 1 (nm s i).1.length (En strE' [] (nm s i).1)]) (fun i=>s.length-i) 0 (by first|trivial|omega|simp) (fun _=>(Nat.zero_le _)) byC (fun i hI1=>?_)
 simp only[go_sem];have hnl:=nm_le s hI1;refine ab ?_;refine aa ?_;simp only[go_sem];repeat first|(with_reducible refine ad ?_ ?_;exact byD)|(with_reducible refine ae ?_ ?_;exact byQ)
 intro t9 e9;subst e9;refine ah _ rfl (fun h9=>?_) (fun h9=>?_)
 ·(try simp only[go_sem] at h9);refine ag ?_;(try simp only[go_sem]);refine ab (ai ?_);refine aa ?_;simp only[go_sem];repeat first|(with_reducible refine ad ?_ ?_;exact byD)|(with_reducible refine ae ?_ ?_;exact byQ)
  intro t14 e14;intro t15 e15;subst e15;refine ah _ rfl (fun h15=>?_) (fun h15=>?_)
  ·(try simp only[go_sem] at h15);refine aa ?_;simp only[go_sem];repeat first|(with_reducible refine ad ?_ ?_;exact byD)|(with_reducible refine ae ?_ ?_;exact byQ)
   refine aj ?_;simp only[go_sem];intro t24 e24;(try replace e24:=w64 e24 (by omega) (by omega))
   refine aj ?_;simp only[go_sem];intro t11 e11;(try replace e11:=w64 e11 (by omega) (by omega))
   have hn1:nm s (i+1)=((nm s i).1++[(s.take i).drop (nm s i).2],i+1):=by
    simp only[nm];rw[if_pos (by subst e14;exact h15)]
   refine ke (i+1) [2] (by omega) (by first|omega|(dsimp only;omega)) ⟨rfl,rfl, ?_, ?_⟩
   ·(try rw[hn1]);exact byC
   ·rw[hn1];skip;simp only[go_sem,wk,wks,wkB,wkH,List.length_append,List.length_cons,List.length_nil]
    first|exact fun q hq=>dx (fun x=>ej _ rfl) (by rfl) hq|(and_intros<;>first|trivial|rfl|omega|(exact fun q hq=>dx (fun x=>ej _ rfl) (by rfl) hq)|exact ak _|exact byC)
  ·(try simp only[go_sem] at h15);refine ag ?_;(try simp only[go_sem]);refine aj ?_;simp only[go_sem];intro t11 e11;(try replace e11:=w64 e11 (by omega) (by omega))
   have hn1:nm s (i+1)=nm s i:=by
    simp only[nm];rw[if_neg (by subst e14;exact h15)]
   refine ay (i+1) (by omega) (by first|omega|(dsimp only;omega)) ?_
   rw[hn1];exact byC
 ·(try simp only[go_sem] at h9);refine bk ?_;simp only[go_sem];refine aa ?_;simp only[go_sem];repeat first|(with_reducible refine ad ?_ ?_;exact byD)|(with_reducible refine ae ?_ ?_;exact byQ)
  refine af ?_;simp only[go_sem];obtain rfl:i=s.length:=by omega
  rw[← nm_pcs s];refine zxx (.own none 2 1 0 ((nm s s.length).1++[s.drop (nm s s.length).2]).length .loose) [.dead,.dead,.arr 1 ((nm s s.length).1++[s.drop (nm s s.length).2]).length (En strE' [] ((nm s s.length).1++[s.drop (nm s s.length).2]))] ?_ ?_ ?_
  ·simp only[go_sem,wk,wks,wkB,wkH,List.length_append,List.length_cons,List.length_nil]
  ·simp only[go_sem,wk,wks,wkB,wkH,List.length_append,List.length_cons,List.length_nil]
   and_intros<;>first|trivial|rfl|(exact fun q hq=>vu (ak _) hq)|exact byC
  ·exact ap 1 [] rfl byC byC byC byC
end Go.VM.Tryz
end
section
set_option maxHeartbeats 4000000
open Go Go.VM Go.Proofs Tether
namespace Go.VM.Tryz
theorem pcs_cnt:∀ s:List UInt8,(pcs s).length=s.count 47+1
 | []=>rfl
 | b::r=>by
   have ih:=pcs_cnt r
   by_cases hb:b=47
   ·simp[pcs,hb,ih]
   ·simp only[pcs,hb,if_false]
    rcases hp:pcs r with _ | ⟨y,ys⟩
    ·exact absurd hp (ym r)
    ·rw[hp] at ih;simp[hb] at ih ⊢;omega
theorem greatB_pcs (s:List UInt8):(decide ((6:Int)<((pcs s).length:Nat)) || decide ((80:Int)<(s.length:Nat)))=gw s:=by
 have h1:((6:Int)<((pcs s).length:Nat))↔6≤s.count 47:=by rw[pcs_cnt];omega
 have h2:((80:Int)<(s.length:Nat))↔80<s.length:=by omega
 simp only[gw,h1,h2]
theorem TooGreat_c (s:Str) (hs:(s.length+1)*16≤140737488355328):Meets Tryz.prog 166 [.str s] (.bool (gw s)) []:=by
 refine an (fn:=Tryz.f166) Tryz.func166 rfl fb166 (by kernel_rfl) (Nat.le_of_ble_eq_true rfl) ?_
 refine aa ?_;simp only[go_sem];repeat first|(with_reducible refine ad ?_ ?_;exact byD)|(with_reducible refine ae ?_ ?_;exact byQ)
 refine aa ?_;simp only[go_sem];refine cw_m (NamesOf_c s hs) byW byT ?_;simp only[go_sem];intro t6 e6;intro t10 e10;intro t11 e11;rw[az] at e11;subst e6 e10 e11;refine af ?_;simp only[go_sem];refine aq ?_;rw[← greatB_pcs]
theorem names_all {l:List Str} (h:∀ j,j<l.length→ba (l.getD j [])=true):l.all ba=true:=by
 rw[List.all_eq_true];intro x hx;obtain⟨j,hj,rfl⟩:=List.getElem_of_mem hx;have:=h j hj;simpa [List.getD_eq_getElem?_getD,hj] using this
theorem CheckPath_c (s:Str) (hs:(s.length+1)*16≤140737488355328):Meets Tryz.prog 137 [.str s] (.int .i64 (bn [s])) []:=by
 refine an (fn:=Tryz.f137) Tryz.func137 rfl fb137 (by kernel_rfl) (Nat.le_of_ble_eq_true rfl) ?_
 have hpl:(pcs s).length≤s.length+1:=by rw[pcs_cnt];have:=List.count_le_length (a:=(47:UInt8)) (l:=s);omega
 refine aa ?_;simp only[go_sem];repeat first|(with_reducible refine ad ?_ ?_;exact byD)|(with_reducible refine ae ?_ ?_;exact byQ)
 refine aa ?_;simp only[go_sem];refine cw_m (NamesOf_c s hs) byW byT ?_;simp only[go_sem];refine ab ?_;refine aa ?_;simp only[go_sem];refine ai ?_;refine bm (σ:=Nat) (fun i=>i≤(pcs s).length∧∀ j,j<i→ba ((pcs s).getD j [])=true) (fun i=>[⟨4,0,[],.int .i64 (i:Nat)⟩]) [0,3] (fun i=>(pcs s).length-i) 0 ⟨Nat.zero_le _,fun j hj=>absurd hj (Nat.not_lt_zero j)⟩ (Nat.zero_le _) byC (fun i hI1=>?_)
 simp only[go_sem];refine ab ?_;refine aa ?_;simp only[go_sem];repeat first|(with_reducible refine ad ?_ ?_;exact byD)|(with_reducible refine ae ?_ ?_;exact byQ)
 intro t10 e10;subst e10;refine ah _ rfl (fun h10=>?_) (fun h10=>?_)
 ·(try simp only[go_sem] at h10);have hlt:i<(pcs s).length:=by omega
  have hgd:(pcs s).getD i []=(pcs s)[i]:=by simp[List.getD_eq_getElem?_getD,hlt]
  have hx:((pcs s).getD i []).length<4611686018427387904:=by
   have:=zyv s _ (by rw[hgd];exact List.getElem_mem hlt:(pcs s).getD i []∈pcs s)
   omega
  refine ag ?_;(try simp only[go_sem]);refine ab (ai ?_);refine aa ?_;simp only[go_sem];repeat first|(with_reducible refine ad ?_ ?_;exact byD)|(with_reducible refine ae ?_ ?_;exact byQ)
  refine cw_m (zdj ((pcs s).getD i []) hx) byW byT ?_;simp only[go_sem];intro t18 e18;subst e18;refine ah _ rfl (fun h18=>?_) (fun h18=>?_)
  ·(try simp only[go_sem] at h18);refine aa ?_;simp only[go_sem];refine af ?_;simp only[go_sem];refine am ?_
   have hall:(pcs s).all ba=false:=by
    rw[List.all_eq_false];exact⟨(pcs s)[i],List.getElem_mem hlt,by rw[← hgd];simpa using h18⟩
   simp[bn,hall]
  ·(try simp only[go_sem] at h18);refine ag ?_;(try simp only[go_sem]);refine aj ?_;simp only[go_sem];intro t12 e12;(try replace e12:=w64 e12 (by omega) (by omega))
   refine ay (i+1) ⟨by omega,bw hI1.2 (by simpa using h18)⟩ (by first|omega|(dsimp only;omega)) byC
 ·(try simp only[go_sem] at h10);refine bk ?_;simp only[go_sem];refine ab ?_;refine aa ?_;simp only[go_sem];refine cw_m (TooGreat_c s hs) byW byT ?_;simp only[go_sem];refine ah _ rfl (fun h20=>?_) (fun h20=>?_)
  ·(try simp only[go_sem] at h20);refine aa ?_;simp only[go_sem];refine af ?_;simp only[go_sem];refine am ?_;have hall:(pcs s).all ba=true:=names_all (fun j hj=>hI1.2 j (by omega))
   have hg:gw s=true:=by simpa using h20
   simp[bn,hall,hg]
  ·(try simp only[go_sem] at h20);refine ag ?_;(try simp only[go_sem]);refine aa ?_;simp only[go_sem];refine af ?_;simp only[go_sem];refine am ?_;have hall:(pcs s).all ba=true:=names_all (fun j hj=>hI1.2 j (by omega))
   have hg:gw s=false:=by simpa using h20
   simp[bn,hall,hg]
end Go.VM.Tryz
end
section
set_option maxHeartbeats 4000000
open Go Go.VM Go.Proofs Tether
namespace Go.VM.Tryz
theorem PathOf_c (l:List Str) (hl:l.length<4611686018427387904) (hb:∀ i,i≤l.length→(mj l i).length<4611686018427387904):Meets Tryz.prog 164 [strsV' l] (.str (mj l l.length)) []:=by
 refine an (fn:=Tryz.f164) Tryz.func164 rfl fb164 (by kernel_rfl) (Nat.le_of_ble_eq_true rfl) ?_
 refine aa ?_;simp only[go_sem];repeat first|(with_reducible refine ad ?_ ?_;exact byD)|(with_reducible refine ae ?_ ?_;exact byQ)
 refine aa ?_;simp only[go_sem];refine ab ?_;refine aa ?_;simp only[go_sem];refine ai ?_;refine bm (σ:=Nat) (fun i=>i≤l.length) (fun i=>[⟨4,0,[],.int .i64 (i:Nat)⟩,⟨3,0,[],.str (mj l i)⟩]) [0,2] (fun i=>l.length-i) 0 (by first|trivial|omega|simp) (Nat.zero_le _) byC (fun i hI1=>?_)
 simp only[go_sem];refine ab ?_;refine aa ?_;simp only[go_sem];repeat first|(with_reducible refine ad ?_ ?_;exact byD)|(with_reducible refine ae ?_ ?_;exact byQ)
 intro t8 e8;subst e8;refine ah _ rfl (fun h8=>?_) (fun h8=>?_)
 ·(try simp only[go_sem] at h8);have hlt:i<l.length:=by omega
  have hbb:=hb (i+1) (by omega)
  have hb0:=hb i (by omega)
  refine ag ?_;(try simp only[go_sem]);refine ab (ai ?_);refine ab ?_;refine aa ?_;simp only[go_sem];intro t12 e12;subst e12;refine ah _ rfl (fun h12=>?_) (fun h12=>?_)
  ·(try simp only[go_sem] at h12);have he:mj l (i+1)=mj l i++[47]++l.getD i []:=by simp only[mj];rw[if_neg (by omega)]
   rw[he] at hbb;simp at hbb;refine aj ?_;simp only[go_sem];repeat ((with_reducible first|refine ad ?_ ?_|refine ae ?_ ?_);focus (first|exact byD|exact byQ|((refine Sd.mk ?_;simp;omega))))
   repeat first|(with_reducible refine ad ?_ ?_;exact byD)|(with_reducible refine ae ?_ ?_;exact byQ)
   refine aj ?_;simp only[go_sem];repeat ((with_reducible first|refine ad ?_ ?_|refine ae ?_ ?_);focus (first|exact byD|exact byQ|((refine Sd.mk ?_;simp at *;omega))))
   repeat first|(with_reducible refine ad ?_ ?_;exact byD)|(with_reducible refine ae ?_ ?_;exact byQ)
   refine aj ?_;simp only[go_sem];intro t10 e10;(try replace e10:=w64 e10 (by omega) (by omega))
   refine ay (i+1) (by omega) (by first|omega|(dsimp only;omega)) ?_
   rw[he];exact byC
  ·(try simp only[go_sem] at h12);obtain rfl:i=0:=by omega
   have he:mj l (0+1)=mj l 0++l.getD 0 []:=rfl;rw[he] at hbb;simp at hbb;refine ag ?_;(try simp only[go_sem]);refine aj ?_;simp only[go_sem];repeat ((with_reducible first|refine ad ?_ ?_|refine ae ?_ ?_);focus (first|exact byD|exact byQ|((refine Sd.mk ?_;simp at *;omega))))
   repeat first|(with_reducible refine ad ?_ ?_;exact byD)|(with_reducible refine ae ?_ ?_;exact byQ)
   refine aj ?_;simp only[go_sem];intro t10 e10;(try replace e10:=w64 e10 (by omega) (by omega))
   refine ay (0+1) (by omega) (by first|omega|(dsimp only;omega)) ?_
   rw[he];exact byC
 ·(try simp only[go_sem] at h8);refine bk ?_;simp only[go_sem];refine aa ?_;simp only[go_sem];refine af ?_;simp only[go_sem];refine finw_str ?_;rw[show i=l.length by omega]
end Go.VM.Tryz
end
section
set_option maxHeartbeats 4000000
open Go Go.VM Go.Proofs Tether
namespace Go.VM.Tryz
theorem PathOfN_c (l:List Str) (n:Nat) (hn:n≤l.length) (hl:l.length<4611686018427387904) (hb:∀ i,i≤l.length→(mj l i).length<4611686018427387904):Meets Tryz.prog 164 [.lst none .loose 1 n (En strE' [] l)] (.str (mj l n)) []:=by
 refine an (fn:=Tryz.f164) Tryz.func164 rfl fb164 (by kernel_rfl) (Nat.le_of_ble_eq_true rfl) ?_
 refine aa ?_;simp only[go_sem];repeat first|(with_reducible refine ad ?_ ?_;exact byD)|(with_reducible refine ae ?_ ?_;exact byQ)
 refine aa ?_;simp only[go_sem];refine ab ?_;refine aa ?_;simp only[go_sem];refine ai ?_;refine bm (σ:=Nat) (fun i=>i≤n) (fun i=>[⟨4,0,[],.int .i64 (i:Nat)⟩,⟨3,0,[],.str (mj l i)⟩]) [0,2] (fun i=>n-i) 0 (by first|trivial|omega|simp) (Nat.zero_le _) byC (fun i hI1=>?_)
 simp only[go_sem];refine ab ?_;refine aa ?_;simp only[go_sem];repeat first|(with_reducible refine ad ?_ ?_;exact byD)|(with_reducible refine ae ?_ ?_;exact byQ)
 intro t8 e8;subst e8;refine ah _ rfl (fun h8=>?_) (fun h8=>?_)
 ·(try simp only[go_sem] at h8);have hlt:i<n:=by omega
  have hbb:=hb (i+1) (by omega)
  have hb0:=hb i (by omega)
  refine ag ?_;(try simp only[go_sem]);refine ab (ai ?_);refine ab ?_;refine aa ?_;simp only[go_sem];intro t12 e12;subst e12;refine ah _ rfl (fun h12=>?_) (fun h12=>?_)
  ·(try simp only[go_sem] at h12);have he:mj l (i+1)=mj l i++[47]++l.getD i []:=by simp only[mj];rw[if_neg (by omega)]
   rw[he] at hbb;simp at hbb;refine aj ?_;simp only[go_sem];repeat ((with_reducible first|refine ad ?_ ?_|refine ae ?_ ?_);focus (first|exact byD|exact byQ|((refine Sd.mk ?_;simp;omega))))
   repeat first|(with_reducible refine ad ?_ ?_;exact byD)|(with_reducible refine ae ?_ ?_;exact byQ)
   refine aj ?_;simp only[go_sem];repeat ((with_reducible first|refine ad ?_ ?_|refine ae ?_ ?_);focus (first|exact byD|exact byQ|((refine Sd.mk ?_;simp at *;omega))))
   repeat first|(with_reducible refine ad ?_ ?_;exact byD)|(with_reducible refine ae ?_ ?_;exact byQ)
   refine aj ?_;simp only[go_sem];intro t10 e10;(try replace e10:=w64 e10 (by omega) (by omega))
   refine ay (i+1) (by omega) (by first|omega|(dsimp only;omega)) ?_
   rw[he];exact byC
  ·(try simp only[go_sem] at h12);obtain rfl:i=0:=by omega
   have he:mj l (0+1)=mj l 0++l.getD 0 []:=rfl;rw[he] at hbb;simp at hbb;refine ag ?_;(try simp only[go_sem]);refine aj ?_;simp only[go_sem];repeat ((with_reducible first|refine ad ?_ ?_|refine ae ?_ ?_);focus (first|exact byD|exact byQ|((refine Sd.mk ?_;simp at *;omega))))
   repeat first|(with_reducible refine ad ?_ ?_;exact byD)|(with_reducible refine ae ?_ ?_;exact byQ)
   refine aj ?_;simp only[go_sem];intro t10 e10;(try replace e10:=w64 e10 (by omega) (by omega))
   refine ay (0+1) (by omega) (by first|omega|(dsimp only;omega)) ?_
   rw[he];exact byC
 ·(try simp only[go_sem] at h8);refine bk ?_;simp only[go_sem];refine aa ?_;simp only[go_sem];refine af ?_;simp only[go_sem];refine finw_str ?_;rw[show i=n by omega]
theorem ParentOf_c (s:Str) (hs:(s.length+1)*16≤140737488355328) (hb:∀ i,i≤(pcs s).length→(mj (pcs s) i).length<4611686018427387904):Meets Tryz.prog 139 [.str s] (.str (mj (pcs s) ((pcs s).length-1))) []:=by
 refine an (fn:=Tryz.f139) Tryz.func139 rfl fb139 (by kernel_rfl) (Nat.le_of_ble_eq_true rfl) ?_
 have hpl:(pcs s).length≤s.length+1:=by rw[pcs_cnt];have:=List.count_le_length (a:=(47:UInt8)) (l:=s);omega
 have hp0:0<(pcs s).length:=by rw[pcs_cnt];omega
 refine aa ?_;simp only[go_sem];repeat first|(with_reducible refine ad ?_ ?_;exact byD)|(with_reducible refine ae ?_ ?_;exact byQ)
 refine aa ?_;simp only[go_sem];refine cw_m (NamesOf_c s hs) byW byT ?_;simp only[go_sem];refine aa ?_;simp only[go_sem];intro t9 e9;(try replace e9:=w64 e9 (by omega) (by omega))
 repeat first|(with_reducible refine ad ?_ ?_;exact byD)|(with_reducible refine ae ?_ ?_;exact byQ)
 refine cw_m (PathOfN_c (pcs s) ((pcs s).length-1) (by omega) (by omega) hb) byW byT ?_
 simp only[go_sem];refine af ?_;simp only[go_sem];exact finw_str rfl
theorem IsIn_c (a b:Str) (ha:(a.length+1)*16≤140737488355328) (hb:(b.length+1)*16≤140737488355328):Meets Tryz.prog 162 [.str a,.str b] (.bool (inP (pcs a) (pcs b))) []:=by
 refine an (fn:=Tryz.f162) Tryz.func162 rfl fb162 (by kernel_rfl) (Nat.le_of_ble_eq_true rfl) ?_
 have hpl:(pcs a).length≤a.length+1:=by rw[pcs_cnt];have:=List.count_le_length (a:=(47:UInt8)) (l:=a);omega
 have hpl2:(pcs b).length≤b.length+1:=by rw[pcs_cnt];have:=List.count_le_length (a:=(47:UInt8)) (l:=b);omega
 refine aa ?_;simp only[go_sem];repeat first|(with_reducible refine ad ?_ ?_;exact byD)|(with_reducible refine ae ?_ ?_;exact byQ)
 refine aa ?_;simp only[go_sem];refine cw_m (NamesOf_c a ha) byW byT ?_;simp only[go_sem];refine cw_m (NamesOf_c b hb) byW byT ?_;simp only[go_sem];refine ab ?_;refine aa ?_;simp only[go_sem];intro t16 e16;subst e16;refine ah _ rfl (fun h16=>?_) (fun h16=>?_)
 ·(try simp only[go_sem] at h16);refine aa ?_;simp only[go_sem];refine af ?_;simp only[go_sem];refine aq ?_;have:¬ (pcs b).length≤(pcs a).length:=by omega
  simp[inP,this]
 ·(try simp only[go_sem] at h16);refine ag ?_;(try simp only[go_sem]);refine ab ?_;refine aa ?_;simp only[go_sem];refine ai ?_;refine bm (σ:=Nat) (fun i=>i≤(pcs b).length∧∀ j,j<i→(pcs a).getD j []=(pcs b).getD j []) (fun i=>[⟨7,0,[],.int .i64 (i:Nat)⟩]) [5,6] (fun i=>(pcs b).length-i) 0 ⟨Nat.zero_le _,fun j hj=>absurd hj (Nat.not_lt_zero j)⟩ (Nat.zero_le _) byC (fun i hI1=>?_)
  simp only[go_sem];refine ab ?_;refine aa ?_;simp only[go_sem];repeat first|(with_reducible refine ad ?_ ?_;exact byD)|(with_reducible refine ae ?_ ?_;exact byQ)
  intro t20 e20;subst e20;refine ah _ rfl (fun h20=>?_) (fun h20=>?_)
  ·(try simp only[go_sem] at h20);refine ag ?_;(try simp only[go_sem]);refine ab (ai ?_);refine ab (bc cj [] (.first 0 (.first 1 (.first 2 (.first 3 (.first 4 (.first 5 (.first 6 (.first 7 (.first 8 (.done)))))))))) (by kernel_rfl) ?_)
   simp only[go_sem];repeat first|(with_reducible refine ad ?_ ?_;exact byD)|(with_reducible refine ae ?_ ?_;exact byQ)
   intro t31 e31;subst e31;refine ah _ rfl (fun h31=>?_) (fun h31=>?_)
   ·(try simp only[go_sem] at h31);refine aa ?_;simp only[go_sem];refine af ?_;simp only[go_sem];refine aq ?_;rw[inP,dl (p:=fun j=>decide ((pcs a).getD j []=(pcs b).getD j [])) (i:=i) (by omega) (by simpa using h31),Bool.and_false]
   ·(try simp only[go_sem] at h31);refine ag ?_;(try simp only[go_sem]);refine aj ?_;simp only[go_sem];intro t22 e22;(try replace e22:=w64 e22 (by omega) (by omega))
    refine ay (i+1) ⟨by omega,fun j hj=>?_⟩ (by show (pcs b).length-(i+1)<(pcs b).length-i;omega) byC
    rcases Nat.lt_or_ge j i with h|h
    ·exact hI1.2 j h
    ·obtain rfl:j=i:=by omega
     simpa using h31
  ·(try simp only[go_sem] at h20);refine bk ?_;simp only[go_sem];refine aa ?_;simp only[go_sem];refine af ?_;simp only[go_sem];refine aq ?_;have h:(pcs b).length≤(pcs a).length:=by omega
   rw[inP,dk (p:=fun j=>decide ((pcs a).getD j []=(pcs b).getD j [])) fun j hj=>by simpa using hI1.2 j (by omega)]
   simp[h]
end Go.VM.Tryz
end
section
set_option maxHeartbeats 4000000
open Go Go.VM
namespace Tether
theorem find_of_mem_iff {l:List Entry} (hs:bo l) {p:Str} {x:Entry}:zjh l p=some x↔x∈l∧x.path=p :=
 ⟨mn,fun ⟨h1,h2⟩=>h2 ▸ zbg hs h1⟩
theorem putE_find {l:List Entry} (hs:bo l) (x:Entry) (p:Str):zjh (putE l x) p=if p=x.path then some x else zjh l p:=by
 by_cases h:p=x.path
 ·rw[if_pos h,find_of_mem_iff (fq hs x)];exact⟨(je hs).2 (.inl rfl),h.symm⟩
 ·rw[if_neg h]
  cases hf:zjh l p with
  | none =>
    rw[findE_none] at hf ⊢;intro y hy
    rcases (je hs).1 hy with rfl | ⟨h1,_⟩
    ·exact fun e=>h e.symm
    ·exact hf y h1
  | some y =>
    obtain⟨h1,h2⟩:=mn hf;exact (find_of_mem_iff (fq hs x)).2 ⟨(je hs).2 (.inr ⟨h1,fun e=>h (h2 ▸ e)⟩),h2⟩
end Tether
end
section
set_option maxHeartbeats 4000000
open Go Go.VM Go.Proofs Tether
namespace Go.VM.Tryz
theorem RIsVersion_c (n:Int):Meets Tryz.prog 110 [.int .i64 n] (.bool (decide (1≤n) && decide (n≤1000000))) []:=by
 refine an (fn:=Tryz.f110) Tryz.func110 rfl fb110 (by kernel_rfl) (Nat.le_of_ble_eq_true rfl) ?_
 refine aa ?_;simp only[go_sem];repeat first|(with_reducible refine ad ?_ ?_;exact byD)|(with_reducible refine ae ?_ ?_;exact byQ)
 refine aa ?_;simp only[go_sem];intro t4 e4;intro t7 e7;intro t8 e8;rw[ar] at e8;subst e4 e7 e8;refine af ?_;simp only[go_sem];exact aq rfl
end Go.VM.Tryz
end
section
set_option maxHeartbeats 4000000
open Go Go.VM Go.Proofs Tether
namespace Go.VM.Tryz.Gr
set_option maxHeartbeats 1000000
theorem whoG_T {l:List Grant} {f:Str} {i:Nat} (hi:i<l.length) (h:(l.getD i default).folder=f):whoG (l.take (i+1)) f=whoG (l.take i) f++[(l.getD i default).who]:=by
 rw[zcn (d:=default) hi,whoG,List.filter_append,List.filter_cons_of_pos (by simpa using h),List.filter_nil,List.map_append];rfl
theorem whoG_F {l:List Grant} {f:Str} {i:Nat} (hi:i<l.length) (h:¬ (l.getD i default).folder=f):whoG (l.take (i+1)) f=whoG (l.take i) f:=by
 rw[zcn (d:=default) hi,whoG,List.filter_append,List.filter_cons_of_neg (by simpa using h),List.filter_nil,List.append_nil];rfl
theorem whoG_len (l:List Grant) (f:Str):(whoG l f).length≤l.length:=by
 unfold whoG;rw[List.length_map];exact List.length_filter_le _ _
end Go.VM.Tryz.Gr
end
section
set_option maxHeartbeats 4000000
open Go Go.VM Go.Proofs Tether
namespace Go.VM.Tryz
theorem pathN_le:∀ (s:Str) (k:Nat),k≤(pcs s).length→(mj (pcs s) k).length≤s.length
 | _,0,_=>by simp[mj]
 | [],k+1,h=>by
   simp[pcs] at h;subst h;simp[pcs,mj]
 | b::r,k+1,h=>by
   have hne:=ym r
   by_cases hb:b=47
   ·simp only[pcs,hb,if_true,List.length_cons] at h ⊢;rw[mi]
    by_cases hk:k=0
    ·simp[hk]
    ·have:=pathN_le r k (by omega)
     simp[hk];omega
   ·simp only[pcs,hb,if_false] at h ⊢
    rcases hp:pcs r with _ | ⟨x,xs⟩
    ·exact absurd hp hne
    ·rw[hp] at h;have:=pathN_le r (k+1) (by rw[hp];simpa using h)
     rw[hp] at this;simp only[List.length_cons] at *;rw[ze];simp;omega
end Go.VM.Tryz
end
section
set_option maxHeartbeats 4000000
open Go Go.VM Go.Proofs Tether
namespace Go.VM.Tryz
theorem ParentOf2_c (s:Str) (hs:(s.length+1)*16≤140737488355328):Meets Tryz.prog 139 [.str s] (.str (bq s)) []:=by
 have h:=ParentOf_c s hs (fun i hi=>by have:=pathN_le s i hi;omega)
 rwa [zaa] at h
theorem IsIn2_c (a b:Str) (ha:(a.length+1)*16≤140737488355328) (hb:(b.length+1)*16≤140737488355328):Meets Tryz.prog 162 [.str a,.str b] (.bool (isIn a b)) []:=by
 rw[zui];exact IsIn_c a b ha hb
theorem PathOfM_c {p f:Str} (t:Str) (h:isIn p f=true) (hp:p.length≤1048576) (ht:t.length≤1048576):Meets Tryz.prog 164 [strsV' (pcs t++(pcs p).drop (pcs f).length)] (.str (t++p.drop f.length)) []:=by
 have hm:=zol t h;have hl:(t++p.drop f.length).length≤2097152:=by simp;omega
 have hpl:(pcs (t++p.drop f.length)).length≤(t++p.drop f.length).length+1:=by rw[pcs_cnt];have:=List.count_le_length (a:=(47:UInt8)) (l:=(t++p.drop f.length));omega
 have:=PathOf_c (pcs t++(pcs p).drop (pcs f).length) (by rw[hm];omega) (fun i hi=>by
  rw[hm] at hi ⊢;have:=pathN_le _ i hi;omega)
 rw[hm,zbu] at this
 rwa [hm]
end Go.VM.Tryz
end
section
set_option maxHeartbeats 4000000
open Go Go.VM Go.Proofs Tether
namespace Go.VM.Tryz
def isAt (p:Str) (x:Entry):Bool:=decide (x.path=p)
theorem EntryAt_c (l:List Entry) (p:Str) (hl:l.length<4611686018427387904):Meets Tryz.prog 161 [esV l,.str p] (.int .i64 (idxF (isAt p) l)) []:=by
 refine an (fn:=Tryz.f161) Tryz.func161 rfl fb161 (by kernel_rfl) (Nat.le_of_ble_eq_true rfl) ?_
 refine aa ?_;simp only[go_sem];repeat first|(with_reducible refine ad ?_ ?_;exact byD)|(with_reducible refine ae ?_ ?_;exact byQ)
 refine ab ?_;refine aa ?_;simp only[go_sem];refine ai ?_;refine bm (σ:=Nat) (fun i=>i≤l.length∧∀ j,j<i→isAt p (l.getD j default)=false) (fun i=>[⟨5,0,[],.int .i64 (i:Nat)⟩]) [0,1] (fun i=>l.length-i) 0 ⟨Nat.zero_le _,fun j hj=>absurd hj (Nat.not_lt_zero j)⟩ (Nat.zero_le _) byC (fun i hI1=>?_)
 simp only[go_sem];refine ab ?_;refine aa ?_;simp only[go_sem];repeat first|(with_reducible refine ad ?_ ?_;exact byD)|(with_reducible refine ae ?_ ?_;exact byQ)
 intro t9 e9;subst e9;refine ah _ rfl (fun h9=>?_) (fun h9=>?_)
 ·(try simp only[go_sem] at h9);refine ag ?_;(try simp only[go_sem]);refine ab (ai ?_);refine aa ?_;simp only[go_sem];repeat first|(with_reducible refine ad ?_ ?_;exact byD)|(with_reducible refine ae ?_ ?_;exact byQ)
  intro t18 e18;subst e18;refine ah _ rfl (fun h18=>?_) (fun h18=>?_)
  ·(try simp only[go_sem] at h18);refine aa ?_;simp only[go_sem];refine af ?_;simp only[go_sem];refine am ?_;rw[qr (d:=default) (by omega) hI1.2 (by simpa [isAt] using h18)]
  ·(try simp only[go_sem] at h18);refine ag ?_;(try simp only[go_sem]);refine aj ?_;simp only[go_sem];intro t11 e11;(try replace e11:=w64 e11 (by omega) (by omega))
   refine ay (i+1) ⟨by omega,bw hI1.2 (by simpa [isAt] using h18)⟩ (by first|omega|(dsimp only;omega)) byC
 ·(try simp only[go_sem] at h9);refine bk ?_;simp only[go_sem];refine aa ?_;simp only[go_sem];refine af ?_;simp only[go_sem];refine am ?_;rw[om (d:=default) fun j hj=>hI1.2 j (by omega)]
theorem find_idx (l:List Entry) (p:Str):(idxF (isAt p) l = -1∧zjh l p=none)∨∃ i:Nat,idxF (isAt p) l=(i:Int)∧i<l.length∧zjh l p=some (l.getD i default):=by
 have key:∀ l:List Entry,(l.findIdx? (isAt p)=none∧l.find? (isAt p)=none)∨∃ i:Nat,l.findIdx? (isAt p)=some i∧i<l.length∧l.find? (isAt p)=some (l.getD i default):=by
  intro l
  induction l with
  | nil=>exact .inl ⟨rfl,rfl⟩
  | cons x l ih =>
    by_cases hx:isAt p x=true
    ·exact .inr ⟨0,by simp[List.findIdx?_cons,hx],by simp,by simp[List.find?_cons,hx]⟩
    ·have hx:isAt p x=false:=by simpa using hx
     rcases ih with ⟨h1,h2⟩ | ⟨i,h1,h2,h3⟩
     ·exact .inl ⟨by simp[List.findIdx?_cons,hx,h1],by simp[List.find?_cons,hx,h2]⟩
     ·exact .inr ⟨i+1,by simp[List.findIdx?_cons,hx,h1],by simp;omega,by simp[List.find?_cons,hx,h3]⟩
 have hf:zjh l p=l.find? (isAt p):=rfl
 rcases key l with ⟨h1,h2⟩ | ⟨i,h1,h2,h3⟩
 ·exact .inl ⟨by rw[idxF,h1],by rw[hf,h2]⟩
 ·exact .inr ⟨i,by rw[idxF,h1],h2,by rw[hf,h3]⟩
def isFolderP (l:List Entry) (p:Str):Int:=if p=[] then 0 else match zjh l p with|none=>5|some x=>if x.folder=true then 0 else 4
theorem IsFolder_c (l:List Entry) (p:Str) (hl:l.length<4611686018427387904):Meets Tryz.prog 138 [esV l,.str p] (.int .i64 (isFolderP l p)) []:=by
 refine an (fn:=Tryz.f138) Tryz.func138 rfl fb138 (by kernel_rfl) (Nat.le_of_ble_eq_true rfl) ?_
 refine aa ?_;simp only[go_sem];repeat first|(with_reducible refine ad ?_ ?_;exact byD)|(with_reducible refine ae ?_ ?_;exact byQ)
 refine ab ?_;refine aa ?_;simp only[go_sem];intro t7 e7;subst e7;refine ah _ rfl (fun h7=>?_) (fun h7=>?_)
 ·(try simp only[go_sem] at h7);refine aa ?_;simp only[go_sem];refine af ?_;simp only[go_sem];have h:p=[]:=by simpa using h7
  exact am (by rw[isFolderP,if_pos h])
 ·(try simp only[go_sem] at h7);refine ag ?_;(try simp only[go_sem]);refine aa ?_;simp only[go_sem];refine cw_m (EntryAt_c l p hl) byW byT ?_;simp only[go_sem];refine ab ?_;refine aa ?_;simp only[go_sem];intro t12 e12;subst e12;refine ah _ rfl (fun h12=>?_) (fun h12=>?_)
  ·(try simp only[go_sem] at h12);refine aa ?_;simp only[go_sem];refine af ?_;simp only[go_sem];have h:¬ p=[]:=by simpa using h7
   have hn:zjh l p=none:=by
    rcases find_idx l p with ⟨_,h2⟩ | ⟨i,h1,_⟩
    ·exact h2
    ·omega
   exact am (by rw[isFolderP,if_neg h,hn])
  ·(try simp only[go_sem] at h12)
   have hix:∃ i:Nat,idxF (isAt p) l=(i:Int)∧i<l.length∧zjh l p=some (l.getD i default):=by
    rcases find_idx l p with ⟨h1,_⟩|h
    ·omega
    ·exact h
   obtain⟨i,hi1,hi2,hi3⟩:=hix;refine ag ?_;(try simp only[go_sem]);refine ab ?_;refine aa ?_;simp only[go_sem];repeat first|(with_reducible refine ad ?_ ?_;exact byD)|(with_reducible refine ae ?_ ?_;exact byQ)
   intro t18 e18;subst e18;refine ah _ rfl (fun h18=>?_) (fun h18=>?_)
   ·(try simp only[go_sem] at h18);refine aa ?_;simp only[go_sem];refine af ?_;simp only[go_sem];have h:¬ p=[]:=by simpa using h7
    have hf:(l.getD i default).folder=false:=by rw[hi1] at h18;simpa using h18
    exact am (by rw[isFolderP,if_neg h,hi3];simp only;rw[hf];rfl)
   ·(try simp only[go_sem] at h18);refine ag ?_;(try simp only[go_sem]);refine aa ?_;simp only[go_sem];refine af ?_;simp only[go_sem];have h:¬ p=[]:=by simpa using h7
    have hf:(l.getD i default).folder=true:=by rw[hi1] at h18;simpa using h18
    exact am (by rw[isFolderP,if_neg h,hi3];simp only;rw[hf];rfl)
theorem isFolder_par {l:List Entry} (hs:bo l) (p:Str):isFolderP l (bq p)=if (parE l p).2=false then 5 else if (parE l p).1.folder=false then 4 else 0:=by
 unfold isFolderP parE
 by_cases h:bq p=[]
 ·simp[h,topE]
 ·rw[if_neg h,if_neg h,zad hs]
  by_cases hh:hasE l (bq p)=true
  ·rw[if_pos hh,if_pos hh];simp
   cases (l[eIx l (bq p)]?.getD default).folder<;>rfl
  ·rw[if_neg hh,if_neg hh];rfl
theorem RCheckTree_c (l:List Entry) (ok:okE l):Meets Tryz.prog 109 [esV l] (.int .i64 (dd l)) []:=by
 refine an (fn:=Tryz.f109) Tryz.func109 rfl fb109 (by kernel_rfl) (Nat.le_of_ble_eq_true rfl) ?_
 have hl:=ok.1;refine aa ?_;simp only[go_sem];repeat first|(with_reducible refine ad ?_ ?_;exact byD)|(with_reducible refine ae ?_ ?_;exact byQ)
 refine ab ?_;refine aa ?_;simp only[go_sem];intro t10 e10;subst e10;refine ah _ rfl (fun h10=>?_) (fun h10=>?_)
 ·(try simp only[go_sem] at h10);refine aa ?_;simp only[go_sem];refine af ?_;simp only[go_sem];refine am ?_;rw[dd,if_pos (by omega)]
 ·(try simp only[go_sem] at h10);have hNN:¬ 60<(l.length:Int):=by omega
  refine ag ?_;(try simp only[go_sem]);refine ab ?_;refine aa ?_;simp only[go_sem];refine ai ?_;refine bm (σ:=Nat) (fun i=>i≤l.length∧∀ j,j<i→ge (l.getD j default)=0) (fun i=>[⟨3,0,[],.int .i64 (i:Nat)⟩]) [0] (fun i=>l.length-i) 0 ⟨Nat.zero_le _,fun j hj=>absurd hj (Nat.not_lt_zero j)⟩ (Nat.zero_le _) byC (fun i hI1=>?_)
  simp only[go_sem];refine ab ?_;refine aa ?_;simp only[go_sem];repeat first|(with_reducible refine ad ?_ ?_;exact byD)|(with_reducible refine ae ?_ ?_;exact byQ)
  intro t14 e14;subst e14;refine ah _ rfl (fun h14=>?_) (fun h14=>?_)
  ·(try simp only[go_sem] at h14);refine ag ?_;(try simp only[go_sem]);refine ab (ai ?_);refine aa ?_;simp only[go_sem];repeat first|(with_reducible refine ad ?_ ?_;exact byD)|(with_reducible refine ae ?_ ?_;exact byQ)
   refine cw_m (CheckPath_c (l.getD i default).path (by have:=ok.at (i:=i) (by omega);omega)) byW byT ?_
   simp only[go_sem];refine ai ?_;refine aa ?_;simp only[go_sem];intro t25 e25;subst e25;refine ah _ rfl (fun h23=>?_) (fun h23=>?_)
   ·(try simp only[go_sem] at h23);refine aa ?_;simp only[go_sem];refine af ?_;simp only[go_sem];refine am ?_;have hx:ge (l.getD i default)=bn [(l.getD i default).path]:=by unfold ge;grind
    have h1:bh ge l=ge (l.getD i default):=dq (by omega) hI1.2 (by rw[hx];simpa using h23)
    rw[dd,if_neg hNN,if_pos (by rw[h1,hx];simpa using h23),h1,hx]
   ·(try simp only[go_sem] at h23);refine aa ?_;simp only[go_sem];repeat first|(with_reducible refine ad ?_ ?_;exact byD)|(with_reducible refine ae ?_ ?_;exact byQ)
    intro t39 e39;intro t40 e40;rw[ar] at e40;subst e39 e40;refine ah _ rfl (fun h27=>?_) (fun h27=>?_)
    ·(try simp only[go_sem] at h27);refine aa ?_;simp only[go_sem];refine af ?_;simp only[go_sem];refine am ?_;have hx:ge (l.getD i default)=1:=by unfold ge;grind
     have h1:bh ge l=ge (l.getD i default):=dq (by omega) hI1.2 (by rw[hx];decide)
     rw[dd,if_neg hNN,if_pos (by rw[h1,hx];decide),h1,hx]
    ·(try simp only[go_sem] at h27);refine aa ?_;simp only[go_sem];repeat first|(with_reducible refine ad ?_ ?_;exact byD)|(with_reducible refine ae ?_ ?_;exact byQ)
     intro t48 e48;subst e48;refine ah _ rfl (fun h41=>?_) (fun h41=>?_)
     ·(try simp only[go_sem] at h41);refine aa ?_;simp only[go_sem];refine af ?_;simp only[go_sem];refine am ?_;have hx:ge (l.getD i default)=2:=by unfold ge;grind
      have h1:bh ge l=ge (l.getD i default):=dq (by omega) hI1.2 (by rw[hx];decide)
      rw[dd,if_neg hNN,if_pos (by rw[h1,hx];decide),h1,hx]
     ·(try simp only[go_sem] at h41);refine aa ?_;simp only[go_sem];repeat first|(with_reducible refine ad ?_ ?_;exact byD)|(with_reducible refine ae ?_ ?_;exact byQ)
      refine cw_m (RIsVersion_c (l.getD i default).version) byW byT ?_;simp only[go_sem];intro t56 e56;subst e56;refine ah _ rfl (fun h49=>?_) (fun h49=>?_)
      ·(try simp only[go_sem] at h49);refine aa ?_;simp only[go_sem];refine af ?_;simp only[go_sem];refine am ?_;have hx:ge (l.getD i default)=3:=by unfold ge;grind
       have h1:bh ge l=ge (l.getD i default):=dq (by omega) hI1.2 (by rw[hx];decide)
       rw[dd,if_neg hNN,if_pos (by rw[h1,hx];decide),h1,hx]
      ·(try simp only[go_sem] at h49);refine ag ?_;(try simp only[go_sem]);refine aj ?_;simp only[go_sem];intro t16 e16;(try replace e16:=w64 e16 (by omega) (by omega))
       have hx:ge (l.getD i default)=0:=by unfold ge;grind
       refine ay (i+1) ⟨by omega,bw hI1.2 hx⟩ (by first|omega|(dsimp only;omega)) byC
  ·(try simp only[go_sem] at h14);have hE:bh ge l=0:=fw (d:=default) fun j hj=>hI1.2 j (by omega)
   refine bk ?_;simp only[go_sem];refine ab ?_;refine aa ?_;simp only[go_sem];refine ai ?_;refine bm (σ:=Nat) (fun i=>1≤i∧(i≤l.length∨i=1)∧∀ j,j<i→1≤j→blt (l.getD (j-1) default).path (l.getD j default).path=true) (fun i=>[⟨5,0,[],.int .i64 (i:Nat)⟩]) [0] (fun i=>l.length-i) 1 ⟨Nat.le_refl _,.inr rfl,fun j h1 h2=>by omega⟩ (Nat.zero_le _) byC (fun i hI2=>?_)
   simp only[go_sem];refine ab ?_;refine aa ?_;simp only[go_sem];repeat first|(with_reducible refine ad ?_ ?_;exact byD)|(with_reducible refine ae ?_ ?_;exact byQ)
   intro t60 e60;subst e60;refine ah _ rfl (fun h60=>?_) (fun h60=>?_)
   ·(try simp only[go_sem] at h60);refine ag ?_;(try simp only[go_sem]);refine ab (ai ?_);refine ab (bc cj [] (.first 0 (.first 1 (.first 2 (.first 3 (.first 4 (.first 5 (.first 6 (.first 7 (.first 8 (.first 9 (.first 10 (.first 11 (.done))))))))))))) (by kernel_rfl) ?_)
    simp only[go_sem];repeat first|(with_reducible refine ad ?_ ?_;exact byD)|(with_reducible refine ae ?_ ?_;exact byQ)
    intro t70 e70;(try replace e70:=w64 e70 (by omega) (by omega))
    repeat first|(with_reducible refine ad ?_ ?_;exact byD)|(with_reducible refine ae ?_ ?_;exact byQ)
    intro t74 e74;subst e74;have e70':t70.toNat=i-1:=by omega
    refine ah _ rfl (fun h74=>?_) (fun h74=>?_)
    ·(try simp only[go_sem] at h74);refine aa ?_;simp only[go_sem];refine af ?_;simp only[go_sem];refine am ?_
     have hr:ll l=false:=by
      have hb:blt (l.getD (i-1) default).path (l.getD i default).path=false:=by
       rw[e70'] at h74
       cases hb:blt (l.getD (i-1) default).path (l.getD i default).path with
       | false=>rfl
       | true =>
         have hlt:=blt_iff.1 hb
         rcases h74 with h|h
         ·exact absurd (blt_iff.1 h) (xj hlt)
         ·rw[h] at hlt;exact absurd hlt (eq _)
      refine dl (i:=i) (by omega) ?_
      rw[hb,decide_eq_false (by omega)]
      rfl
     rw[dd,if_neg hNN,if_neg (by simp[hE]),if_pos hr]
    ·(try simp only[go_sem] at h74);refine ag ?_;(try simp only[go_sem]);refine aj ?_;simp only[go_sem];intro t62 e62;(try replace e62:=w64 e62 (by omega) (by omega))
     have hb:blt (l.getD (i-1) default).path (l.getD i default).path=true:=by
      rw[e70'] at h74
      rcases qk (l.getD (i-1) default).path (l.getD i default).path with h|h|h
      ·exact blt_iff.2 h
      ·exact absurd h.symm h74.2
      ·rw[← blt_iff,h74.1] at h
       cases h
     refine ay (i+1) ⟨by omega,by omega,fun j h1 h2=>?_⟩ (by first|omega|(dsimp only;omega)) byC
     rcases Nat.lt_or_ge j i with h3|h3
     ·exact hI2.2.2 j h3 h2
     ·obtain rfl:j=i:=by omega
      exact hb
   ·(try simp only[go_sem] at h60);have hs:bo l:=zdm fun i' h1 h2=>hI2.2.2 i' (by omega) h1
    refine bk ?_;simp only[go_sem];refine ab ?_;refine aa ?_;simp only[go_sem];refine ai ?_;refine bm (σ:=Nat) (fun i=>i≤l.length∧∀ j,j<i→(parE l (l.getD j default).path).2=true) (fun i=>[⟨6,0,[],.int .i64 (i:Nat)⟩]) [0] (fun i=>l.length-i) 0 ⟨Nat.zero_le _,fun j hj=>absurd hj (Nat.not_lt_zero j)⟩ (Nat.zero_le _) byC (fun i hI3=>?_)
    simp only[go_sem];refine ab ?_;refine aa ?_;simp only[go_sem];repeat first|(with_reducible refine ad ?_ ?_;exact byD)|(with_reducible refine ae ?_ ?_;exact byQ)
    intro t78 e78;subst e78;refine ah _ rfl (fun h78=>?_) (fun h78=>?_)
    ·(try simp only[go_sem] at h78);refine ag ?_;(try simp only[go_sem]);refine ab (ai ?_);refine aa ?_;simp only[go_sem];repeat first|(with_reducible refine ad ?_ ?_;exact byD)|(with_reducible refine ae ?_ ?_;exact byQ)
     refine cw_m (ParentOf2_c (l.getD i default).path (by have:=ok.at (i:=i) (by omega);omega)) byW byT ?_
     simp only[go_sem];refine cw_m (IsFolder_c l (bq (l.getD i default).path) (by omega)) byW byT ?_
     simp only[go_sem];intro t89 e89;subst e89;refine ah _ rfl (fun h89=>?_) (fun h89=>?_)
     ·(try simp only[go_sem] at h89);refine aa ?_;simp only[go_sem];refine af ?_;simp only[go_sem];refine am ?_;rw[isFolder_par hs] at h89;have hr:zle l=false:=zoq (d:=default) (i:=i) (by omega) (by grind)
      rw[dd,if_neg hNN,if_neg (by simp[hE]),if_neg (by simp[sortedB_iff.2 hs]),if_pos hr]
     ·(try simp only[go_sem] at h89);refine ag ?_;(try simp only[go_sem]);refine aj ?_;simp only[go_sem];intro t80 e80;(try replace e80:=w64 e80 (by omega) (by omega))
      rw[isFolder_par hs] at h89;refine ay (i+1) ⟨by omega,bw hI3.2 (by grind)⟩ (by first|omega|(dsimp only;omega)) byC
    ·(try simp only[go_sem] at h78);have hP:zle l=true:=zoa (d:=default) fun j hj=>hI3.2 j (by omega)
     refine bk ?_;simp only[go_sem];refine ab ?_;refine aa ?_;simp only[go_sem];refine ai ?_;refine bm (σ:=Nat) (fun i=>i≤l.length∧∀ j,j<i→(parE l (l.getD j default).path).1.folder=true) (fun i=>[⟨7,0,[],.int .i64 (i:Nat)⟩]) [0] (fun i=>l.length-i) 0 ⟨Nat.zero_le _,fun j hj=>absurd hj (Nat.not_lt_zero j)⟩ (Nat.zero_le _) byC (fun i hI4=>?_)
     simp only[go_sem];refine ab ?_;refine aa ?_;simp only[go_sem];repeat first|(with_reducible refine ad ?_ ?_;exact byD)|(with_reducible refine ae ?_ ?_;exact byQ)
     intro t93 e93;subst e93;refine ah _ rfl (fun h93=>?_) (fun h93=>?_)
     ·(try simp only[go_sem] at h93);refine ag ?_;(try simp only[go_sem]);refine ab (ai ?_);refine aa ?_;simp only[go_sem];repeat first|(with_reducible refine ad ?_ ?_;exact byD)|(with_reducible refine ae ?_ ?_;exact byQ)
      refine cw_m (ParentOf2_c (l.getD i default).path (by have:=ok.at (i:=i) (by omega);omega)) byW byT ?_
      simp only[go_sem];refine cw_m (IsFolder_c l (bq (l.getD i default).path) (by omega)) byW byT ?_
      simp only[go_sem];intro t104 e104;subst e104;refine ah _ rfl (fun h104=>?_) (fun h104=>?_)
      ·(try simp only[go_sem] at h104);refine aa ?_;simp only[go_sem];refine af ?_;simp only[go_sem];refine am ?_;rw[isFolder_par hs] at h104;have hp2:=List.all_eq_true.1 hP (l.getD i default) (bj (by omega))
       have hr:zrz l=false:=zoq (d:=default) (i:=i) (by omega) (by grind)
       rw[dd,if_neg hNN,if_neg (by simp[hE]),if_neg (by simp[sortedB_iff.2 hs]),if_neg (by simp[hP]),if_pos hr]
      ·(try simp only[go_sem] at h104);refine ag ?_;(try simp only[go_sem]);refine aj ?_;simp only[go_sem];intro t95 e95;(try replace e95:=w64 e95 (by omega) (by omega))
       rw[isFolder_par hs] at h104;refine ay (i+1) ⟨by omega,bw hI4.2 (by grind)⟩ (by first|omega|(dsimp only;omega)) byC
     ·(try simp only[go_sem] at h93);refine bk ?_;simp only[go_sem];refine aa ?_;simp only[go_sem];refine af ?_;simp only[go_sem];refine am ?_;have hF:zrz l=true:=zoa (d:=default) fun j hj=>hI4.2 j (by omega)
      rw[dd,if_neg hNN,if_neg (by simp[hE]),if_neg (by simp[sortedB_iff.2 hs]),if_neg (by simp[hP]),if_neg (by simp[hF])]
end Go.VM.Tryz
end
section
set_option maxHeartbeats 4000000
open Go Go.VM Go.Proofs Tether
namespace Go.VM.Tryz
def findP (l:List Entry) (p:Str):Entry × Int:=if dd l≠0 then (noE,dd l) else if bn [p]≠0 then (noE,bn [p]) else match zjh l p with|none=>(noE,5)|some x=>(x,0)
theorem Find_c (l:List Entry) (p:Str) (ok:okE l) (hp:p.length≤1048576):Meets Tryz.prog 30 [esV l,.str p] (.tup [.agg (findP l p).1.enc,.int .i64 (findP l p).2]) []:=by
 refine an (fn:=Tryz.f30) Tryz.func30 rfl fb30 (by kernel_rfl) (Nat.le_of_ble_eq_true rfl) ?_
 have hl:=ok.1;refine aa ?_;simp only[go_sem];repeat first|(with_reducible refine ad ?_ ?_;exact byD)|(with_reducible refine ae ?_ ?_;exact byQ)
 refine aa ?_;simp only[go_sem];refine cw_v 2 (zdg l ok) byV byC rfl ?_;simp only[go_sem];refine ab ?_;refine aa ?_;simp only[go_sem];intro t13 e13;subst e13;refine ah _ rfl (fun h13=>?_) (fun h13=>?_)
 ·(try simp only[go_sem] at h13);refine aj ?_;simp only[go_sem];refine cw_m (Check_c p (by omega)) byW byT ?_
  simp only[go_sem];refine ab ?_;refine aa ?_;simp only[go_sem];intro t17 e17;subst e17;refine ah _ rfl (fun h17=>?_) (fun h17=>?_)
  ·(try simp only[go_sem] at h17);refine aa ?_;simp only[go_sem];refine af ?_;simp only[go_sem];have h1:dd l=0:=by simpa using h13
   have h2:¬ bn [p]=0:=by simpa using h17
   have hf:findP l p=(noE,bn [p]):=by rw[findP,if_neg (by simpa using h1),if_pos h2]
   rw[hf];exact cy rfl (bf _)
  ·(try simp only[go_sem] at h17);have hck:dd l=0:=by first|(simpa using h13)|(simpa using h17)
   have hs:=(qf ok hck).sorted;refine ag ?_;(try simp only[go_sem]);refine aa ?_;simp only[go_sem];refine cw_m (At_c l p hs (by omega)) byW byT ?_
   simp only[go_sem];refine ab ?_;refine aa ?_;simp only[go_sem];intro t27 e27;subst e27;refine ah _ rfl (fun h27=>?_) (fun h27=>?_)
   ·(try simp only[go_sem] at h27);refine aa ?_;simp only[go_sem];refine af ?_;simp only[go_sem];have h2:bn [p]=0:=by simpa using h17
    have hn:zjh l p=none:=by rw[zad hs,if_neg (by simpa using h27)]
    have hf:findP l p=(noE,5):=by rw[findP,if_neg (by simpa using hck),if_neg (by simpa using h2),hn]
    rw[hf];exact cy rfl (bf _)
   ·(try simp only[go_sem] at h27);have hh:hasE l p=true:=by simpa using h27
    have hix:eIx l p<l.length:=by simp[hasE] at hh;exact hh.1
    refine ag ?_;(try simp only[go_sem]);refine aa ?_;simp only[go_sem];repeat first|(with_reducible refine ad ?_ ?_;exact byD)|(with_reducible refine ae ?_ ?_;exact byQ)
    refine af ?_;simp only[go_sem];have h2:bn [p]=0:=by simpa using h17
    have hn:zjh l p=some (l.getD (eIx l p) default):=by rw[zad hs,if_pos hh]
    have hf:findP l p=(l.getD (eIx l p) default,0):=by rw[findP,if_neg (by simpa using hck),if_neg (by simpa using h2),hn]
    rw[hf];exact cy rfl (bf _)
 ·(try simp only[go_sem] at h13);refine ag ?_;(try simp only[go_sem]);refine ab ?_;refine aa ?_;simp only[go_sem];intro t17 e17;subst e17;refine ah _ rfl (fun h17=>?_) (fun h17=>?_)
  ·(try simp only[go_sem] at h17);refine aa ?_;simp only[go_sem];refine af ?_;simp only[go_sem];have h1:¬ dd l=0:=by simpa using h13
   have hf:findP l p=(noE,dd l):=by rw[findP,if_pos h1]
   rw[hf];exact cy rfl (bf _)
  ·(try simp only[go_sem] at h17);have hck:dd l=0:=by first|(simpa using h13)|(simpa using h17)
   have hs:=(qf ok hck).sorted;refine ag ?_;(try simp only[go_sem]);refine aa ?_;simp only[go_sem];refine cw_m (At_c l p hs (by omega)) byW byT ?_
   simp only[go_sem];refine ab ?_;refine aa ?_;simp only[go_sem];intro t27 e27;subst e27;refine ah _ rfl (fun h27=>?_) (fun h27=>?_)
   ·(try simp only[go_sem] at h27);refine aa ?_;simp only[go_sem];refine af ?_;simp only[go_sem];exact absurd hck (by simpa using h13)
   ·(try simp only[go_sem] at h27);have hh:hasE l p=true:=by simpa using h27
    have hix:eIx l p<l.length:=by simp[hasE] at hh;exact hh.1
    refine ag ?_;(try simp only[go_sem]);refine aa ?_;simp only[go_sem];repeat first|(with_reducible refine ad ?_ ?_;exact byD)|(with_reducible refine ae ?_ ?_;exact byQ)
    refine af ?_;simp only[go_sem];exact absurd hck (by simpa using h13)
theorem treeIs_c (t:List Entry) (e w:Int) (u:List Entry) (ht:t.length<4611686018427387904) (hu:u.length<4611686018427387904):Meets Tryz.prog 29 [esV t,.int .i64 e,.int .i64 w,esV u] (.bool (decide (e=w) && decide (t=if w=0 then u else []))) []:=by
 refine an (fn:=Tryz.f29) Tryz.func29 rfl fb29 (by kernel_rfl) (Nat.le_of_ble_eq_true rfl) ?_
 refine aa ?_;simp only[go_sem];repeat first|(with_reducible refine ad ?_ ?_;exact byD)|(with_reducible refine ae ?_ ?_;exact byQ)
 refine ab ?_;refine aa ?_;simp only[go_sem];intro t10 e10;subst e10;refine zp (σ:=List Entry) (fun x=>x=(if w=0 then u else [])) (fun x=>[⟨3,0,[],esV x⟩]) [0,1,2,8] (Nat.zero_le _) ?_ (fun x hIM1=>?_)
 ·refine ah _ rfl (fun h10=>?_) (fun h10=>?_)
  ·(try simp only[go_sem] at h10);refine aj ?_;simp only[go_sem];have hw:¬ w=0:=by simpa using h10
   refine gi [] (by rw[if_neg hw]) byC
  ·(try simp only[go_sem] at h10);refine ag ?_;(try simp only[go_sem]);have hw:w=0:=by simpa using h10
   refine gi u (by rw[if_pos hw]) byC
 simp only[go_sem];have hx:x.length≤u.length:=by rw[hIM1];split<;>simp
 refine aa ?_;simp only[go_sem];repeat first|(with_reducible refine ad ?_ ?_;exact byD)|(with_reducible refine ae ?_ ?_;exact byQ)
 intro t13 e13;refine⟨_,fun hp=>cw_m (jz t x ht (by omega)) byW byT ⟨rfl,rfl⟩, ?_⟩
 simp only[go_sem];intro t18 e18;rw[ar] at e18;subst e13 e18;refine af ?_;simp only[go_sem];refine aq ?_;rw[← hIM1];rfl
end Go.VM.Tryz
end
section
set_option maxHeartbeats 4000000
open Go Go.VM
namespace Tether
def step1E (x:Entry) (s:List Entry × Bool) (e:Entry):List Entry × Bool:=if s.2=false∧¬ e.path<x.path then (s.1++[x],true) else s
def putStepE (x:Entry) (s:List Entry × Bool) (e:Entry):List Entry × Bool:=if ¬ e.path=x.path then ((step1E x s e).1++[e],(step1E x s e).2) else step1E x s e
def putSE (l:List Entry) (x:Entry) (i:Nat):List Entry × Bool:=(l.take i).foldl (putStepE x) ([],false)
theorem putSE_next {l:List Entry} {x:Entry} {i:Nat} (hi:i<l.length):putSE l x (i+1)=putStepE x (putSE l x i) (l.getD i default):=mc _ _ _ _ hi
theorem putSE_len (l:List Entry) (x:Entry) (i:Nat):(putSE l x i).1.length≤2*i:=by
 have key:∀ (m:List Entry) (s:List Entry × Bool),(m.foldl (putStepE x) s).1.length≤s.1.length+2*m.length:=by
  intro m
  induction m with
  | nil=>intro s;simp
  | cons e m ih =>
    intro s;rw[List.foldl_cons];refine Nat.le_trans (ih _) ?_
    have:(putStepE x s e).1.length≤s.1.length+2:=by
     unfold putStepE step1E;split<;>split<;>simp
    simp;omega
 have:=key (l.take i) ([],false);simp at this;unfold putSE;omega
def refPutE (l:List Entry) (x:Entry):List Entry:=if (putSE l x l.length).2=false then (putSE l x l.length).1++[x] else (putSE l x l.length).1
theorem foldE_ahead {x:Entry} {b:Bool}:∀ (l o:List Entry),(∀ e∈l,e.path<x.path)→l.foldl (putStepE x) (o,b)=(o++l,b)
 | [],o,_=>by simp
 | e::l,o,h=>by
   have h1:=h e (by simp)
   have h2:putStepE x (o,b) e=(o++[e],b):=by
    have hne:¬ e.path=x.path:=fun k=>eq _ (k ▸ h1)
    simp[putStepE,step1E,hne,h1]
   rw[List.foldl_cons,h2,foldE_ahead l _ fun y hy=>h y (by simp[hy])]
   simp
theorem foldE_behind {x:Entry}:∀ (l o:List Entry),(∀ e∈l,x.path<e.path)→l.foldl (putStepE x) (o,true)=(o++l,true)
 | [],o,_=>by simp
 | e::l,o,h=>by
   have h1:=h e (by simp)
   have h2:putStepE x (o,true) e=(o++[e],true):=by
    have hne:¬ e.path=x.path:=fun k=>eq _ (k ▸ h1)
    simp[putStepE,step1E,hne]
   rw[List.foldl_cons,h2,foldE_behind l _ fun y hy=>h y (by simp[hy])]
   simp
theorem refPutE_eq {l:List Entry} (hs:bo l) (x:Entry):refPutE l x=putE l x:=by
 have hle:=zdp l x.path;have hsplit:l=l.take (eIx l x.path)++l.drop (eIx l x.path):=(List.take_append_drop _ _).symm;have hA:=foldE_ahead (x:=x) (b:=false) (l.take (eIx l x.path)) [] fun e he=>zet he
 have hfull:putSE l x l.length=(l.drop (eIx l x.path)).foldl (putStepE x) (l.take (eIx l x.path),false):=by
  unfold putSE;rw[List.take_length]
  conv=>lhs;rw[hsplit]
  rw[List.foldl_append,hA];simp
 rw[zpa];unfold refPutE
 rcases Nat.lt_or_ge (eIx l x.path) l.length with hlt|hge
 ·have hd:=List.drop_eq_getElem_cons hlt
  have hnl:¬ (l[eIx l x.path]).path<x.path:=by
   have:=zne hs (Nat.le_refl _) hlt;simpa [List.getD,hlt] using this
  have hs1:step1E x (l.take (eIx l x.path),false) l[eIx l x.path]=(l.take (eIx l x.path)++[x],true):=by simp[step1E,hnl]
  by_cases hh:hasE l x.path=true
  ·have hp:(l[eIx l x.path]).path=x.path:=by
    simp only[hasE,Bool.and_eq_true,decide_eq_true_eq] at hh;have:=hh.2;simpa [List.getD,hlt] using this
   have hst:putStepE x (l.take (eIx l x.path),false) l[eIx l x.path]=(l.take (eIx l x.path)++[x],true):=by rw[putStepE,if_neg (by simp[hp]),hs1]
   have hb:=foldE_behind (x:=x) (l.drop (eIx l x.path+1)) (l.take (eIx l x.path)++[x]) fun e he=>zft hs (by rw[if_pos hh];exact he)
   rw[hfull,hd,List.foldl_cons,hst,hb,if_neg (by simp),if_pos hh]
   simp
  ·have hp:¬ (l[eIx l x.path]).path=x.path:=fun e=>hh ((pr hs).2 ⟨_,List.getElem_mem hlt,e⟩)
   have hst:putStepE x (l.take (eIx l x.path),false) l[eIx l x.path]=(l.take (eIx l x.path)++[x]++[l[eIx l x.path]],true):=by rw[putStepE,if_pos hp,hs1]
   have hb:=foldE_behind (x:=x) (l.drop (eIx l x.path+1)) (l.take (eIx l x.path)++[x]++[l[eIx l x.path]]) fun e he=>zft hs (by rw[if_neg hh,hd];exact List.mem_cons_of_mem _ he)
   rw[hfull,hd,List.foldl_cons,hst,hb,if_neg (by simp),if_neg hh,hd]
   simp
 ·have hk:eIx l x.path=l.length:=by omega
  have hh:¬ hasE l x.path=true:=by simp[hasE,hk]
  rw[hfull,if_neg hh,hk];simp
end Tether
end
section
set_option maxHeartbeats 4000000
open Go Go.VM Go.Proofs Tether
namespace Go.VM.Tryz
theorem PutEntry0_c (l:List Entry) (x:Entry) (hl:l.length≤1048576):Meets Tryz.prog 163 [esV l,.agg x.enc] (.own none 0 4 0 (refPutE l x).length .loose) [.arr 4 (refPutE l x).length (En Entry.enc default (refPutE l x))]:=by
 refine an (fn:=Tryz.f163) Tryz.func163 rfl fb163 (by kernel_rfl) (Nat.le_of_ble_eq_true rfl) ?_
 refine aa ?_;simp only[go_sem];repeat first|(with_reducible refine ad ?_ ?_;exact byD)|(with_reducible refine ae ?_ ?_;exact byQ)
 refine aa ?_;simp only[go_sem];refine fp 5 4 (En Entry.enc default []) rfl ?_;refine aa ?_;simp only[go_sem];refine ab ?_;refine aa ?_;simp only[go_sem];refine ai ?_;refine gz (σ:=Nat) (fun i=>i≤l.length) (fun i=>[⟨7,0,[],.int .i64 (i:Nat)⟩,⟨5,0,[],.own none 1 4 0 (putSE l x i).1.length .loose⟩,⟨6,0,[],.bool (putSE l x i).2⟩]) [0,3,4] (fun i=>[.box x.enc,.arr 4 (putSE l x i).1.length (En Entry.enc default (putSE l x i).1)]) (fun i=>l.length-i) 0 (by first|trivial|omega|simp) (fun _=>(Nat.zero_le _)) byC (fun i hI1=>?_)
 simp only[go_sem];have hwl:=putSE_len l x i;refine ab ?_;refine aa ?_;simp only[go_sem];repeat first|(with_reducible refine ad ?_ ?_;exact byD)|(with_reducible refine ae ?_ ?_;exact byQ)
 intro t11 e11;subst e11;refine ah _ rfl (fun h11=>?_) (fun h11=>?_)
 ·(try simp only[go_sem] at h11);refine ag ?_;(try simp only[go_sem]);refine ab (ai ?_);refine ab ?_;refine ab (bc cj [] (.first 0 (.first 1 (.first 2 (.first 3 (.first 4 (.first 5 (.first 6 (.first 7 (.first 8 (.first 9 (.first 10 (.first 11 (.done))))))))))))) (by kernel_rfl) ?_)
  simp only[go_sem];intro t15 e15;repeat first|(with_reducible refine ad ?_ ?_;exact byD)|(with_reducible refine ae ?_ ?_;exact byQ)
  intro t24 e24;intro t25 e25;rw[ar] at e25;subst e15 e24 e25;refine zba (σ:=List Entry × Bool) (fun m=>m=step1E x (putSE l x i) (l.getD i default)∧m.1.length≤2*i+1) (fun m=>[⟨5,0,[],.own none 1 4 0 m.1.length .loose⟩,⟨6,0,[],.bool m.2⟩]) [0,3,4,7] (fun m=>[.box x.enc,.arr 4 m.1.length (En Entry.enc default m.1)]) (fun _=>(Nat.zero_le _)) ?_ (fun m hIM1=>?_)
  ·refine ah _ rfl (fun h25=>?_) (fun h25=>?_)
   ·(try simp only[go_sem] at h25);refine aa ?_;simp only[go_sem];repeat first|(with_reducible refine ad ?_ ?_;exact byD)|(with_reducible refine ae ?_ ?_;exact byQ)
    refine aj ?_;simp only[go_sem]
    have hs1:step1E x (putSE l x i) (l.getD i default)=((putSE l x i).1++[x],true):=by
     rw[step1E,if_pos];rw[← blt_iff];grind
    refine ztr ((putSE l x i).1++[x],true) [0,3] ⟨hs1.symm,by simp;omega⟩ ⟨rfl,rfl, ?_, ?_⟩
    ·exact byC
    ·skip
     simp only[go_sem,wk,wks,wkB,wkH,List.length_append,List.length_cons,List.length_nil]
     first|exact fun q hq=>dx (fun x=>ej _ rfl) (by rfl) hq|(and_intros<;>first|trivial|rfl|omega|(exact fun q hq=>dx (fun x=>ej _ rfl) (by rfl) hq)|exact ak _|exact byC)
   ·(try simp only[go_sem] at h25);refine ag ?_;(try simp only[go_sem])
    have hs1:step1E x (putSE l x i) (l.getD i default)=putSE l x i:=by
     rw[step1E,if_neg];rw[← blt_iff];grind
    refine gi (putSE l x i) ⟨hs1.symm,by omega⟩ byC
  simp only[go_sem];refine ab (bc cj [] (.first 0 (.first 1 (.first 2 (.first 3 (.first 4 (.first 5 (.first 6 (.first 7 (.done))))))))) (by kernel_rfl) ?_)
  simp only[go_sem];repeat first|(with_reducible refine ad ?_ ?_;exact byD)|(with_reducible refine ae ?_ ?_;exact byQ)
  intro t37 e37;subst e37;refine ah _ rfl (fun h37=>?_) (fun h37=>?_)
  ·(try simp only[go_sem] at h37);have hp:=putSE_next (l:=l) (x:=x) (i:=i) (by omega)
   rw[putStepE,if_pos (by simpa using h37),← hIM1.1] at hp
   refine aj ?_;simp only[go_sem];repeat first|(with_reducible refine ad ?_ ?_;exact byD)|(with_reducible refine ae ?_ ?_;exact byQ)
   refine aj ?_;simp only[go_sem];intro t13 e13;(try replace e13:=w64 e13 (by omega) (by omega))
   refine ke (i+1) [0,3] (by omega) (by first|omega|(dsimp only;omega)) ⟨rfl,rfl, ?_, ?_⟩
   ·(try rw[hp]);exact byC
   ·rw[hp];skip;simp only[go_sem,wk,wks,wkB,wkH,List.length_append,List.length_cons,List.length_nil]
    first|exact fun q hq=>dx (fun x=>ej _ rfl) (by rfl) hq|(and_intros<;>first|trivial|rfl|omega|(exact fun q hq=>dx (fun x=>ej _ rfl) (by rfl) hq)|exact ak _|exact byC)
  ·(try simp only[go_sem] at h37);have hp:=putSE_next (l:=l) (x:=x) (i:=i) (by omega)
   rw[putStepE,if_neg (by simpa using h37),← hIM1.1] at hp
   refine ag ?_;(try simp only[go_sem]);refine aj ?_;simp only[go_sem];intro t13 e13;(try replace e13:=w64 e13 (by omega) (by omega))
   refine ay (i+1) (by omega) (by first|omega|(dsimp only;omega)) ?_
   rw[hp];exact byC
 ·(try simp only[go_sem] at h11);refine bk ?_;simp only[go_sem];refine ab ?_;refine aa ?_;simp only[go_sem];intro t46 e46;subst e46;refine ah _ rfl (fun h46=>?_) (fun h46=>?_)
  ·(try simp only[go_sem] at h46);refine aj ?_;simp only[go_sem];repeat first|(with_reducible refine ad ?_ ?_;exact byD)|(with_reducible refine ae ?_ ?_;exact byQ)
   refine aa ?_;simp only[go_sem];refine af ?_;simp only[go_sem];have hi:i=l.length:=by omega
   have hput:refPutE l x=(putSE l x i).1++[x]:=by rw[refPutE,← hi];exact if_pos (by simpa using h46)
   rw[hput];refine zxx (.own none 3 4 0 ((putSE l x i).1++[x]).length .loose) [.dead,.dead,.dead,.arr 4 ((putSE l x i).1++[x]).length (En Entry.enc default ((putSE l x i).1++[x]))] ?_ ?_ ?_
   ·exact byC
   ·simp only[go_sem,wkB,wkH,List.length_append,List.length_cons,List.length_nil];exact fun q hq=>vu (x:=x) (by exact ak _) hq
   ·exact ap 1 [3] rfl byC byC byC byC
  ·(try simp only[go_sem] at h46);refine ag ?_;(try simp only[go_sem]);refine aa ?_;simp only[go_sem];refine af ?_;simp only[go_sem];have hi:i=l.length:=by omega
   have hput:refPutE l x=(putSE l x i).1:=by rw[refPutE,← hi];exact if_neg (by simpa using h46)
   rw[hput];exact ap 1 [1] rfl byC byC byC byC
theorem PutEntry_c (l:List Entry) (x:Entry) (hl:l.length≤1048576) (hs:bo l):Meets Tryz.prog 163 [esV l,.agg x.enc] (.own none 0 4 0 (putE l x).length .loose) [.arr 4 (putE l x).length (En Entry.enc default (putE l x))]:=by
 have h:=PutEntry0_c l x hl
 rwa [refPutE_eq hs] at h
end Go.VM.Tryz
end
section
set_option maxHeartbeats 4000000
open Go Go.VM Go.Proofs Tether
namespace Go.VM.Tryz
set_option maxHeartbeats 4000000
theorem ChangeForm_c (c:Change) (ok:okC c):Meets Tryz.prog 160 [.agg c.enc] (.int .i64 (jj c)) []:=by
 refine an (fn:=Tryz.f160) Tryz.func160 rfl fb160 (by kernel_rfl) (Nat.le_of_ble_eq_true rfl) ?_
 obtain⟨ok1,ok2,ok3⟩:=ok;refine aa ?_;simp only[go_sem];repeat first|(with_reducible refine ad ?_ ?_;exact byD)|(with_reducible refine ae ?_ ?_;exact byQ)
 refine ab ?_;refine aa ?_;simp only[go_sem];intro t6 e6;intro t10 e10;intro t11 e11;rw[az] at e11;subst e6 e10 e11;refine ah _ rfl (fun h11=>?_) (fun h11=>?_)
 ·(try simp only[go_sem] at h11);refine aa ?_;simp only[go_sem];refine af ?_;simp only[go_sem];refine am ?_;unfold jj;grind
 ·(try simp only[go_sem] at h11);refine ag ?_;(try simp only[go_sem]);refine aa ?_;simp only[go_sem];refine cw_m (CheckPath_c c.path (by omega)) byW byT ?_
  simp only[go_sem];refine ab ?_;refine aa ?_;simp only[go_sem];intro t16 e16;intro t20 e20;intro t21 e21;rw[ar] at e21;subst e16 e20 e21;refine ah _ rfl (fun h21=>?_) (fun h21=>?_)
  ·(try simp only[go_sem] at h21);refine aj ?_;simp only[go_sem];refine cw_m (CheckPath_c c.to (by omega)) byW byT ?_
   simp only[go_sem];refine ab (ai ?_);refine aa ?_;simp only[go_sem];intro t27 e27;subst e27;refine ah _ rfl (fun h25=>?_) (fun h25=>?_)
   ·(try simp only[go_sem] at h25);refine aa ?_;simp only[go_sem];refine af ?_;simp only[go_sem];refine am ?_;unfold jj;grind
   ·(try simp only[go_sem] at h25);refine ab ?_;refine aa ?_;simp only[go_sem];intro t32 e32;intro t36 e36;intro t37 e37;rw[ar] at e37;subst e32 e36 e37;refine ah _ rfl (fun h29=>?_) (fun h29=>?_)
    ·(try simp only[go_sem] at h29);refine ag ?_;(try simp only[go_sem]);refine ah _ rfl (fun h29b=>?_) (fun h29b=>ew h29b)
     refine aa ?_;simp only[go_sem];refine af ?_;simp only[go_sem];refine am ?_;unfold jj;grind
    ·(try simp only[go_sem] at h29);refine aj ?_;simp only[go_sem];intro t40 e40;intro t44 e44;intro t45 e45;rw[ar] at e45;subst e40 e44 e45;refine ah _ rfl (fun h29b=>?_) (fun h29b=>?_)
     ·(try simp only[go_sem] at h29b);refine aa ?_;simp only[go_sem];refine af ?_;simp only[go_sem];refine am ?_;unfold jj;grind
     ·(try simp only[go_sem] at h29b);refine aa ?_;simp only[go_sem];intro t50 e50;subst e50;refine ah _ rfl (fun h46=>?_) (fun h46=>?_)
      ·(try simp only[go_sem] at h46);refine aa ?_;simp only[go_sem];refine af ?_;simp only[go_sem];refine am ?_;unfold jj;grind
      ·(try simp only[go_sem] at h46);refine aa ?_;simp only[go_sem];intro t54 e54;intro t58 e58;intro t59 e59;rw[az] at e59;subst e54 e58 e59;refine ah _ rfl (fun h51=>?_) (fun h51=>?_)
       ·(try simp only[go_sem] at h51);refine aa ?_;simp only[go_sem];refine af ?_;simp only[go_sem];refine am ?_;unfold jj;grind
       ·(try simp only[go_sem] at h51);refine ag ?_;(try simp only[go_sem]);refine aa ?_;simp only[go_sem];refine af ?_;simp only[go_sem];refine am ?_;unfold jj;grind
  ·(try simp only[go_sem] at h21);refine ag ?_;(try simp only[go_sem]);refine ab (ai ?_);refine aa ?_;simp only[go_sem];intro t27 e27;subst e27;refine ah _ rfl (fun h25=>?_) (fun h25=>?_)
   ·(try simp only[go_sem] at h25);refine aa ?_;simp only[go_sem];refine af ?_;simp only[go_sem];refine am ?_;unfold jj;grind
   ·(try simp only[go_sem] at h25);refine ab ?_;refine aa ?_;simp only[go_sem];intro t32 e32;intro t36 e36;intro t37 e37;rw[ar] at e37;subst e32 e36 e37;refine ah _ rfl (fun h29=>?_) (fun h29=>?_)
    ·(try simp only[go_sem] at h29);refine ag ?_;(try simp only[go_sem]);refine ah _ rfl (fun h29b=>?_) (fun h29b=>ew h29b)
     refine aa ?_;simp only[go_sem];refine af ?_;simp only[go_sem];refine am ?_;unfold jj;grind
    ·(try simp only[go_sem] at h29);refine aj ?_;simp only[go_sem];intro t40 e40;intro t44 e44;intro t45 e45;rw[ar] at e45;subst e40 e44 e45;refine ah _ rfl (fun h29b=>?_) (fun h29b=>?_)
     ·(try simp only[go_sem] at h29b);refine aa ?_;simp only[go_sem];refine af ?_;simp only[go_sem];refine am ?_;unfold jj;grind
     ·(try simp only[go_sem] at h29b);refine aa ?_;simp only[go_sem];intro t50 e50;subst e50;refine ah _ rfl (fun h46=>?_) (fun h46=>?_)
      ·(try simp only[go_sem] at h46);refine aa ?_;simp only[go_sem];refine af ?_;simp only[go_sem];refine am ?_;unfold jj;grind
      ·(try simp only[go_sem] at h46);refine aa ?_;simp only[go_sem];intro t54 e54;intro t58 e58;intro t59 e59;rw[az] at e59;subst e54 e58 e59;refine ah _ rfl (fun h51=>?_) (fun h51=>?_)
       ·(try simp only[go_sem] at h51);refine aa ?_;simp only[go_sem];refine af ?_;simp only[go_sem];refine am ?_;unfold jj;grind
       ·(try simp only[go_sem] at h51);refine ag ?_;(try simp only[go_sem]);refine aa ?_;simp only[go_sem];refine af ?_;simp only[go_sem];refine am ?_;unfold jj;grind
theorem at_has {l:List Entry} (hs:bo l) (p:Str):(idxF (isAt p) l = -1∧hasE l p=false)∨(idxF (isAt p) l=(eIx l p:Nat)∧hasE l p=true∧eIx l p<l.length):=by
 by_cases hh:hasE l p=true
 ·right
  have hlt:eIx l p<l.length:=by simp[hasE] at hh;exact hh.1
  rcases find_idx l p with ⟨_,h2⟩ | ⟨i,h1,h2,h3⟩
  ·rw[zad hs,if_pos hh] at h2
   cases h2
  ·refine⟨?_,hh,hlt⟩;rw[h1];have hp:=(mn h3).2;have hp2:(l.getD (eIx l p) default).path=p:=by simp only[hasE,Bool.and_eq_true,decide_eq_true_eq] at hh;exact hh.2
   have h4:(l[i]'h2).path=(l[eIx l p]'hlt).path:=by
    have e1:l.getD i default=l[i]:=by simp[List.getD,h2]
    have e2:l.getD (eIx l p) default=l[eIx l p]:=by simp[List.getD,hlt]
    rw[← e1,← e2,hp,hp2]
   rw[si hs h2 hlt h4]
 ·left
  refine⟨?_,by simpa using hh⟩
  rcases find_idx l p with ⟨h1,_⟩ | ⟨i,h1,h2,h3⟩
  ·exact h1
  ·rw[zad hs,if_neg hh] at h3
   cases h3
theorem form_base {c:Change} (h:jj c=0) : -1≤c.base:=by
 unfold jj at h;grind
theorem filter_snoc {l:List Entry} {p:Entry→Bool} {i:Nat} (h:i<l.length):(l.take (i+1)).filter p=if p (l.getD i default)=true then (l.take i).filter p++[l.getD i default] else (l.take i).filter p:=by
 have hd:l.getD i default=l[i]:=by simp[List.getD,h]
 rw[hd,List.take_add_one,List.getElem?_eq_getElem h,List.filter_append]
 by_cases hb:p l[i]=true
 ·rw[if_pos hb];simp[hb]
 ·rw[if_neg hb];simp[hb]
theorem ChangeOf_c (l:List Entry) (c:Change) (v:Int) (g:GoodT l) (ok:okC c):Meets Tryz.prog 130 [esV l,.agg c.enc,.int .i64 v]
  (.tup [.own none 0 4 0 (rawP l c v).length .loose,.int .i64 (ik l c v)]) [.arr 4 (rawP l c v).length (En Entry.enc default (rawP l c v))]:=by
 refine an (fn:=Tryz.f130) Tryz.func130 rfl fb130 (by kernel_rfl) (Nat.le_of_ble_eq_true rfl) ?_
 have hl:=g.ok.1;have hl2:=g.paths.1;have hs:=g.sorted;obtain⟨ok1,ok2,ok3⟩:=id ok;have hgl:(od c).length≤1048576:=by unfold od;split<;>omega
 have hah:=at_has hs;refine aa ?_;simp only[go_sem];repeat first|(with_reducible refine ad ?_ ?_;exact byD)|(with_reducible refine ae ?_ ?_;exact byQ)
 refine aa ?_;simp only[go_sem];refine cw_m (ChangeForm_c c ok) byW byT ?_;simp only[go_sem];refine ab ?_;refine aa ?_;simp only[go_sem];intro t19 e19;subst e19;refine ah _ rfl (fun h19=>?_) (fun h19=>?_)
 ·(try simp only[go_sem] at h19);refine aa ?_;simp only[go_sem];refine fp 6 4 (En Entry.enc default []) rfl ?_;simp only[go_sem];refine af ?_;simp only[go_sem];have h1:¬ jj c=0:=by simpa using h19
  have he:ik l c v=jj c:=by rw[ik,if_pos h1]
  have hp:rawP l c v=[]:=by rw[rawP,he,if_neg h1]
  rw[he,hp];exact ap 1 [1] rfl byC byC byC byC
 ·(try simp only[go_sem] at h19);have hF:jj c=0:=by simpa using h19
  refine ag ?_;(try simp only[go_sem]);refine aa ?_;simp only[go_sem];refine ab ?_;refine aa ?_;simp only[go_sem];intro t25 e25;subst e25;refine zp (σ:=Unit) (fun u=>True) (fun u=>[⟨9,0,[],.str (od c)⟩]) [0,2,4,6,7] (Nat.zero_le _) ?_ (fun u hIM1=>?_)
  ·refine ah _ rfl (fun h25=>?_) (fun h25=>?_)
   ·(try simp only[go_sem] at h25);refine aj ?_;simp only[go_sem];have hk:c.kind=3:=by simpa using h25
    refine gi () trivial ?_;rw[od,if_pos hk];exact byC
   ·(try simp only[go_sem] at h25);refine ag ?_;(try simp only[go_sem]);have hk:¬ c.kind=3:=by simpa using h25
    refine gi () trivial ?_;rw[od,if_neg hk];exact byC
  simp only[go_sem];refine aa ?_;simp only[go_sem];repeat first|(with_reducible refine ad ?_ ?_;exact byD)|(with_reducible refine ae ?_ ?_;exact byQ)
  refine cw_m (ParentOf2_c (od c) (by omega)) byW byT ?_
  simp only[go_sem];refine cw_m (IsFolder_c l (bq (od c)) (by omega)) byW byT ?_
  simp only[go_sem];refine ab ?_;refine aa ?_;simp only[go_sem];intro t33 e33;subst e33;refine ah _ rfl (fun h33=>?_) (fun h33=>?_)
  ·(try simp only[go_sem] at h33);refine aa ?_;simp only[go_sem];refine fp 6 4 (En Entry.enc default []) rfl ?_;simp only[go_sem];refine af ?_;simp only[go_sem]
   have hm:mayP l c=isFolderP l (bq (od c)):=by
    rw[isFolder_par hs] at h33 ⊢;unfold mayP;grind
   have he:ik l c v=isFolderP l (bq (od c)):=by rw[ik,if_neg (by simpa using hF),if_pos (by rw[hm];simpa using h33),hm]
   have hp:rawP l c v=[]:=by rw[rawP,he,if_neg (by simpa using h33)]
   rw[he,hp];exact ap 1 [1] rfl byC byC byC byC
  ·(try simp only[go_sem] at h33);refine ag ?_;(try simp only[go_sem]);refine aa ?_;simp only[go_sem];refine cw_m (EntryAt_c l c.path (by omega)) byW byT ?_
   simp only[go_sem];refine ab (ai ?_);refine aa ?_;simp only[go_sem];intro t42 e42;intro t45 e45;intro t46 e46;rw[ar] at e46;subst e42 e45 e46;refine ah _ rfl (fun h39=>?_) (fun h39=>?_)
   ·(try simp only[go_sem] at h39);refine aa ?_;simp only[go_sem];refine fp 6 4 (En Entry.enc default []) rfl ?_;simp only[go_sem];refine af ?_;simp only[go_sem]
    have hm:mayP l c=6:=by
     have q2:=hah c.to;have q9:=zmz hF;rw[isFolder_par hs] at h33;unfold mayP
     rcases hah c.path with ⟨a1,a2⟩ | ⟨a1,a2,a3⟩<;>(try simp only[a1,Int.toNat_natCast] at h47)<;>grind
    have he:ik l c v=6:=by rw[ik,if_neg (by simpa using hF),if_pos (by rw[hm];decide),hm]
    have hp:rawP l c v=[]:=by rw[rawP,he,if_neg (by decide)]
    rw[he,hp];exact ap 1 [1] rfl byC byC byC byC
   ·(try simp only[go_sem] at h39);refine aa ?_;simp only[go_sem];intro t50 e50;intro t53 e53;intro t54 e54;rw[ar] at e54;repeat ((with_reducible first|refine ad ?_ ?_|refine ae ?_ ?_);focus (first|exact byD|exact byQ|((refine Sd.of fun hp=>?_;simp only[pc,and_true] at hp;(have hq:=hah c.path);grind))))
    repeat first|(with_reducible refine ad ?_ ?_;exact byD)|(with_reducible refine ae ?_ ?_;exact byQ)
    intro t61 e61;rw[ar] at e61;subst e50 e53 e54 e61;refine ah _ rfl (fun h47=>?_) (fun h47=>?_)
    ·(try simp only[go_sem] at h47);refine aa ?_;simp only[go_sem];refine fp 6 4 (En Entry.enc default []) rfl ?_;simp only[go_sem];refine af ?_;simp only[go_sem]
     have hm:mayP l c=4:=by
      have q2:=hah c.to;have q9:=zmz hF;rw[isFolder_par hs] at h33;unfold mayP
      rcases hah c.path with ⟨a1,a2⟩ | ⟨a1,a2,a3⟩<;>(try simp only[a1,Int.toNat_natCast] at h47)<;>grind
     have he:ik l c v=4:=by rw[ik,if_neg (by simpa using hF),if_pos (by rw[hm];decide),hm]
     have hp:rawP l c v=[]:=by rw[rawP,he,if_neg (by decide)]
     rw[he,hp];exact ap 1 [1] rfl byC byC byC byC
    ·(try simp only[go_sem] at h47);refine aa ?_;simp only[go_sem];intro t65 e65;intro t68 e68;intro t69 e69;rw[ar] at e69;subst e65 e68 e69;refine ah _ rfl (fun h62=>?_) (fun h62=>?_)
     ·(try simp only[go_sem] at h62);refine aa ?_;simp only[go_sem];refine fp 6 4 (En Entry.enc default []) rfl ?_;simp only[go_sem];refine af ?_;simp only[go_sem]
      have hm:mayP l c=5:=by
       have q2:=hah c.to;have q9:=zmz hF;rw[isFolder_par hs] at h33;unfold mayP
       rcases hah c.path with ⟨a1,a2⟩ | ⟨a1,a2,a3⟩<;>(try simp only[a1,Int.toNat_natCast] at h47)<;>grind
      have he:ik l c v=5:=by rw[ik,if_neg (by simpa using hF),if_pos (by rw[hm];decide),hm]
      have hp:rawP l c v=[]:=by rw[rawP,he,if_neg (by decide)]
      rw[he,hp];exact ap 1 [1] rfl byC byC byC byC
     ·(try simp only[go_sem] at h62);refine aa ?_;simp only[go_sem];intro t73 e73;refine⟨_,fun hp=>cw_m (IsIn2_c c.to c.path (by omega) (by omega)) byW byT ⟨rfl,rfl⟩, ?_⟩
      simp only[go_sem];intro t80 e80;rw[ar] at e80;subst e73 e80;refine ah _ rfl (fun h70=>?_) (fun h70=>?_)
      ·(try simp only[go_sem] at h70);refine aa ?_;simp only[go_sem];refine fp 6 4 (En Entry.enc default []) rfl ?_;simp only[go_sem];refine af ?_;simp only[go_sem]
       have hm:mayP l c=3:=by
        have q2:=hah c.to;have q9:=zmz hF;rw[isFolder_par hs] at h33;unfold mayP
        rcases hah c.path with ⟨a1,a2⟩ | ⟨a1,a2,a3⟩<;>(try simp only[a1,Int.toNat_natCast] at h47)<;>grind
       have he:ik l c v=3:=by rw[ik,if_neg (by simpa using hF),if_pos (by rw[hm];decide),hm]
       have hp:rawP l c v=[]:=by rw[rawP,he,if_neg (by decide)]
       rw[he,hp];exact ap 1 [1] rfl byC byC byC byC
      ·(try simp only[go_sem] at h70);refine aa ?_;simp only[go_sem];intro t84 e84;refine⟨_,fun hp=>cw_m (EntryAt_c l c.to (by omega)) byW byT ⟨rfl,rfl⟩, ?_⟩
       simp only[go_sem];intro t90 e90;intro t91 e91;rw[ar] at e91;subst e84 e90 e91;refine ah _ rfl (fun h81=>?_) (fun h81=>?_)
       ·(try simp only[go_sem] at h81);refine aa ?_;simp only[go_sem];refine fp 6 4 (En Entry.enc default []) rfl ?_;simp only[go_sem];refine af ?_;simp only[go_sem]
        have hm:mayP l c=6:=by
         have q2:=hah c.to;have q9:=zmz hF;rw[isFolder_par hs] at h33;unfold mayP
         rcases hah c.path with ⟨a1,a2⟩ | ⟨a1,a2,a3⟩<;>(try simp only[a1,Int.toNat_natCast] at h47)<;>grind
        have he:ik l c v=6:=by rw[ik,if_neg (by simpa using hF),if_pos (by rw[hm];decide),hm]
        have hp:rawP l c v=[]:=by rw[rawP,he,if_neg (by decide)]
        rw[he,hp];exact ap 1 [1] rfl byC byC byC byC
       ·(try simp only[go_sem] at h81);refine ag ?_;(try simp only[go_sem]);refine ab ?_;refine aa ?_;simp only[go_sem];refine ai ?_;refine bm (σ:=Nat) (fun i=>i≤l.length∧∀ j,j<i→zcj c (l.getD j default)=false) (fun i=>[⟨11,0,[],.int .i64 (i:Nat)⟩]) [0,2,4] (fun i=>l.length-i) 0 ⟨Nat.zero_le _,fun j hj=>absurd hj (Nat.not_lt_zero j)⟩ (Nat.zero_le _) byC (fun i hI1=>?_)
        simp only[go_sem];refine ab ?_;refine aa ?_;simp only[go_sem];repeat first|(with_reducible refine ad ?_ ?_;exact byD)|(with_reducible refine ae ?_ ?_;exact byQ)
        intro t95 e95;intro t99 e99;intro t100 e100;rw[ar] at e100;subst e95 e99 e100;refine ah _ rfl (fun h100=>?_) (fun h100=>?_)
        ·(try simp only[go_sem] at h100);have hxp:=il (g.paths.2 (l.getD i default) (bj (by omega)))
         refine ag ?_;(try simp only[go_sem]);refine ab (ai ?_);refine ab (bc cj [] (.first 0 (.first 1 (.first 2 (.first 3 (.first 4 (.first 5 (.first 6 (.one 7 (.first 8 (.first 9 (.first 10 (.first 11 (.first 12 (.first 13 (.first 14 (.first 15 (.first 16 (.first 17 (.done))))))))))))))))))) (by kernel_rfl) ?_)
         simp only[go_sem];repeat first|(with_reducible refine ad ?_ ?_;exact byD)|(with_reducible refine ae ?_ ?_;exact byQ)
         refine ek (IsIn2_c (l.getD i default).path c.path (by omega) (by omega)) byW byT ?_
         simp only[go_sem];repeat first|(with_reducible refine ad ?_ ?_;exact byD)|(with_reducible refine ae ?_ ?_;exact byQ)
         intro t119 e119;intro t120 e120;rw[ar] at e120;subst e119 e120;refine ah _ rfl (fun h120=>?_) (fun h120=>?_)
         ·(try simp only[go_sem] at h120);refine aa ?_;simp only[go_sem];refine fp 6 4 (En Entry.enc default []) rfl ?_;simp only[go_sem];refine af ?_;simp only[go_sem];have hst:l.any (zcj c)=true:=List.any_eq_true.2 ⟨l.getD i default,bj (by grind),by unfold zcj;grind⟩
          have hm:mayP l c=8:=by
           have q2:=hah c.to;have q9:=zmz hF;rw[isFolder_par hs] at h33;unfold mayP
           rcases hah c.path with ⟨a1,a2⟩ | ⟨a1,a2,a3⟩<;>(try simp only[a1,Int.toNat_natCast] at h47)<;>grind
          have he:ik l c v=8:=by rw[ik,if_neg (by simpa using hF),if_pos (by rw[hm];decide),hm]
          have hp:rawP l c v=[]:=by rw[rawP,he,if_neg (by decide)]
          rw[he,hp];exact ap 1 [1] rfl byC byC byC byC
         ·(try simp only[go_sem] at h120);refine ag ?_;(try simp only[go_sem]);refine aj ?_;simp only[go_sem];intro t102 e102;(try replace e102:=w64 e102 (by omega) (by omega))
          have hst:zcj c (l.getD i default)=false:=by unfold zcj;grind
          refine ay (i+1) ⟨by grind,bw hI1.2 hst⟩ (by first|omega|(dsimp only;omega)) byC
        ·(try simp only[go_sem] at h100)
         have hM:mayP l c=0:=by
          have q2:=hah c.to;have q9:=zmz hF;have q3:=form_base hF
          have q4:c.base≠-1→l.any (zcj c)=false:=by
           intro hb;rw[List.any_eq_false];intro x hx;obtain⟨j,hj,rfl⟩:=List.getElem_of_mem hx;have:=hI1.2 j (by grind)
           have e1:l.getD j default=l[j]:=by simp[List.getD,hj]
           rw[e1] at this;simp[this]
          rw[isFolder_par hs] at h33;unfold mayP
          rcases hah c.path with ⟨a1,a2⟩ | ⟨a1,a2,a3⟩<;>(try simp only[a1,Int.toNat_natCast] at h47)<;>grind
         refine bk ?_;simp only[go_sem];refine aa ?_;simp only[go_sem];refine fp 12 4 (En Entry.enc default []) rfl ?_;simp only[go_sem];refine ab ?_;refine aa ?_;simp only[go_sem];refine zba (σ:=Unit) (fun u=>c.kind=3→lk l c v=false) (fun u=>[⟨12,0,[],.own none 1 4 0 (ff l c v).length .loose⟩]) [] (fun u=>[.box c.enc,.arr 4 (ff l c v).length (En Entry.enc default (ff l c v))]) (fun _=>(Nat.zero_le _)) ?_ (fun u hIM2=>?_)
         ·refine ai ?_;refine aa ?_;simp only[go_sem];intro t199 e199;subst e199;refine ah _ rfl (fun h198=>?_) (fun h198=>?_)
          ·(try simp only[go_sem] at h198);refine aj ?_;simp only[go_sem];refine cw_m (PutEntry_c l ⟨c.path,true,[],v⟩ hl hs) byW byT ?_;simp only[go_sem];have hk:c.kind=1:=by simpa using h198
           have hm:ff l c v=putE l ⟨c.path,true,[],v⟩:=by rw[ff,if_pos hk]
           refine ztr () [0,2] (by omega) ⟨rfl,rfl, ?_, ?_⟩
           ·rw[hm];exact byC
           ·rw[hm];exact byC
          ·(try simp only[go_sem] at h198);refine aa ?_;simp only[go_sem];intro t207 e207;subst e207;refine ah _ rfl (fun h206=>?_) (fun h206=>?_)
           ·(try simp only[go_sem] at h206);refine aj ?_;simp only[go_sem];refine cw_m (PutEntry_c l ⟨c.path,false,c.text,v⟩ hl hs) byW byT ?_;simp only[go_sem];have hk:c.kind=2:=by simpa using h206
            have hm:ff l c v=putE l ⟨c.path,false,c.text,v⟩:=by rw[ff,if_neg (by omega),if_pos hk]
            refine ztr () [0,2] (by omega) ⟨rfl,rfl, ?_, ?_⟩
            ·rw[hm];exact byC
            ·rw[hm];exact byC
           ·(try simp only[go_sem] at h206);refine ab ?_;refine aa ?_;simp only[go_sem];refine ai ?_;refine gz (σ:=Nat) (fun i=>i≤l.length) (fun i=>[⟨13,0,[],.int .i64 (i:Nat)⟩,⟨12,0,[],.own none 1 4 0 ((l.take i).filter (outB c.path)).length .loose⟩]) [0,2,4] (fun i=>[.box c.enc,.arr 4 ((l.take i).filter (outB c.path)).length (En Entry.enc default ((l.take i).filter (outB c.path)))]) (fun i=>l.length-i) 0 (Nat.zero_le _) (fun _=>(Nat.zero_le _)) byC (fun i hI2=>?_)
            simp only[go_sem];have hfl:=List.length_filter_le (outB c.path) (l.take i);have hfl2:(l.take i).length≤i:=by simp;omega
            refine ab ?_;refine aa ?_;simp only[go_sem];repeat first|(with_reducible refine ad ?_ ?_;exact byD)|(with_reducible refine ae ?_ ?_;exact byQ)
            intro t126 e126;subst e126;refine ah _ rfl (fun h126=>?_) (fun h126=>?_)
            ·(try simp only[go_sem] at h126);have hxp2:=il (g.paths.2 (l.getD i default) (bj (by omega)))
             refine ag ?_;(try simp only[go_sem]);refine ab (ai ?_);refine ab (bc cj [] (.first 0 (.first 1 (.first 2 (.first 3 (.first 4 (.first 5 (.first 6 (.one 7 (.first 8 (.done)))))))))) (by kernel_rfl) ?_)
             simp only[go_sem];repeat first|(with_reducible refine ad ?_ ?_;exact byD)|(with_reducible refine ae ?_ ?_;exact byQ)
             refine ek (IsIn2_c (l.getD i default).path c.path (by omega) (by omega)) byW byT ?_
             simp only[go_sem];intro t137 e137;subst e137;refine ah _ rfl (fun h137=>?_) (fun h137=>?_)
             ·(try simp only[go_sem] at h137);refine aj ?_;simp only[go_sem];repeat first|(with_reducible refine ad ?_ ?_;exact byD)|(with_reducible refine ae ?_ ?_;exact byQ)
              refine aj ?_;simp only[go_sem];intro t128 e128;(try replace e128:=w64 e128 (by omega) (by omega))
              have hn:outB c.path (l.getD i default)=true:=by simpa [outB] using h137
              have hf:(l.take (i+1)).filter (outB c.path)=(l.take i).filter (outB c.path)++[l.getD i default]:=by rw[filter_snoc (by omega),if_pos hn]
              refine ke (i+1) [0,3] (by omega) (by first|omega|(dsimp only;omega)) ⟨rfl,rfl, ?_, ?_⟩
              ·(try rw[hf]);exact byC
              ·rw[hf];skip;simp only[go_sem,wk,wks,wkB,wkH,List.length_append,List.length_cons,List.length_nil]
               first|exact fun q hq=>dx (fun x=>ej _ rfl) (by rfl) hq|(and_intros<;>first|trivial|rfl|omega|(exact fun q hq=>dx (fun x=>ej _ rfl) (by rfl) hq)|exact ak _|exact byC)
             ·(try simp only[go_sem] at h137);refine ag ?_;(try simp only[go_sem]);refine aj ?_;simp only[go_sem];intro t128 e128;(try replace e128:=w64 e128 (by omega) (by omega))
              have hn:¬ outB c.path (l.getD i default)=true:=by simpa [outB] using h137
              have hf:(l.take (i+1)).filter (outB c.path)=(l.take i).filter (outB c.path):=by rw[filter_snoc (by omega),if_neg hn]
              refine ay (i+1) (by omega) (by first|omega|(dsimp only;omega)) ?_
              rw[hf];exact byC
            ·(try simp only[go_sem] at h126);have hi:l.take i=l:=List.take_of_length_le (by omega)
             rw[hi];refine bk ?_;simp only[go_sem];refine aa ?_;simp only[go_sem];refine ai ?_;refine gz (σ:=Nat) (fun i=>i≤l.length∧(c.kind=3→lk (l.take i) c v=false)∧(¬ c.kind=3→i=0)) (fun i=>[⟨14,0,[],.int .i64 (i:Nat)⟩,⟨12,0,[],.own none 1 4 0 ((ei (l.take i) c v).foldl putE (l.filter (outB c.path))).length .loose⟩]) [0,2,4] (fun i=>[.box c.enc,.arr 4 ((ei (l.take i) c v).foldl putE (l.filter (outB c.path))).length (En Entry.enc default ((ei (l.take i) c v).foldl putE (l.filter (outB c.path))))]) (fun i=>l.length-i) 0 ⟨Nat.zero_le _,fun _=>rfl,fun _=>rfl⟩ (fun _=>(Nat.zero_le _)) byC (fun i hI3=>?_)
             simp only[go_sem];have hfs:=gh (ei (l.take i) c v) (ef hs (outB c.path));have hfl:=qy (ei (l.take i) c v) (l.filter (outB c.path));have hfl2:=List.length_filter_le (outB c.path) l;have hgl3:=zhs (l.take i) c v;have hgl4:(l.take i).length≤i:=by simp;omega
             refine ab ?_;refine aa ?_;simp only[go_sem];repeat first|(with_reducible refine ad ?_ ?_;exact byD)|(with_reducible refine ae ?_ ?_;exact byQ)
             intro t148 e148;intro t152 e152;intro t153 e153;rw[ar] at e153;subst e148 e152 e153;refine ah _ rfl (fun h153=>?_) (fun h153=>?_)
             ·(try simp only[go_sem] at h153);have hk:c.kind=3∧i<l.length:=by grind
              have hck:=sk hF;have hxp1:=g.paths.2 (l.getD i default) (bj (by omega))
              have hxp:=il hxp1;have htp:=il (hck.2 hk.1);refine ag ?_;(try simp only[go_sem]);refine ab (ai ?_);refine ab ?_;refine ab (bc cj [] (.first 0 (.first 1 (.first 2 (.first 3 (.first 4 (.first 5 (.first 6 (.one 7 (.first 8 (.done)))))))))) (by kernel_rfl) ?_)
              simp only[go_sem];repeat first|(with_reducible refine ad ?_ ?_;exact byD)|(with_reducible refine ae ?_ ?_;exact byQ)
              refine ek (IsIn2_c (l.getD i default).path c.path (by omega) (by omega)) byW byT ?_
              simp only[go_sem];intro t164 e164;subst e164;refine ah _ rfl (fun h164=>?_) (fun h164=>?_)
              ·(try simp only[go_sem] at h164);refine bk ?_;simp only[go_sem];refine aj ?_;simp only[go_sem];intro t155 e155;(try replace e155:=w64 e155 (by omega) (by omega))
               have hn:¬ inB c.path (l.getD i default)=true:=by simpa [inB] using h164
               have hg:ei (l.take (i+1)) c v=ei (l.take i) c v:=by rw[zcp (by omega),if_neg hn]
               refine ay (i+1) ⟨by omega,fun hk3=>by rw[lk,hg];exact hI3.2.1 hk3,fun hk3=>absurd hk.1 hk3⟩ (by first|omega|(dsimp only;omega)) ?_
               rw[hg];exact byC
              ·(try simp only[go_sem] at h164);have hin:isIn (l.getD i default).path c.path=true:=by simpa using h164
               have hb:inB c.path (l.getD i default)=true:=hin;have hinp:inP (pcs (l.getD i default).path) (pcs c.path)=true:=by rw[← zui];exact hin
               have hpl:(pcs c.path).length≤(pcs (l.getD i default).path).length:=by have h:=hinp;unfold inP at h;rw[Bool.and_eq_true,decide_eq_true_eq] at h;exact h.1
               have hpl2:(pcs (l.getD i default).path).length≤81:=by rw[pcs_cnt];have:=List.count_le_length (a:=(47:UInt8)) (l:=(l.getD i default).path);omega
               have hdl:(c.to++(l.getD i default).path.drop c.path.length).length≤160:=by rw[List.length_append,List.length_drop];omega
               have hpl3:(pcs c.to).length≤81:=by rw[pcs_cnt];have:=List.count_le_length (a:=(47:UInt8)) (l:=c.to);omega
               refine ag ?_;(try simp only[go_sem]);refine aa ?_;simp only[go_sem];repeat first|(with_reducible refine ad ?_ ?_;exact byD)|(with_reducible refine ae ?_ ?_;exact byQ)
               refine ab ?_;refine aa ?_;simp only[go_sem];intro t173 e173;subst e173;refine zba (σ:=Unit) (fun u3=>True) (fun u3=>[]) [0,2,4,12,14,15] (fun u3=>[.box c.enc,.arr 4 ((ei (l.take i) c v).foldl putE (l.filter (outB c.path))).length (En Entry.enc default ((ei (l.take i) c v).foldl putE (l.filter (outB c.path)))),.box [.str (l.getD i default).path,.bool (l.getD i default).folder,.str (l.getD i default).text,.int .i64 (if (l.getD i default).path=c.path then v else (l.getD i default).version)]]) (fun _=>(Nat.zero_le _)) ?_ (fun u3 hIM3=>?_)
               ·refine ah _ rfl (fun h173=>?_) (fun h173=>?_)
                ·(try simp only[go_sem] at h173);refine aj ?_;simp only[go_sem];have hk:(l.getD i default).path=c.path:=by simpa using h173
                 refine gi () trivial ?_;rw[if_pos hk];exact byC
                ·(try simp only[go_sem] at h173);refine ag ?_;(try simp only[go_sem]);have hk:¬ (l.getD i default).path=c.path:=by simpa using h173
                 refine gi () trivial ?_;rw[if_neg hk];exact byC
               simp only[go_sem];refine ab (bc cj [13,16] (.first 1 (.first 2 (.first 5 (.first 6 (.first 8 (.first 9 (.alt 0 (.one 3 (.one 4 (.one 7 (.one 10 (.first 11 (.first 12 (.one 13 (.one 14 (.first 15 (.one 16 (.done))))))))))) (.one 3 (.one 0 (.one 4 (.one 7 (.one 10 (.first 11 (.first 12 (.one 13 (.one 14 (.first 15 (.one 16 (.done))))))))))))))))))) (by kernel_rfl) ?_)
               simp only[go_sem];repeat first|(with_reducible refine ad ?_ ?_;exact byD)|(with_reducible refine ae ?_ ?_;exact byQ)
               refine⟨?_, ?_⟩
               ·refine ek (NamesOf_c c.to (by omega)) byW byT ?_
                simp only[go_sem];repeat first|(with_reducible refine ad ?_ ?_;exact byD)|(with_reducible refine ae ?_ ?_;exact byQ)
                refine ek (NamesOf_c (l.getD i default).path (by omega)) byW byT ?_
                simp only[go_sem];refine ek (NamesOf_c c.path (by omega)) byW byT ?_
                simp only[go_sem];repeat ((with_reducible first|refine ad ?_ ?_|refine ae ?_ ?_);focus (first|exact byD|exact byQ|((refine Sd.mk ?_;omega))))
                repeat first|(with_reducible refine ad ?_ ?_;exact byD)|(with_reducible refine ae ?_ ?_;exact byQ)
                refine zil 2 (PathOfM_c c.to hin (by omega) (by omega)) byV byC rfl ?_
                simp only[go_sem];refine ab ?_;refine aa ?_;simp only[go_sem];refine cw_m (TooGreat_c (c.to++(l.getD i default).path.drop c.path.length) (by omega)) byW byT ?_
                simp only[go_sem];refine ah _ rfl (fun h194=>?_) (fun h194=>?_)
                ·(try simp only[go_sem] at h194);refine aa ?_;simp only[go_sem];refine fp 6 4 (En Entry.enc default []) rfl ?_;simp only[go_sem];refine af ?_;simp only[go_sem];have hd:ir l c v=2:=by rw[ir,if_pos ⟨hk.1,zta hk.2 hb h194⟩]
                 have he:ik l c v=2:=by rw[ik,if_neg (by simpa using hF),if_neg (by simpa using hM),hd]
                 have hp:rawP l c v=[]:=by rw[rawP,he,if_neg (by decide)]
                 rw[he,hp];exact ap 1 [6] rfl byC byC byC byC
                ·(try simp only[go_sem] at h194);refine ag ?_;(try simp only[go_sem]);refine aj ?_;simp only[go_sem];refine cw_n 2 (PutEntry_c ((ei (l.take i) c v).foldl putE (l.filter (outB c.path))) (mvE c v (l.getD i default)) (by omega) hfs) byV byC rfl byN ?_
                 simp only[go_sem];refine aj ?_;simp only[go_sem];intro t155 e155;(try replace e155:=w64 e155 (by omega) (by omega))
                 have hg:ei (l.take (i+1)) c v=ei (l.take i) c v++[mvE c v (l.getD i default)]:=by rw[zcp hk.2,if_pos hb]
                 have hgg:lk (l.take (i+1)) c v=false:=by
                  rw[lk,hg,List.any_append];have:=hI3.2.1 hk.1;rw[lk] at this;rw[this];simpa [mvE] using h194
                 have hsn:(ei (l.take (i+1)) c v).foldl putE (l.filter (outB c.path))=putE ((ei (l.take i) c v).foldl putE (l.filter (outB c.path))) (mvE c v (l.getD i default)):=by rw[hg,List.foldl_append];rfl
                 refine ke (i+1) [0,6] ⟨by omega,fun _=>hgg,fun hk3=>absurd hk.1 hk3⟩ (by first|omega|(dsimp only;omega)) ⟨rfl,rfl, ?_, ?_⟩
                 ·rw[hsn];exact byC
                 ·rw[hsn];exact byC
               ·refine ek (NamesOf_c c.to (by omega)) byW byT ?_
                simp only[go_sem];repeat first|(with_reducible refine ad ?_ ?_;exact byD)|(with_reducible refine ae ?_ ?_;exact byQ)
                refine ek (NamesOf_c (l.getD i default).path (by omega)) byW byT ?_
                simp only[go_sem];refine ek (NamesOf_c c.path (by omega)) byW byT ?_
                simp only[go_sem];repeat ((with_reducible first|refine ad ?_ ?_|refine ae ?_ ?_);focus (first|exact byD|exact byQ|((refine Sd.mk ?_;omega))))
                repeat first|(with_reducible refine ad ?_ ?_;exact byD)|(with_reducible refine ae ?_ ?_;exact byQ)
                refine zil 2 (PathOfM_c c.to hin (by omega) (by omega)) byV byC rfl ?_
                simp only[go_sem];refine ab ?_;refine aa ?_;simp only[go_sem];refine cw_m (TooGreat_c (c.to++(l.getD i default).path.drop c.path.length) (by omega)) byW byT ?_
                simp only[go_sem];refine ah _ rfl (fun h194=>?_) (fun h194=>?_)
                ·(try simp only[go_sem] at h194);refine aa ?_;simp only[go_sem];refine fp 6 4 (En Entry.enc default []) rfl ?_;simp only[go_sem];refine af ?_;simp only[go_sem];have hd:ir l c v=2:=by rw[ir,if_pos ⟨hk.1,zta hk.2 hb h194⟩]
                 have he:ik l c v=2:=by rw[ik,if_neg (by simpa using hF),if_neg (by simpa using hM),hd]
                 have hp:rawP l c v=[]:=by rw[rawP,he,if_neg (by decide)]
                 rw[he,hp];exact ap 1 [6] rfl byC byC byC byC
                ·(try simp only[go_sem] at h194);refine ag ?_;(try simp only[go_sem]);refine aj ?_;simp only[go_sem];refine cw_n 2 (PutEntry_c ((ei (l.take i) c v).foldl putE (l.filter (outB c.path))) (mvE c v (l.getD i default)) (by omega) hfs) byV byC rfl byN ?_
                 simp only[go_sem];refine aj ?_;simp only[go_sem];intro t155 e155;(try replace e155:=w64 e155 (by omega) (by omega))
                 have hg:ei (l.take (i+1)) c v=ei (l.take i) c v++[mvE c v (l.getD i default)]:=by rw[zcp hk.2,if_pos hb]
                 have hgg:lk (l.take (i+1)) c v=false:=by
                  rw[lk,hg,List.any_append];have:=hI3.2.1 hk.1;rw[lk] at this;rw[this];simpa [mvE] using h194
                 have hsn:(ei (l.take (i+1)) c v).foldl putE (l.filter (outB c.path))=putE ((ei (l.take i) c v).foldl putE (l.filter (outB c.path))) (mvE c v (l.getD i default)):=by rw[hg,List.foldl_append];rfl
                 refine ke (i+1) [0,6] ⟨by omega,fun _=>hgg,fun hk3=>absurd hk.1 hk3⟩ (by first|omega|(dsimp only;omega)) ⟨rfl,rfl, ?_, ?_⟩
                 ·rw[hsn];exact byC
                 ·rw[hsn];exact byC
             ·(try simp only[go_sem] at h153);refine bk ?_;simp only[go_sem];have hfk:=zmz hF
              have hm:ff l c v=(ei (l.take i) c v).foldl putE (l.filter (outB c.path)):=by
               have h1:¬ c.kind=1:=by simpa using h198
               have h2:¬ c.kind=2:=by simpa using h206
               rw[ff,if_neg h1,if_neg h2]
               by_cases h3:c.kind=3
               ·rw[if_neg (by omega),if_pos h3,vm,List.take_of_length_le (by grind)]
               ·rw[if_pos (by omega),hI3.2.2 h3]
                rfl
              have hgr:c.kind=3→lk l c v=false:=by
               intro h3;have:=hI3.2.1 h3
               rwa [List.take_of_length_le (by grind)] at this
              refine gi () hgr ?_;rw[hm];exact byC
         simp only[go_sem];refine ab ?_;refine aa ?_;simp only[go_sem];repeat first|(with_reducible refine ad ?_ ?_;exact byD)|(with_reducible refine ae ?_ ?_;exact byQ)
         intro t218 e218;subst e218;refine ah _ rfl (fun h218=>?_) (fun h218=>?_)
         ·(try simp only[go_sem] at h218);refine aa ?_;simp only[go_sem];refine fp 6 4 (En Entry.enc default []) rfl ?_;simp only[go_sem];refine af ?_;simp only[go_sem];have hd:ir l c v=2:=by rw[ir];split<;>first|rfl|(rw[if_pos (by omega)])
          have he:ik l c v=2:=by rw[ik,if_neg (by simpa using hF),if_neg (by simpa using hM),hd]
          have hp:rawP l c v=[]:=by rw[rawP,he,if_neg (by decide)]
          rw[he,hp];exact ap 1 [2] rfl byC byC byC byC
         ·(try simp only[go_sem] at h218);refine ag ?_;(try simp only[go_sem]);refine aa ?_;simp only[go_sem];refine af ?_;simp only[go_sem];have hd:ir l c v=0:=by rw[ir,if_neg (by rintro⟨h1,h2⟩;rw[hIM2 h1] at h2;cases h2),if_neg (by omega)]
          have he:ik l c v=0:=by rw[ik,if_neg (by simpa using hF),if_neg (by simpa using hM),hd]
          have hp:rawP l c v=ff l c v:=by rw[rawP,if_pos he]
          rw[he,hp];exact ap 1 [1] rfl byC byC byC byC
end Go.VM.Tryz
end
