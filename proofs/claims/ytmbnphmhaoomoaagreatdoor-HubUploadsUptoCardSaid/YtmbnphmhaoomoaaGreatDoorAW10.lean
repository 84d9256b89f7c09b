import Derived.Test.YtmbnphmhaoomoaaGreatDoorAW9
import Derived.Test.YtmbnphmhaoomoaaGreatDoorAV12
import Derived.Test.YtmbnphmhaoomoaaGreatDoorAV11
import Derived.Test.YtmbnphmhaoomoaaGreatDoorAW2
import Derived.Test.YtmbnphmhaoomoaaGreatDoorAW8
set_option maxHeartbeats 4000000
set_option linter.unusedVariables false
set_option linter.unusedSimpArgs false
set_option maxRecDepth 100000
section
open Go Go.VM Go.Proofs Tether
namespace Go.VM.Tryz
end Go.VM.Tryz
end
section
open Go Go.VM Go.Proofs Tether
namespace Go.VM.Tryz
end Go.VM.Tryz
end
section
open Go Go.VM Go.Proofs Tether
namespace Go.VM.Tryz
end Go.VM.Tryz
end
section
open Go Go.VM Go.Proofs Tether
namespace Go.VM.Tryz
end Go.VM.Tryz
end
section
open Go Go.VM Go.Proofs Tether
namespace Go.VM.Tryz
theorem zyn (a b:Hub):(a=b)↔a.folders=b.folders∧a.grants=b.grants∧a.ups=b.ups∧a.now=b.now:=by
 cases a;cases b;simp
theorem sh_ext {a b:Shared} (h1:a.name=b.name) (h2:a.jn=b.jn):a=b:=by
 cases a;cases b;simp_all
theorem pb (a b:Answer) (oka:okG a.page) (okb:okG b.page):Meets Tryz.prog 20 [.agg (anE a),.agg (anE b)] (.bool (decide (a=b))) []:=by
 refine an (fn:=Tryz.f20) Tryz.func20 rfl fb20 (by kernel_rfl) (Nat.le_of_ble_eq_true rfl) ?_
 refine aa ?_
 simp only[go_sem]
 repeat first|(with_reducible refine ad ?_ ?_;exact byD)|(with_reducible refine ae ?_ ?_;exact byQ)
 refine aa ?_
 simp only[go_sem]
 intro t9 e9
 intro t15 e15
 intro t16 e16
 rw[ar] at e16
 refine⟨_,fun hp=>cw_m (zkk a.page b.page oka okb) byW byT ⟨rfl,rfl⟩, ?_⟩
 simp only[go_sem]
 intro t23 e23
 rw[ar] at e23
 subst e9 e15 e16 e23
 refine af ?_
 simp only[go_sem]
 refine aq ?_
 rcases a with ⟨a1,a2,a3⟩
 rcases b with ⟨b1,b2,b3⟩
 simp[Bool.and_assoc]
theorem zuy {s t:Session} (h:ya s t=true):s=t:=by
 cases s;cases t
 simp[ya] at h
 simp[h]
theorem zgn (a b:Uploads):zcc a b=decide (a=b):=by
 rw[Bool.eq_iff_iff,decide_eq_true_eq]
 constructor
 ·intro h
  unfold zcc at h
  simp only[Bool.and_eq_true,decide_eq_true_eq] at h
  obtain⟨⟨⟨⟨h1,h2⟩,h3⟩,h4⟩,h5⟩:=h
  have hss:a.ss=b.ss:=by
   refine List.ext_getElem (by omega) fun i hi hi'=>?_
   have:=zuy (List.all_eq_true.1 h5 i (by simpa using hi))
   simpa [List.getD,hi,hi'] using this
  cases a;cases b
  simp_all
 ·rintro rfl
  exact zke a
theorem zgx (a b:List Grant):Tether.sameL a b=decide (a=b):=by
 simp[Tether.sameL]
theorem ly (a b:Hub) (oka:dz a) (okb:dz b):Meets Tryz.prog 15 [.agg (hubE a),.agg (hubE b)] (.bool (decide (a=b))) []:=by
 refine an (fn:=Tryz.f15) Tryz.func15 rfl fb15 (by kernel_rfl) (Nat.le_of_ble_eq_true rfl) ?_
 have h1:=oka.1.1
 have h2:=okb.1.1
 have h3:=oka.2.1.1
 have h4:=okb.2.1.1
 refine aa ?_
 simp only[go_sem]
 repeat first|(with_reducible refine ad ?_ ?_;exact byD)|(with_reducible refine ae ?_ ?_;exact byQ)
 refine ab ?_
 refine aa ?_
 simp only[go_sem]
 intro t12 e12
 refine⟨_,fun hp=>cw_m (Gr.SameGrants_c a.grants b.grants (by omega) (by omega)) byW byT ⟨rfl,rfl⟩, ?_⟩
 simp only[go_sem]
 intro t19 e19
 intro t20 e20
 rw[az] at e20
 refine⟨_,fun hp=>cw_m (Up.RSame_c a.ups b.ups oka.2.2.good.len okb.2.2.good.len) byW byT ⟨rfl,rfl⟩, ?_⟩
 simp only[go_sem]
 intro t27 e27
 intro t28 e28
 rw[az] at e28
 intro t34 e34
 intro t35 e35
 rw[az] at e35
 subst e12 e19 e20 e27 e28 e34 e35
 refine ah _ rfl (fun h35=>?_) (fun h35=>?_)
 ·
  (try simp only[go_sem] at h35)
  refine aa ?_
  simp only[go_sem]
  refine af ?_
  simp only[go_sem]
  refine aq ?_
  refine (decide_eq_false fun e=>?_).symm
  subst e
  have h35':=h35
  simp[zgx,zgn] at h35'
 ·
  (try simp only[go_sem] at h35)
  have hq:a.folders.length=b.folders.length∧a.grants=b.grants∧a.ups=b.ups∧a.now=b.now:=by
   have h35':=h35
   simp[zgx,zgn] at h35'
   refine⟨by omega, ?_, ?_, ?_⟩<;>simp_all
  refine ag ?_
  (try simp only[go_sem])
  refine ab ?_
  refine aa ?_
  simp only[go_sem]
  refine ai ?_
  refine bm (σ:=Nat) (fun i=>i≤a.folders.length∧∀ j,j<i→a.folders.getD j default=b.folders.getD j default) (fun i=>[⟨5,0,[],.int .i64 (i:Nat)⟩]) [2,3] (fun i=>a.folders.length-i) 0 ⟨Nat.zero_le _,fun j hj=>absurd hj (Nat.not_lt_zero j)⟩ (Nat.zero_le _) byC (fun i hI1=>?_)
  simp only[go_sem]
  refine ab ?_
  refine aa ?_
  simp only[go_sem]
  repeat first|(with_reducible refine ad ?_ ?_;exact byD)|(with_reducible refine ae ?_ ?_;exact byQ)
  intro t40 e40
  subst e40
  refine ah _ rfl (fun h40=>?_) (fun h40=>?_)
  ·
   (try simp only[go_sem] at h40)
   have hma:=oka.1.2 _ (bj (l:=a.folders) (d:=default) (show i<a.folders.length by omega))
   have hmb:=okb.1.2 _ (bj (l:=b.folders) (d:=default) (show i<b.folders.length by grind))
   refine ag ?_
   (try simp only[go_sem])
   refine ab (ai ?_)
   refine ab (bc cj [] (.first 0 (.first 1 (.first 2 (.first 3 (.first 4 (.first 5 (.first 6 (.first 7 (.first 8 (.first 9 (.first 10 (.first 11 (.first 12 (.first 13 (.first 14 (.first 15 (.first 16 (.first 17 (.first 18 (.first 19 (.first 20 (.first 21 (.first 22 (.first 23 (.first 24 (.first 25 (.one 26 (.first 27 (.first 28 (.done)))))))))))))))))))))))))))))) (by kernel_rfl) ?_)
   simp only[go_sem]
   repeat first|(with_reducible refine ad ?_ ?_;exact byD)|(with_reducible refine ae ?_ ?_;exact byQ)
   intro t55 e55
   repeat first|(with_reducible refine ad ?_ ?_;exact byD)|(with_reducible refine ae ?_ ?_;exact byQ)
   refine⟨_,fun hp=>ek (zak (a.folders.getD i default).jn (b.folders.getD i default).jn hma.2 hmb.2) byW byT ⟨rfl,rfl⟩, ?_⟩
   simp only[go_sem]
   intro t70 e70
   intro t71 e71
   rw[az] at e71
   subst e55 e70 e71
   refine ah _ rfl (fun h71=>?_) (fun h71=>?_)
   ·
    (try simp only[go_sem] at h71)
    refine aa ?_
    simp only[go_sem]
    refine af ?_
    simp only[go_sem]
    refine aq ?_
    refine (decide_eq_false fun e=>?_).symm
    subst e
    simp at h71
   ·
    (try simp only[go_sem] at h71)
    refine ag ?_
    (try simp only[go_sem])
    refine aj ?_
    simp only[go_sem]
    intro t42 e42
    (try replace e42:=w64 e42 (by omega) (by omega))
    have he:a.folders.getD i default=b.folders.getD i default:=by
     have h71':=h71
     simp at h71'
     exact sh_ext (by simpa using h71'.1) (by simpa using h71'.2)
    refine ay (i+1) ⟨by omega,bw hI1.2 he⟩ (by first|omega|(dsimp only;omega)) byC
  ·
   (try simp only[go_sem] at h40)
   refine bk ?_
   simp only[go_sem]
   refine aa ?_
   simp only[go_sem]
   refine af ?_
   simp only[go_sem]
   refine aq ?_
   refine (decide_eq_true ((zyn a b).2 ⟨?_,hq.2.1,hq.2.2.1,hq.2.2.2⟩)).symm
   refine List.ext_getElem hq.1 fun j hj hj'=>?_
   have:=hI1.2 j (by omega)
   simpa [List.getD,hj,hj'] using this
end Go.VM.Tryz
end
section
open Go Go.VM
namespace Tether
section
variable {l:List Grant} {f w:Str} {r:Int}
theorem tc {g:Grant} (hg:g∈l.take (gIx l f w)):gq g ⟨f,w,0⟩:=by
 obtain⟨j,hj,rfl⟩:=List.getElem_of_mem hg
 have hj2:j<gIx l f w:=by simp at hj;omega
 have:=order_lt.1 (zik hj2)
 have hle:=zbn l f w
 have hjl:j<l.length:=by omega
 simpa [List.getD,hjl] using this
theorem qe (hs:ec l) {g:Grant} (hg:g∈l.drop (if hasG l f w=true then gIx l f w+1 else gIx l f w)):gq ⟨f,w,0⟩ g:=by
 by_cases hh:hasG l f w=true
 ·rw[if_pos hh] at hg
  have h1:gIx l f w<l.length∧ky (l.getD (gIx l f w) default) ⟨f,w,0⟩=0:=by simpa [hasG] using hh
  obtain⟨hk,h0⟩:=h1
  obtain⟨j,hj,rfl⟩:=List.getElem_of_mem hg
  rw[List.getElem_drop]
  have hj2:gIx l f w+1+j<l.length:=by simp at hj;omega
  have h3:gq l[gIx l f w] l[gIx l f w+1+j]:=List.pairwise_iff_getElem.1 hs _ _ hk hj2 (by omega)
  have e2:l.getD (gIx l f w) default=l[gIx l f w]:=by simp[List.getD,hk]
  rw[e2] at h0
  have hsm:=order_eq.1 h0
  unfold gq at h3 ⊢
  unfold uf at hsm
  rw[← hsm.1,← hsm.2];exact h3
 ·rw[if_neg hh] at hg
  obtain⟨j,hj,rfl⟩:=List.getElem_of_mem hg
  rw[List.getElem_drop]
  have hj2:gIx l f w+j<l.length:=by simp at hj;omega
  have h3:=zib hs (f:=f) (w:=w) (j:=gIx l f w+j) (by omega) hj2
  have e2:l.getD (gIx l f w+j) default=l[gIx l f w+j]:=by simp[List.getD,hj2]
  rw[e2] at h3
  rcases zlu l[gIx l f w+j] ⟨f,w,0⟩ with h|h|h
  ·have:=order_lt.2 h;omega
  ·exfalso
   have hk:gIx l f w<l.length:=by omega
   have h4:=zib hs (Nat.le_refl _) hk (f:=f) (w:=w)
   have e3:l.getD (gIx l f w) default=l[gIx l f w]:=by simp[List.getD,hk]
   rcases Nat.eq_zero_or_pos j with rfl|hpos
   ·have h0:=order_eq.2 h
    apply hh
    unfold hasG
    rw[decide_eq_true hk,e3]
    simpa using h0
   ·have h5:gq l[gIx l f w] l[gIx l f w+j]:=List.pairwise_iff_getElem.1 hs _ _ hk hj2 (by omega)
    have h6:=order_lt.2 (sj h5 h)
    rw[e3] at h4
    omega
  ·exact h
theorem qp (hs:ec l):ec (putG l f w r):=by
 unfold putG ec
 have h1:(l.take (gIx l f w)).Pairwise gq:=List.Pairwise.sublist (List.take_sublist _ _) hs
 have h2:(l.drop (if hasG l f w=true then gIx l f w+1 else gIx l f w)).Pairwise gq:=List.Pairwise.sublist (List.drop_sublist _ _) hs
 have hab:∀ a∈l.take (gIx l f w),∀ b∈l.drop (if hasG l f w=true then gIx l f w+1 else gIx l f w),gq a b:=fun a ha b hb=>qh (tc ha) (qe hs hb)
 by_cases h0:r=0
 ·rw[if_pos h0,List.append_nil]
  exact List.pairwise_append.2 ⟨h1,h2,hab⟩
 ·rw[if_neg h0,List.append_assoc]
  refine List.pairwise_append.2 ⟨h1, ?_, ?_⟩
  ·rw[List.singleton_append]
   exact List.pairwise_cons.2 ⟨fun b hb=>qe hs hb,h2⟩
  ·intro a ha b hb
   rw[List.singleton_append] at hb
   rcases List.mem_cons.1 hb with rfl|hb
   ·exact tc ha
   ·exact hab a ha b hb
theorem lm {a b:Grant} (h:gq a b):¬ uf a b:=fun h2=>by
 unfold gq at h;unfold uf at h2
 rw[h2.1,h2.2] at h
 rcases h with h | ⟨_,h⟩<;>exact List.lt_irrefl _ h
theorem fi (hs:ec l) {x:Grant}:x∈putG l f w r↔(¬ r=0∧x=⟨f,w,r⟩)∨(x∈l∧¬ uf x ⟨f,w,0⟩):=by
 have hmid:x∈(if r=0 then [] else [(⟨f,w,r⟩:Grant)])↔¬ r=0∧x=⟨f,w,r⟩:=by
  by_cases h0:r=0<;>simp[h0]
 unfold putG
 rw[List.mem_append,List.mem_append,hmid]
 constructor
 ·rintro ((h|h)|h)
  ·exact .inr ⟨List.mem_of_mem_take h,lm (tc h)⟩
  ·exact .inl h
  ·refine .inr ⟨List.mem_of_mem_drop h,fun h2=>?_⟩
   exact zeg _ (sj (qe hs h) h2)
 ·rintro (h | ⟨h,hn⟩)
  ·exact .inl (.inr h)
  ·by_cases hh:hasG l f w=true
   ·rw[if_pos hh]
    have h1:gIx l f w<l.length∧ky (l.getD (gIx l f w) default) ⟨f,w,0⟩=0:=by simpa [hasG] using hh
    rw[zry h1.1] at h
    rcases List.mem_append.1 h with h|h
    ·exact .inl (.inl h)
    ·rcases List.mem_cons.1 h with rfl|h
     ·exact absurd (order_eq.1 h1.2) hn
     ·exact .inr h
   ·rw[if_neg hh]
    rw[← List.take_append_drop (gIx l f w) l] at h
    rcases List.mem_append.1 h with h|h
    ·exact .inl (.inl h)
    ·exact .inr h
theorem zck (hs:ec l) {g:Grant} (hg:g∈l) (hi:isG f w g=true):dm l f w=g.right:=by
 unfold dm
 cases hf:l.find? (isG f w) with
 | none=>rw[List.find?_eq_none] at hf;exact absurd hi (hf g hg)
 | some x =>
   have hx:=List.mem_of_find?_eq_some hf
   have hxi:=List.find?_some hf
   have:x=g:=by
    obtain⟨i,h1,rfl⟩:=List.getElem_of_mem hx
    obtain⟨j,h2,rfl⟩:=List.getElem_of_mem hg
    have hsm:uf l[i] l[j]:=by
     simp only[isG,Bool.and_eq_true,decide_eq_true_eq] at hi hxi
     exact⟨hxi.1.trans hi.1.symm,hxi.2.trans hi.2.symm⟩
    rcases Nat.lt_trichotomy i j with h|h|h
    ·exact absurd hsm (lm (List.pairwise_iff_getElem.1 hs _ _ h1 h2 h))
    ·subst h;rfl
    ·exact absurd ⟨hsm.1.symm,hsm.2.symm⟩ (lm (List.pairwise_iff_getElem.1 hs _ _ h2 h1 h))
   rw[this]
theorem vq (h:∀ g∈l,¬ isG f w g=true):dm l f w=0:=by
 unfold dm
 rw[List.find?_eq_none.2 h]
theorem yy (hs:ec l) {f' w':Str} (hne:¬ (f'=f∧w'=w)):dm (putG l f w r) f' w'=dm l f' w':=by
 by_cases h:∃ g∈l,isG f' w' g=true
 ·obtain⟨g,hg,hi⟩:=h
  rw[zck hs hg hi]
  refine zck (qp hs) ((fi hs).2 (.inr ⟨hg,fun h2=>hne ?_⟩)) hi
  simp only[isG,Bool.and_eq_true,decide_eq_true_eq] at hi
  exact⟨hi.1.symm.trans h2.1,hi.2.symm.trans h2.2⟩
 ·have hn:∀ g∈l,¬ isG f' w' g=true:=fun g hg hi=>h ⟨g,hg,hi⟩
  rw[vq hn,vq]
  intro g hg hi
  rcases (fi hs).1 hg with ⟨_,rfl⟩ | ⟨h1,_⟩
  ·simp only[isG,Bool.and_eq_true,decide_eq_true_eq] at hi
   exact hne ⟨hi.1.symm,hi.2.symm⟩
  ·exact hn g h1 hi
structure Given (l:List Grant) (f b w:Str) (r:Int):Prop where
 names:(ba f && ba b && ba w)=true
 range:0≤r∧r≤3
 may:dm l f b=3∨b=w∧r=0
 own:((putG l f w r).any fun g=>decide (g.folder=f) && decide (g.right=3))=true
 len:(putG l f w r).length≤60
theorem zlg {b:Str} (h:ed l f b w r=0):Given l f b w r:=by
 unfold ed at h
 constructor<;>grind
theorem zxa (hg:GoodG l) {b:Str} (h:Given l f b w r):GoodG (putG l f w r):=by
 refine⟨h.len,fun g hx=>?_,qp hg.rise, ?_⟩
 ·rcases (fi hg.rise).1 hx with ⟨h0,rfl⟩ | ⟨h1,_⟩
  ·have hn:=h.names
   have hr:=h.range
   simp only[Bool.and_eq_true] at hn
   unfold gErr
   rw[if_neg (by simp[hn.1.1,hn.2]),if_neg (by dsimp only;omega)]
  ·exact hg.each g h1
 ·unfold mg
  rw[List.all_eq_true]
  intro g hx
  by_cases hf:g.folder=f
  ·rw[hf];exact h.own
  ·rcases (fi hg.rise).1 hx with ⟨h0,rfl⟩ | ⟨h1,_⟩
   ·exact absurd rfl hf
   ·have:=hg.own
    unfold mg at this
    rw[List.all_eq_true] at this
    obtain⟨x,h2,h3⟩:=List.any_eq_true.1 (this g h1)
    simp only[Bool.and_eq_true,decide_eq_true_eq] at h3
    refine List.any_eq_true.2 ⟨x,(fi hg.rise).2 (.inr ⟨h2,fun h4=>hf ?_⟩),by simp[h3]⟩
    rw[← h3.1];exact h4.1
end
end Tether
namespace Tether
theorem nc {s:Str} (h:ba s=true):s.length≤20:=by
 unfold ba at h
 simp only[Bool.and_eq_true,Bool.not_eq_true',Bool.or_eq_false_iff,decide_eq_false_iff_not] at h
 have:=h.1.1.1.1.2
 omega
theorem zlb {g:Grant} (h:gErr g=0):ba g.folder=true∧ba g.who=true∧1≤g.right∧g.right≤3:=by
 unfold gErr at h;grind
theorem GoodG.ok {l:List Grant} (h:GoodG l):okG l:=by
 have:=h.len
 refine⟨by omega,fun g hg=>?_⟩
 obtain⟨h1,h2,_⟩:=zlb (h.each g hg)
 have:=nc h1
 have:=nc h2
 omega
end Tether
end
section
open Go Go.VM
namespace Tether
theorem wq {n:Int} (h1 : -9223372036854775808≤n) (h2:n≤9223372036854775807):wrap n=n:=by
 simp only[wrap,IntKind.wrap_i64]
 omega
def sumW (who:Str):List Session→Int
 | []=>0
 | s::l=>(if s.who=who then s.size else 0)+sumW who l
theorem sv {who:Str}:∀ {l:List Session},(∀ s∈l,0≤s.size∧s.size≤300)→0≤sumW who l∧sumW who l≤300*(l.length:Int)
 | [],_=>by simp[sumW]
 | s::l,h=>by
   have h1:=sv (who:=who) (l:=l) fun x hx=>h x (List.mem_cons_of_mem _ hx)
   have h2:=h s (List.mem_cons.2 (Or.inl rfl))
   simp only[sumW,List.length_cons]
   split<;>omega
theorem vc {who:Str}:∀ (l:List Session) (a:Int),0≤a→(∀ s∈l,0≤s.size∧s.size≤300)→a+300*(l.length:Int)≤1099511627776 →
  l.foldl (fun n s=>if s.who=who then wrap (n+s.size) else n) a=a+sumW who l
 | [],a,_,_,_=>by simp[sumW]
 | s::l,a,h0,h,hb=>by
   have h2:=h s (List.mem_cons.2 (Or.inl rfl))
   have h3:∀ x∈l,0≤x.size∧x.size≤300:=fun x hx=>h x (List.mem_cons_of_mem _ hx)
   simp only[List.length_cons] at hb
   simp only[List.foldl_cons,sumW]
   split
   ·rw[wq (by omega) (by omega),vc l _ (by omega) h3 (by omega)]
    omega
   ·rw[vc l a h0 h3 (by omega)]
    omega
theorem wt {who:Str} {l:List Session} (h:∀ s∈l,0≤s.size∧s.size≤300) (hl:l.length≤1000):iy l who=sumW who l:=by
 unfold iy
 rw[vc l 0 (by omega) h (by omega)]
 omega
theorem ng {who:Str} (l m:List Session):sumW who (l++m)=sumW who l+sumW who m:=by
 induction l with
 | nil=>simp[sumW]
 | cons s l ih=>simp only[List.cons_append,sumW,ih];omega
theorem vg {who:Str} {p:Session→Bool}:∀ {l:List Session},(∀ s∈l,0≤s.size)→sumW who (l.filter p)≤sumW who l
 | [],_=>by simp[sumW]
 | s::l,h=>by
   have h1:=vg (who:=who) (p:=p) (l:=l) fun x hx=>h x (List.mem_cons_of_mem _ hx)
   have h2:=h s (List.mem_cons.2 (Or.inl rfl))
   rw[List.filter_cons]
   split
   ·simp only[sumW];omega
   ·simp only[sumW];split<;>omega
theorem sessErr_iff {u:Uploads} {s:Session}:db u s=0↔(1≤s.num∧s.num≤wrap (u.next-1))∧(0≤s.size∧s.size≤300)∧(0≤s.till∧s.till≤2199023255552)∧ba s.who=true∧(s.text.length:Int)≤s.size:=by
 unfold db
 constructor
 ·intro h
  split at h
  ·simp at h
  rename_i h1
  split at h
  ·simp at h
  rename_i h2
  split at h
  ·simp at h
  rename_i h3
  simp only[Bool.or_eq_true,Bool.not_eq_true',not_or,Bool.not_eq_false,within_iff] at h1
  exact⟨h1.1.1,h1.1.2,h1.2,by simpa using h2,by omega⟩
 ·rintro⟨h1,h2,h3,h4,h5⟩
  rw[if_neg,if_neg (by simp[h4]),if_neg (by omega)]
  simp[within_iff.2 h1,within_iff.2 h2,within_iff.2 h3]
theorem rises_iff {l:List Session}:((List.range l.length).all fun i=>i=0 || gb l i)=true↔l.Pairwise fun a b=>a.num<b.num:=by
 rw[List.all_eq_true]
 constructor
 ·intro h
  have step:∀ j,j+1<l.length→(l.getD j default).num<(l.getD (j+1) default).num:=fun j hj=>by
   have:=h (j+1) (List.mem_range.2 hj)
   simpa [gb] using this
  have key:∀ j i,i<j→j<l.length→(l.getD i default).num<(l.getD j default).num:=by
   intro j
   induction j with
   | zero=>intro i hi;omega
   | succ j ih =>
     intro i hi hj
     rcases Nat.lt_or_ge i j with h1|h1
     ·exact Int.lt_trans (ih i h1 (by omega)) (step j hj)
     ·obtain rfl:i=j:=by omega
      exact step i hj
  rw[List.pairwise_iff_getElem]
  intro i j hi hj hij
  have:=key j i hij hj
  simpa [List.getD,hi,hj] using this
 ·intro h i hi
  have hi:=List.mem_range.1 hi
  by_cases h0:i=0
  ·simp[h0]
  ·rw[List.pairwise_iff_getElem] at h
   have:=h (i-1) i (by omega) hi (by omega)
   simp[gb,List.getD,hi,show i-1<l.length by omega,this]
theorem firstErr_zerO {α:Type} {f:α→Int} {l:List α}:bh f l=0↔∀ x∈l,f x=0:=by
 induction l with
 | nil=>simp[bh]
 | cons x l ih =>
   simp only[bh,List.mem_cons,forall_eq_or_imp]
   split
   ·rename_i h;exact⟨fun h'=>absurd h' h,fun h'=>absurd h'.1 h⟩
   ·rename_i h
    rw[ih]
    exact⟨fun h'=>⟨by simpa using h,h'⟩,fun h'=>h'.2⟩
structure GoodU (u:Uploads):Prop where
 lasts:1≤u.lasts∧u.lasts≤1000000
 room:0≤u.room∧u.room≤100000
 next:1≤u.next∧u.next≤1099511627776
 len:u.ss.length≤20
 sess:∀ s∈u.ss,db u s=0
 rise:u.ss.Pairwise fun a b=>a.num<b.num
 sums:∀ s∈u.ss,sumW s.who u.ss≤u.room
theorem GoodU.sizes {u:Uploads} (h:GoodU u):∀ s∈u.ss,0≤s.size∧s.size≤300:=fun s hs=>(sessErr_iff.1 (h.sess s hs)).2.1
theorem checkU_iff {u:Uploads}:dj u=0↔GoodU u:=by
 constructor
 ·intro h
  obtain⟨h1,h2,h3,h4,h5⟩:=xh h
  have hz:∀ s∈u.ss,0≤s.size∧s.size≤300:=fun s hs=>(sessErr_iff.1 (h5 s hs)).2.1
  unfold dj at h
  split at h
  ·simp at h
  split at h
  ·simp at h
  split at h
  ·rename_i h3;exact absurd h h3
  split at h
  ·simp at h
  rename_i h6
  split at h
  ·simp at h
  rename_i h7
  refine⟨h1,h2,h3,h4,h5,rises_iff.1 (eq_true_of_ne_false h6),fun s hs=>?_⟩
  have:=(List.all_eq_true.1 (eq_true_of_ne_false h7)) s hs
  rw[wt hz (by omega)] at this
  simpa using this
 ·intro h
  have h3:=firstErr_zerO.2 h.sess
  unfold dj
  rw[if_neg,if_neg,if_neg,if_neg,if_neg]
  ·have:(u.ss.all fun s=>decide (iy u.ss s.who≤u.room))=true:=List.all_eq_true.2 fun s hs=>by
    rw[wt h.sizes (by have:=h.len;omega)]
    simpa using h.sums s hs
   simp[this]
  ·rw[rises_iff.2 h.rise];simp
  ·simp[h3]
  ·have:=h.len;omega
  ·simp[within_iff.2 h.lasts,within_iff.2 h.room,within_iff.2 h.next]
theorem GoodU.swept {u:Uploads} (h:GoodU u) (now:Int):GoodU (swept u now) where
 lasts:=h.lasts
 room:=h.room
 next:=h.next
 len:=Nat.le_trans (List.length_filter_le _ _) h.len
 sess:=fun s hs=>h.sess s (List.mem_filter.1 hs).1
 rise:=h.rise.filter _
 sums:=fun s hs=>Int.le_trans (vg fun x hx=>(h.sizes x hx).1) (h.sums s (List.mem_filter.1 hs).1)
structure Opened (u:Uploads) (who:Str) (size now:Int) (x:Uploads):Prop where
 hnow:0≤now∧now≤1099511627776
 hname:ba who=true
 good:GoodU u
 hsize:0≤size∧size≤300
 next:u.next<1099511627776
 ss:x.ss=(swept u now).ss++[⟨u.next,who,[],size,now+u.lasts⟩]
 rest:x.next=u.next+1∧x.lasts=u.lasts∧x.room=u.room
 out:(ip u who size now).1=x∧(ip u who size now).2.1=u.next∧(ip u who size now).2.2=0
 goodx:GoodU x
theorem opened {u:Uploads} {who:Str} {size now:Int} (h:fb u who size now=0):∃ x,Opened u who size now x:=by
 have ho:ip u who size now=({ swept u now with ss:=(swept u now).ss++[⟨u.next,who,[],size,now+u.lasts⟩],next:=u.next+1 },u.next,0):=if_pos h
 unfold fb at h
 split at h
 ·rename_i h1;exact absurd h h1
 rename_i h1
 split at h
 ·simp at h
 rename_i h2
 split at h
 ·simp at h
 rename_i h3
 split at h
 ·simp at h
 rename_i h4
 split at h
 ·simp at h
 rename_i h5
 obtain⟨hc,hn⟩:=ni (u:=u) (now:=now) (by simpa using h1)
 have hg:=checkU_iff.1 hc
 have hs:=hg.swept now
 have hl:=hs.len
 have hsz:0≤size∧size≤300:=within_iff.1 (by have:=not_or.1 h3;simpa using this.1)
 have hnx:u.next<1099511627776:=by have:=(not_or.1 h3).2;have:=hg.next;omega
 have hnm:ba who=true:=by simpa using h2
 have hsum:sumW who (swept u now).ss+size≤u.room:=by
  rw[wt hs.sizes (by omega)] at h5
  have:=sv (who:=who) hs.sizes
  rw[wq (by omega) (by omega)] at h5
  omega
 refine⟨Uploads.mk ((swept u now).ss++[⟨u.next,who,[],size,now+u.lasts⟩]) (u.next+1) u.lasts u.room,hn,hnm,hg,hsz,hnx,rfl,⟨rfl,rfl,rfl⟩,⟨congrArg Prod.fst ho,congrArg (fun p=>p.2.1) ho,congrArg (fun p=>p.2.2) ho⟩, ?_⟩
 have hw1:wrap (u.next-1)=u.next-1:=wq (by have:=hg.next;omega) (by omega)
 have hw2:wrap (u.next+1-1)=u.next:=by rw[wq (by have:=hg.next;omega) (by omega)];omega
 have hnum:∀ s∈(swept u now).ss,s.num<u.next:=fun s hm=>by
  have:=(sessErr_iff.1 (hg.sess s (List.mem_filter.1 hm).1)).1
  rw[hw1] at this
  omega
 refine⟨hg.lasts,hg.room, ?_, ?_, ?_, ?_, ?_⟩
 ·have:=hg.next
  show 1≤u.next+1∧u.next+1≤_
  omega
 ·simp only[List.length_append,List.length_cons,List.length_nil]
  omega
 ·intro s hm
  rw[sessErr_iff]
  show (1≤s.num∧s.num≤wrap (u.next+1-1))∧_
  rw[hw2]
  rcases List.mem_append.1 hm with hm|hm
  ·obtain⟨h6,h7⟩:=sessErr_iff.1 (hs.sess s hm)
   exact⟨⟨h6.1,Int.le_of_lt (hnum s hm)⟩,h7⟩
  ·obtain rfl:=List.mem_singleton.1 hm
   refine⟨⟨hg.next.1,Int.le_refl _⟩,hsz, ?_,hnm,by simpa using hsz.1⟩
   have:=hg.lasts
   show 0≤now+u.lasts∧now+u.lasts≤_
   omega
 ·rw[List.pairwise_append]
  refine⟨hs.rise,by simp,fun a ha b hb=>?_⟩
  obtain rfl:=List.mem_singleton.1 hb
  exact hnum a ha
 ·intro s hm
  show sumW s.who ((swept u now).ss++_)≤u.room
  rw[ng]
  simp only[sumW]
  rcases List.mem_append.1 hm with hm|hm
  ·have:=hs.sums s hm
   have hr:(swept u now).room=u.room:=rfl
   split
   ·rename_i he
    rw[← he]
    omega
   ·omega
  ·obtain rfl:=List.mem_singleton.1 hm
   simp only[if_true]
   omega
theorem oa {α:Type} {p:α→Bool} {l m:List α} (h:∀ x∈l,p x=false) (hm:∀ x∈m,p x=false):idxF p (l++m) = -1:=by
 unfold idxF
 rw[List.findIdx?_eq_none_iff.2]
 intro x hx
 rcases List.mem_append.1 hx with hx|hx
 ·exact h x hx
 ·exact hm x hx
theorem Opened.num {u x:Uploads} {who:Str} {size now:Int} (h:Opened u who size now x):∀ s∈(swept u now).ss,s.num≠u.next:=fun s hs=>by
 have:=(sessErr_iff.1 ((h.good.swept now).sess s hs)).1
 rw[yq,wq (by have:=h.good.next;omega) (by have:=h.good.next;omega)] at this
 omega
theorem Opened.begin {u x:Uploads} {who:Str} {size now:Int} (h:Opened u who size now x) {t:Int} (h0:0≤t) (h1:t≤1099511627776):cz x t=0:=by
 unfold cz
 rw[if_neg (by simpa using checkU_iff.2 h.goodx),if_neg (by simp[within_iff.2 ⟨h0,h1⟩])]
theorem Opened.other {u x:Uploads} {who other:Str} {size now:Int} (h:Opened u who size now x):(la x other u.next now).2=1∨((la x other u.next now).2=0↔other=who):=by
 have hb:=h.begin h.hnow.1 h.hnow.2
 have hq:(la x other u.next now).2=ck x other u.next now:=by
  unfold la
  split
  ·rename_i e;simp[e]
  ·rfl
 rw[hq]
 by_cases hn:ba other=false
 ·exact Or.inl (zqy hb hn)
 right
 have hsw:(swept x now).ss=(swept u now).ss++[⟨u.next,who,[],size,now+u.lasts⟩]:=by
  show x.ss.filter _=_
  rw[h.ss,List.filter_append]
  have hl:=h.good.lasts
  have:¬ now+u.lasts<now:=by omega
  congr 1
  ·show (u.ss.filter _).filter _=_
   rw[List.filter_filter]
   simp[swept]
  ·simp[this]
 by_cases he:other=who
 ·subst he
  have:¬ dv x other u.next now<0:=by
   unfold dv
   rw[hsw,qr (i:=(swept u now).ss.length) (d:=default) (by simp)]
   ·omega
   ·intro j hj
    have hm:((swept u now).ss++[Session.mk u.next other [] size (now+u.lasts)]).getD j default∈(swept u now).ss:=by
     have e:((swept u now).ss++[Session.mk u.next other [] size (now+u.lasts)]).getD j default=(swept u now).ss.getD j default:=by
      simp[List.getD,List.getElem?_append_left hj]
     rw[e];exact bj hj
    unfold rt
    rw[decide_eq_false (h.num _ hm),Bool.false_and]
   ·simp[List.getD,rt]
  simp[zqg hb hn this]
 ·have:dv x other u.next now<0:=by
   unfold dv
   rw[hsw,oa]
   ·decide
   ·intro s hs;simp[rt,h.num s hs]
   ·intro s hs
    obtain rfl:=List.mem_singleton.1 hs
    simp[rt,Ne.symm he]
  simp[zmt hb hn this,he]
theorem Opened.late {u x:Uploads} {who:Str} {size now:Int} (h:Opened u who size now x):idxF (rt who u.next) (swept x (now+u.lasts+1)).ss = -1:=by
 have hsw:(swept x (now+u.lasts+1)).ss=(swept u now).ss.filter (fun s=>!decide (s.till<now+u.lasts+1)):=by
  show x.ss.filter _=_
  rw[h.ss,List.filter_append]
  have:now+u.lasts<now+u.lasts+1:=by omega
  simp[this]
 rw[hsw]
 have:=oa (p:=rt who u.next) (l:=(swept u now).ss.filter (fun s=>!decide (s.till<now+u.lasts+1))) (m:=[]) (fun s hs=>by simp[rt,h.num s (List.mem_filter.1 hs).1]) (by simp)
 simpa using this
theorem zqk {u:Uploads} {who:Str} {size now:Int} (h:¬ fb u who size now=0):ip u who size now=(yb,0,fb u who size now):=if_neg h
end Tether
end
section
open Go Go.VM Go.Proofs Tether
namespace Go.VM.Tryz
theorem z1c {l:List Grant} {f w:Str} {r:Int}:(putG l f w r).length≤l.length+1:=Gr.ins_len
theorem zou {l:List Grant} {f w:Str} (hg:GoodG l) (he:en l f w=0):GoodG (putG l f w 3):=by
 have hn:(ba f && ba w)=true:=by unfold en at he;grind
 have hno:(l.any fun g=>decide (g.folder=f))=false:=by unfold en at he;grind
 have hl:¬ (l.length:Int)=60:=by unfold en at he;grind
 have hlen:=hg.len
 have hpl:=z1c (l:=l) (f:=f) (w:=w) (r:=3)
 simp only[Bool.and_eq_true] at hn
 refine⟨by omega,fun g hx=>?_,qp hg.rise, ?_⟩
 ·rcases (fi hg.rise).1 hx with ⟨_,rfl⟩ | ⟨h1,_⟩
  ·unfold gErr
   rw[if_neg (by simp[hn.1,hn.2]),if_neg (by dsimp only;omega)]
  ·exact hg.each g h1
 ·unfold mg
  rw[List.all_eq_true]
  intro g hx
  rcases (fi hg.rise).1 hx with ⟨_,rfl⟩ | ⟨h1,_⟩
  ·exact List.any_eq_true.2 ⟨⟨f,w,3⟩,(fi hg.rise).2 (.inl ⟨by decide,rfl⟩),by simp⟩
  ·have:=hg.own
   unfold mg at this
   rw[List.all_eq_true] at this
   obtain⟨x,h2,h3⟩:=List.any_eq_true.1 (this g h1)
   refine List.any_eq_true.2 ⟨x,(fi hg.rise).2 (.inr ⟨h2,fun h4=>?_⟩),h3⟩
   have:=List.any_eq_false.1 hno x h2
   exact this (by simpa using h4.1)
theorem zhd {who:Str}:∀ {l:List Session} {i:Nat} {s:Session},(l.getD i default).who=s.who→(l.getD i default).size=s.size→sumW who (l.set i s)=sumW who l
 | [],i,s,_,_=>by simp
 | x::l,0,s,h1,h2=>by
   have h1:x.who=s.who:=h1
   have h2:x.size=s.size:=h2
   simp only[List.set_cons_zero,sumW,h1,h2]
 | x::l,i+1,s,h1,h2=>by
   have ih:=zhd (who:=who) (l:=l) (i:=i) (s:=s) (by simpa using h1) (by simpa using h2)
   simp only[List.set_cons_succ,sumW,ih]
theorem zfd {u:Uploads} {who text:Str} {number offset now:Int} (g:GoodU u) (he:(bz u who number offset text now).2.2=0):GoodU (bz u who number offset text now).1:=by
 have hm:ck u who number now=0:=by
  refine Classical.byContradiction fun hm=>?_
  rw[bz,if_neg hm] at he
  exact hm he
 obtain⟨hb,_,_⟩:=jx hm
 obtain⟨_,n1,n2⟩:=ni hb
 obtain⟨i1,i2⟩:=nb hm
 have gs:=g.swept now
 rw[bz,if_pos hm] at he ⊢
 dsimp only at he ⊢
 generalize hi:(dv u who number now).toNat=i at he ⊢
 have hil:i<(swept u now).ss.length:=by omega
 generalize hs:(swept u now).ss.getD i default=s at he ⊢
 have hsm:s∈(swept u now).ss:=by rw[← hs];exact bj hil
 split
 ·exact gs
 ·split
  ·rename_i h1 h2
   rw[if_neg h1,if_pos h2] at he
   simp at he
  ·split
   ·rename_i h1 h2 h3
    rw[if_neg h1,if_neg h2,if_pos h3] at he
    simp at he
   ·rename_i h1 h2 h3
    have hse:=(sessErr_iff.1 (gs.sess s hsm))
    have hl:=g.lasts
    have hnum:((swept u now).ss.set i ⟨s.num,s.who,s.text++text,s.size,now+u.lasts⟩).map (·.num)=(swept u now).ss.map (·.num):=by
     apply List.ext_getElem
     ·simp
     ·intro j hj hj'
      simp only[List.getElem_map,List.getElem_set]
      split
      ·rename_i e
       subst e
       have:s=(swept u now).ss[i]:=by rw[← hs];simp[List.getD,hil]
       rw[← this]
      ·rfl
    refine⟨g.lasts,g.room,g.next,by simpa using gs.len,fun x hx=>?_, ?_,fun x hx=>?_⟩
    ·rcases List.mem_or_eq_of_mem_set hx with h|rfl
     ·exact gs.sess x h
     ·refine sessErr_iff.2 ⟨hse.1,hse.2.1,⟨by show 0≤now+u.lasts;omega,by show now+u.lasts≤_;omega⟩,hse.2.2.2.1, ?_⟩
      show ((s.text++text).length:Int)≤s.size
      simp
      omega
    ·have:=gs.rise
     rw[← List.pairwise_map (f:=fun s:Session=>s.num) (R:=fun a b=>a<b)] at this ⊢
     rw[hnum]
     exact this
    ·rw[zhd (by rw[hs]) (by rw[hs])]
     rcases List.mem_or_eq_of_mem_set hx with h|rfl
     ·exact gs.sums x h
     ·exact gs.sums s hsm
theorem zge {u:Uploads} {who:Str} {number now:Int} (g:GoodU u) (he:(fd u who number now).2.2=0):GoodU (fd u who number now).1:=by
 have hm:ck u who number now=0:=by
  refine Classical.byContradiction fun hm=>?_
  rw[fd,if_neg hm] at he
  exact hm he
 obtain⟨i1,i2⟩:=nb hm
 have gs:=g.swept now
 rw[fd,if_pos hm] at he ⊢
 dsimp only at he ⊢
 generalize hi:(dv u who number now).toNat=i at he ⊢
 have hil:i<(swept u now).ss.length:=by omega
 split
 ·rename_i h1
  rw[if_pos h1] at he
  simp at he
 ·have hsub:((swept u now).ss.take i++(swept u now).ss.drop (i+1)).Sublist (swept u now).ss:=by
   have:=List.eraseIdx_sublist (swept u now).ss i
   rwa [List.eraseIdx_eq_take_drop_succ] at this
  have hsplit:(swept u now).ss=(swept u now).ss.take i++([(swept u now).ss[i]]++(swept u now).ss.drop (i+1)):=by
   rw[List.singleton_append,← List.drop_eq_getElem_cons hil,List.take_append_drop]
  refine⟨g.lasts,g.room,g.next,Nat.le_trans hsub.length_le gs.len,fun x hx=>gs.sess x (hsub.subset hx),gs.rise.sublist hsub,fun x hx=>?_⟩
  have h0:=gs.sums x (hsub.subset hx)
  have h1:sumW x.who (swept u now).ss=sumW x.who ((swept u now).ss.take i)+(sumW x.who [(swept u now).ss[i]]+sumW x.who ((swept u now).ss.drop (i+1))):=by
   conv=>lhs;rw[hsplit]
   rw[ng,ng]
  have h2:=(sv (who:=x.who) (l:=[(swept u now).ss[i]]) (fun s hs=>by rw[List.mem_singleton.1 hs];exact gs.sizes _ (List.getElem_mem hil))).1
  show sumW x.who ((swept u now).ss.take i++(swept u now).ss.drop (i+1))≤u.room
  rw[ng]
  have:sumW x.who (swept u now).ss≤u.room:=h0
  omega
end Go.VM.Tryz
end
section
open Go Go.VM Go.Proofs Tether
namespace Go.VM.Tryz
theorem matched_iff {h:Hub}:gm h=true↔(∀ g∈h.grants,g.folder∈jq h.folders)∧∀ n∈jq h.folders,∃ g∈h.grants,g.folder=n:=by
 unfold gm jq
 rw[Bool.and_eq_true,List.all_eq_true,List.all_eq_true]
 constructor
 ·rintro⟨h1,h2⟩
  refine⟨fun g hg=>?_,fun n hn=>?_⟩
  ·obtain⟨s,hs,e⟩:=List.any_eq_true.1 (h1 g hg)
   exact List.mem_map.2 ⟨s,hs,by simpa using e⟩
  ·obtain⟨s,hs,rfl⟩:=List.mem_map.1 hn
   obtain⟨g,hg,e⟩:=List.any_eq_true.1 (h2 s hs)
   exact⟨g,hg,by simpa using e⟩
 ·rintro⟨h1,h2⟩
  refine⟨fun g hg=>?_,fun s hs=>?_⟩
  ·obtain⟨s,hs,e⟩:=List.mem_map.1 (h1 g hg)
   exact List.any_eq_true.2 ⟨s,hs,by simp[e]⟩
  ·obtain⟨g,hg,e⟩:=h2 s.name (List.mem_map_of_mem hs)
   exact List.any_eq_true.2 ⟨g,hg,by simp[e]⟩
theorem sg {l:List Shared} (hs:fo l) {p:Str}:hasF l p=true↔p∈jq l:=by
 rw[ld hs]
 unfold jq
 rw[List.mem_map]
theorem zsd (h:Hub) (r:Request) (hn:hasF h.folders r.folder=false):(newF h r).map keyE=putE (h.folders.map keyE) ⟨r.folder,false,[],0⟩:=by
 have hn':¬ hasE (h.folders.map keyE) r.folder=true:=by rw[show hasE (h.folders.map keyE) r.folder=hasF h.folders r.folder from rfl,hn];decide
 rw[putE,if_neg hn']
 simp only[newF,List.map_append,List.map_cons,List.map_take,List.map_drop]
 rfl
theorem newF_mem {h:Hub} {r:Request} {s:Shared}:s∈newF h r↔s=⟨r.folder,⟨[],1,[]⟩⟩∨s∈h.folders:=by
 unfold newF
 have:=List.take_append_drop (fIx h.folders r.folder) h.folders
 constructor
 ·intro hs
  rcases List.mem_append.1 hs with h1|h1
  ·exact .inr (List.mem_of_mem_take h1)
  ·rcases List.mem_cons.1 h1 with h1|h1
   ·exact .inl h1
   ·exact .inr (List.mem_of_mem_drop h1)
 ·rintro (rfl|hs)
  ·simp
  ·rw[← this] at hs
   rcases List.mem_append.1 hs with h1|h1
   ·exact List.mem_append.2 (.inl h1)
   ·exact List.mem_append.2 (.inr (List.mem_cons_of_mem _ h1))
theorem zf {h:Hub} {r:Request} (g:GoodH h) (he:creE h r=0):en h.grants r.folder r.who=0∧(Gr.makeG h.grants r.folder r.who).1=putG h.grants r.folder r.who 3∧h.folders.length≠8∧hasF h.folders r.folder=false∧ba r.folder=true:=by
 have h0:(Gr.makeG h.grants r.folder r.who).2=0:=by unfold creE at he;grind
 have h8:¬ h.folders.length=8:=by unfold creE at he;grind
 have hm:en h.grants r.folder r.who=0:=by
  refine Classical.byContradiction fun hm=>?_
  rw[zho g.grants,Gr.makeO,if_neg hm] at h0
  exact hm h0
 have hno:(h.grants.any fun g=>decide (g.folder=r.folder))=false:=by unfold en at hm;grind
 have hnm:ba r.folder=true:=by unfold en at hm;grind
 refine⟨hm,by rw[zho g.grants,Gr.makeO,if_pos hm],h8, ?_,hnm⟩
 cases hh:hasF h.folders r.folder with
 | false=>rfl
 | true =>
   exfalso
   obtain⟨x,hx,e⟩:=(matched_iff.1 g.matched).2 _ ((sg g.sorted).1 hh)
   have:=List.any_eq_false.1 hno x hx
   exact this (by simpa using e)
theorem zhg {h:Hub} {r:Request} (g:GoodH h) (he:creE h r=0):GoodH (creH h r):=by
 obtain⟨f1,f2,f3,f4,f5⟩:=zf g he
 have hl:=g.len
 have hm:=matched_iff.1 g.matched
 have hix:=zpw h.folders r.folder
 refine⟨g.now, ?_,fun s hs=>?_, ?_, ?_, ?_,g.ups⟩
 ·show (newF h r).length≤8
  simp[newF]
  omega
 ·rcases newF_mem.1 hs with rfl|hs
  ·exact⟨f5,show (bl ⟨[],1,[]⟩).2=0 by decide +kernel⟩
  ·exact g.each s hs
 ·show bo ((newF h r).map keyE)
  rw[zsd h r f4]
  exact fq g.sorted _
 ·show eo (Gr.makeG h.grants r.folder r.who).1=0
  rw[f2]
  exact checkG_iff.2 (zou (checkG_iff.1 g.grants) f1)
 ·rw[matched_iff]
  show (∀ x∈(Gr.makeG h.grants r.folder r.who).1,x.folder∈jq (newF h r))∧∀ n∈jq (newF h r),∃ x∈(Gr.makeG h.grants r.folder r.who).1,x.folder=n
  rw[f2]
  refine⟨fun x hx=>?_,fun n hn=>?_⟩
  ·rcases (fi g.gsorted).1 hx with ⟨_,rfl⟩ | ⟨h1,_⟩
   ·exact List.mem_map.2 ⟨⟨r.folder,⟨[],1,[]⟩⟩,newF_mem.2 (.inl rfl),rfl⟩
   ·obtain⟨s,hs,e⟩:=List.mem_map.1 (hm.1 x h1)
    exact List.mem_map.2 ⟨s,newF_mem.2 (.inr hs),e⟩
  ·obtain⟨s,hs,rfl⟩:=List.mem_map.1 hn
   rcases newF_mem.1 hs with rfl|hs
   ·exact⟨⟨r.folder,r.who,3⟩,(fi g.gsorted).2 (.inl ⟨by decide,rfl⟩),rfl⟩
   ·obtain⟨x,hx,e⟩:=hm.2 s.name (List.mem_map_of_mem hs)
    refine⟨x,(fi g.gsorted).2 (.inr ⟨hx,fun h4=>?_⟩),e⟩
    have:hasF h.folders r.folder=true:=(sg g.sorted).2 (by have e4:x.folder=r.folder:=h4.1;rw[← e4,e];exact List.mem_map_of_mem hs)
    rw[f4] at this
    cases this
theorem ne {h:Hub} {r:Request} (g:GoodH h) (he:qj h r=0):ed h.grants r.folder r.who r.name r.number=0∧qs h r = { h with grants:=putG h.grants r.folder r.name r.number }∧hasF h.folders r.folder=true:=by
 have h1:mayE h r 1=0:=by
  refine Classical.byContradiction fun h1=>?_
  rw[qj,if_pos h1] at he
  exact h1 he
 have h2:(Gr.giveG h.grants r.folder r.who r.name r.number).2=0:=by rwa [qj,if_neg (by simpa using h1)] at he
 have h3:ed h.grants r.folder r.who r.name r.number=0:=by
  refine Classical.byContradiction fun hm=>?_
  rw[zhy g.grants,Gr.giveO,if_neg hm] at h2
  exact hm h2
 exact⟨h3,by rw[qs,if_pos he,zhy g.grants,Gr.giveO,if_pos h3],gn g (Int.le_refl 1) h1⟩
theorem zpm {h:Hub} {r:Request} (g:GoodH h):GoodH (qs h r):=by
 by_cases he:qj h r=0
 ·obtain⟨f1,f2,f3⟩:=ne g he
  have hgv:=zlg f1
  have hm:=matched_iff.1 g.matched
  rw[f2]
  refine⟨g.now,g.len,g.each,g.sorted,checkG_iff.2 (zxa (checkG_iff.1 g.grants) hgv), ?_,g.ups⟩
  rw[matched_iff]
  refine⟨fun x hx=>?_,fun n hn=>?_⟩
  ·rcases (fi g.gsorted).1 hx with ⟨_,rfl⟩ | ⟨h1,_⟩
   ·exact (sg g.sorted).1 f3
   ·exact hm.1 x h1
  ·by_cases hf:n=r.folder
   ·subst hf
    obtain⟨x,hx,e⟩:=List.any_eq_true.1 hgv.own
    simp only[Bool.and_eq_true,decide_eq_true_eq] at e
    exact⟨x,hx,e.1⟩
   ·obtain⟨x,hx,e⟩:=hm.2 n hn
    exact⟨x,(fi g.gsorted).2 (.inr ⟨hx,fun h4=>hf (by rw[← e];exact h4.1)⟩),e⟩
 ·rw[qs,if_neg he]
  exact g
theorem zgs {h:Hub} {u:Uploads} {e:Int} (g:GoodH h) (hu:e=0→dj u=0):GoodH (upsH h u e):=by
 unfold upsH
 split
 ·rename_i he
  exact⟨g.now,g.len,g.each,g.sorted,g.grants,matched_iff.2 (matched_iff.1 g.matched),hu he⟩
 ·exact g
theorem uj (h:Hub) (p:Str) (j:Journal):(setJ h p j).folders.map keyE=h.folders.map keyE:=by
 show (h.folders.set _ _).map keyE=_
 apply List.ext_getElem
 ·simp
 ·intro k hk hk'
  simp only[List.getElem_map,List.getElem_set]
  split
  ·rename_i e
   subst e
   have hkl:fIx h.folders p<h.folders.length:=by simpa using hk'
   simp[keyE,List.getD,hkl]
  ·rfl
theorem ziu (h:Hub) (p:Str) (j:Journal):jq (setJ h p j).folders=jq h.folders:=by
 have e:∀ l:List Shared,jq l=(l.map keyE).map (·.path):=fun l=>by simp[jq,keyE,Function.comp_def]
 rw[e,e,uj]
theorem zlz {h:Hub} {p:Str} {j:Journal} (g:GoodH h) (hh:hasF h.folders p=true) (hj:(bl j).2=0):GoodH (setJ h p j):=by
 have hix:fIx h.folders p<h.folders.length:=by rw[lw] at hh;simp at hh;exact hh.1
 refine⟨g.now,by show (h.folders.set _ _).length≤8;simpa using g.len,fun s hs=>?_, ?_,g.grants, ?_,g.ups⟩
 ·rcases List.mem_or_eq_of_mem_set (show s∈h.folders.set _ _ from hs) with h1|rfl
  ·exact g.each s h1
  ·exact⟨(g.each _ (bj hix)).1,hj⟩
 ·show bo ((setJ h p j).folders.map keyE)
  rw[uj]
  exact g.sorted
 ·rw[matched_iff,ziu]
  exact matched_iff.1 g.matched
theorem ur {h:Hub} {r:Request} {l:List Change} (g:GoodH h) (hh:hasF h.folders r.folder=true):GoodH (comH h r l):=by
 unfold comH
 split
 ·rename_i h0
  exact zlz g hh (once h0 l).1
 ·exact g
theorem zto {h:Hub} {r:Request} (g:GoodH h) (hh:hasF h.folders r.folder=true) (he:(finP h r).2.2=0):GoodH (finP h r).1:=by
 unfold finP at he ⊢
 split
 ·exact g
 ·rename_i h1
  dsimp only
  split
  ·have gc:=ur (l:=[finC h r]) g hh
   exact⟨gc.now,gc.len,gc.each,gc.sorted,gc.grants,matched_iff.2 (matched_iff.1 gc.matched),checkU_iff.2 (zge (checkU_iff.1 g.ups) (by simpa [finU] using h1))⟩
  ·exact g
theorem zmy {u:Uploads} {who:Str} {size now:Int} (h:(ip u who size now).2.2=0):dj (ip u who size now).1=0:=by
 by_cases he:fb u who size now=0
 ·obtain⟨x,o⟩:=opened he
  rw[o.out.1]
  exact checkU_iff.2 o.goodx
 ·rw[zqk he] at h
  exact absurd h he
inductive Served (h:Hub) (r:Request):Hub→Answer→Prop
 | make (k:r.kind=8) (e:creE h r=0):Served h r (creH h r) noA
 | give (k:r.kind=3) (e:qj h r=0):Served h r (qs h r) noA
 | page (k:r.kind=2) (e:(jk h r).2=0):Served h r h ⟨0,0,(jk h r).1⟩
 | opens (k:r.kind=4) (e:(ip h.ups r.who r.number h.now).2.2=0):Served h r (upsH h (ip h.ups r.who r.number h.now).1 0) ⟨0,(ip h.ups r.who r.number h.now).2.1,noG⟩
 | app (k:r.kind=5) (e:(bz h.ups r.who r.number r.offset r.text h.now).2.2=0):Served h r (upsH h (bz h.ups r.who r.number r.offset r.text h.now).1 0) ⟨0,(bz h.ups r.who r.number r.offset r.text h.now).2.1,noG⟩
 | query (k:r.kind=6) (e:(la h.ups r.who r.number h.now).2=0):Served h r h ⟨0,(la h.ups r.who r.number h.now).1,noG⟩
 | fin (k:r.kind=7) (m:mayE h r 2=0) (e:(finP h r).2.2=0):Served h r (finP h r).1 ⟨0,(finP h r).2.1,noG⟩
 | com (k:r.kind=1) (m:mayE h r 2=0) (e:(comP h r r.changes).2.2=0):Served h r (comH h r r.changes) ⟨0,(comP h r r.changes).2.1,noG⟩
theorem zb {h:Hub} {r:Request} (h0:(bd h r).2.2=0):ba r.who=true∧Served h r (bd h r).1 (bd h r).2.1:=by
 unfold bd at h0 ⊢
 by_cases c1:r.kind<1∨8<r.kind
 ·rw[if_pos c1] at h0;simp at h0
 rw[if_neg c1] at h0 ⊢
 by_cases c2:ba r.who=false
 ·rw[if_pos c2] at h0;simp at h0
 rw[if_neg c2] at h0 ⊢
 refine⟨by simpa using c2, ?_⟩
 by_cases c8:r.kind=8
 ·rw[if_pos c8] at h0 ⊢
  have h0:creE h r=0:=h0
  rw[if_pos h0]
  exact .make c8 h0
 rw[if_neg c8] at h0 ⊢
 by_cases c3:r.kind=3
 ·rw[if_pos c3] at h0 ⊢
  exact .give c3 h0
 rw[if_neg c3] at h0 ⊢
 by_cases c4:r.kind=2
 ·rw[if_pos c4] at h0 ⊢
  exact .page c4 h0
 rw[if_neg c4] at h0 ⊢
 by_cases c5:r.kind=4
 ·rw[if_pos c5] at h0 ⊢
  have h0:(ip h.ups r.who r.number h.now).2.2=0:=h0
  rw[h0]
  exact .opens c5 h0
 rw[if_neg c5] at h0 ⊢
 by_cases c6:r.kind=5
 ·rw[if_pos c6] at h0 ⊢
  have h0:(bz h.ups r.who r.number r.offset r.text h.now).2.2=0:=h0
  rw[h0]
  exact .app c6 h0
 rw[if_neg c6] at h0 ⊢
 by_cases c7:r.kind=6
 ·rw[if_pos c7] at h0 ⊢
  exact .query c7 h0
 rw[if_neg c7] at h0 ⊢
 by_cases c9:mayE h r 2≠0
 ·rw[if_pos c9] at h0
  exact absurd h0 c9
 rw[if_neg c9] at h0 ⊢
 have c9:mayE h r 2=0:=Classical.not_not.1 c9
 by_cases c10:r.kind=7
 ·rw[if_pos c10] at h0 ⊢
  exact .fin c10 c9 h0
 ·rw[if_neg c10] at h0 ⊢
  exact .com (by omega) c9 h0
theorem wo {h:Hub} {r:Request} (g:GoodH h) {x:Hub} {a:Answer} (s:Served h r x a):GoodH x:=by
 cases s with
 | make k e=>exact zhg g e
 | give k e=>exact zpm g
 | page k e=>exact g
 | opens k e=>exact zgs g fun _=>zmy e
 | app k e=>exact zgs g fun _=>checkU_iff.2 (zfd (checkU_iff.1 g.ups) e)
 | query k e=>exact g
 | fin k m e=>exact zto g (gn g (by decide) m) e
 | com k m e=>exact ur g (gn g (by decide) m)
theorem gj {h:Hub} {r:Request} (g:GoodH h):GoodH (bi h r).1:=by
 unfold bi
 split
 ·exact g
 ·rename_i h0
  exact wo g (zb (Classical.not_not.1 h0)).2
end Go.VM.Tryz
end
section
open Go Go.VM Go.Proofs Tether
namespace Go.VM.Tryz
theorem pv {x:Hub} (g:GoodH x) (hj:∀ s∈x.folders,okJ s.jn):dz x:=by
 have gg:=checkG_iff.1 g.grants
 have gu:=checkU_iff.1 g.ups
 refine⟨⟨by have:=g.len;omega,fun s hs=>⟨by have:=nc (g.each s hs).1;omega,hj s hs⟩⟩,⟨by have:=gg.len;omega,fun y hy=>?_⟩,⟨by have:=gu.len;omega,fun y hy=>?_⟩⟩
 ·have:=zlb (gg.each y hy)
  have h1:=nc this.1
  have h2:=nc this.2.1
  omega
 ·have:=sessErr_iff.1 (gu.sess y hy)
  have h1:=nc this.2.2.2.1
  omega
theorem zte {h:Hub} {p:Str} {j:Journal} (ok:dz h) (hj:okJ j):∀ s∈(setJ h p j).folders,okJ s.jn:=fun s hs=>by
 rcases List.mem_or_eq_of_mem_set (show s∈h.folders.set _ _ from hs) with h1|rfl
 ·exact (ok.1.2 s h1).2
 ·exact hj
theorem zih {h:Hub} {r:Request} {l:List Change} (ok:dz h) (okr:okRq r) (okl:okCs l) (hh:hasF h.folders r.folder=true):∀ s∈(comH h r l).folders,okJ s.jn:=fun s hs=>by
 have hix:fIx h.folders r.folder<h.folders.length:=by rw[lw] at hh;simp at hh;exact hh.1
 unfold comH at hs
 split at hs
 ·exact zte ok (zov (ok.1.2 _ (bj hix)).2 okr.2.2.2.1 okl) s hs
 ·exact (ok.1.2 s hs).2
theorem z2o {h:Hub} {r:Request} (ok:dz h) (okr:okRq r):okCs [finC h r] :=
 ⟨by simp,by intro c hc;rw[List.mem_singleton.1 hc];exact⟨okr.2.2.1,by simp[finC],zhi ok⟩⟩
theorem zqv {h:Hub} {r:Request} (ok:dz h) (okr:okRq r) (g:GoodH h) {x:Hub} {a:Answer} (s:Served h r x a):dz x∧okG a.page:=by
 have gx:=wo g s
 have old:∀ s∈h.folders,okJ s.jn:=fun s hs=>(ok.1.2 s hs).2
 cases s with
 | make k e =>
   refine⟨pv gx fun s hs=>?_,iw⟩
   rcases newF_mem.1 hs with rfl|hs
   ·exact⟨⟨by simp,by simp⟩,⟨by simp,by simp⟩⟩
   ·exact old s hs
 | give k e =>
   refine⟨pv gx fun s hs=>?_,iw⟩
   rw[(ne g e).2.1] at hs
   exact old s hs
 | page k e =>
   refine⟨ok, ?_⟩
   have h1:mayE h r 1=0:=by
    refine Classical.byContradiction fun h1=>?_
    rw[jk,if_pos h1] at e
    exact h1 e
   have hh:=gn g (Int.le_refl 1) h1
   have hix:fIx h.folders r.folder<h.folders.length:=by rw[lw] at hh;simp at hh;exact hh.1
   show okG (jk h r).1
   rw[jk,if_neg (by simpa using h1)]
   exact zzg (ok.1.2 _ (bj hix)).2 _ _
 | opens k e=>exact⟨pv gx old,iw⟩
 | app k e=>exact⟨pv gx old,iw⟩
 | query k e=>exact⟨ok,iw⟩
 | fin k m e =>
   refine⟨pv gx fun s hs=>?_,iw⟩
   have hh:=gn g (by decide) m
   unfold finP at hs
   split at hs
   ·exact old s hs
   ·dsimp only at hs
    split at hs
    ·exact zih ok okr (z2o ok okr) hh s hs
    ·exact old s hs
 | com k m e=>exact⟨pv gx (zih ok okr okr.2.2.2.2.2 (gn g (by decide) m)),iw⟩
theorem kn {h:Hub} {r:Request} (ok:dz h) (okr:okRq r) (g:GoodH h):dz (bi h r).1∧okG (bi h r).2.page:=by
 unfold bi
 split
 ·exact⟨ok,iw⟩
 ·rename_i h0
  exact zqv ok okr g (zb (Classical.not_not.1 h0)).2
theorem th:dz noH:=⟨⟨by simp[noH],by simp[noH]⟩,⟨by simp[noH],by simp[noH]⟩,⟨by simp[noH,noU],by simp[noH,noU]⟩⟩
theorem sb {h:Hub} {r:Request} (ok:dz h) (okr:okRq r):dz (dg h r).1∧okG (dg h r).2.1.page:=by
 by_cases hc:dn h=0
 ·rw[jt (checkH_good.1 hc)]
  exact kn ok okr (checkH_good.1 hc)
 ·have hp:dg h r=(noH,noA,dn h):=by rw[dg,if_pos hc]
  rw[hp]
  exact⟨th,iw⟩
end Go.VM.Tryz
end
section
open Go Go.VM Go.Proofs Tether
namespace Go.VM.Tryz
def bH1:Hub:=⟨[⟨[102],⟨[],1,[]⟩⟩],[⟨[102],[97],3⟩],⟨[],1,10,1000⟩,0⟩
def bH2:Hub:=⟨[⟨[102],⟨[],1,[⟨1,[107],[⟨2,[120],[],[49],0⟩]⟩]⟩⟩],[⟨[102],[97],3⟩],⟨[],1,10,1000⟩,0⟩
def bR1:Request:=⟨8,[97],[102],[],[],[],0,0,0,[]⟩
def bR2:Request:=⟨1,[97],[102],[],[107],[],0,0,0,[⟨2,[120],[],[49],0⟩]⟩
theorem bokR1:okRq bR1:=by simp[okRq,bR1,okCs]
theorem bokR2:okRq bR2:=by simp[okRq,bR2,okCs,okC]
theorem bok0:dz (newH 10 1000):=⟨⟨by simp[newH],by simp[newH]⟩,⟨by simp[newH],by simp[newH]⟩,⟨by simp[newH],by simp[newH]⟩⟩
theorem bH0_eq:xw 10 1000=newH 10 1000∧dj (newH 10 1000).ups=0:=by decide +kernel
theorem bS1:dg (newH 10 1000) bR1=(bH1,noA,0):=by decide +kernel
theorem bS2:dg bH1 bR2=(bH2,⟨0,1,noG⟩,0):=by decide +kernel
theorem bT:eu bH2 [102]=([⟨[120],false,[49],1⟩],0):=by decide +kernel
theorem bok1:dz bH1:=by have h:=(sb bok0 bokR1).1;rwa [bS1] at h
theorem bok2:dz bH2:=by have h:=(sb bok1 bokR2).1;rwa [bS2] at h
theorem iq:Meets Tryz.prog 14 [] (.bool true) []:=by
 refine an (fn:=Tryz.f14) Tryz.func14 rfl fb14 (by kernel_rfl) (Nat.le_of_ble_eq_true rfl) ?_
 have hA:=zxy 10 1000
 rw[bH0_eq.1,bH0_eq.2] at hA
 have hB:=np (newH 10 1000) bR1 bok0 bokR1
 rw[bS1] at hB
 have hC:=np bH1 bR2 bok1 bokR2
 rw[bS2] at hC
 have hD:=vl bH2 [102] bok2
 rw[bT] at hD
 dsimp only at hA hB hC hD
 refine aa ?_
 simp only[go_sem]
 repeat first|(with_reducible refine ad ?_ ?_;exact byD)|(with_reducible refine ae ?_ ?_;exact byQ)
 refine aa ?_
 simp only[go_sem]
 refine cw_m (hA) byW byT ?_
 simp only[go_sem]
 refine aa ?_
 simp only[go_sem]
 refine cw_m (hB) byW byT ?_
 simp only[go_sem]
 refine cx_srF [2] ?_
 simp only[go_sem]
 refine cw_m hC ?_ byT ?_
 ·exact⟨byC,⟨byC,byC,byC,byC,byC,byC,byC,byC,byC,qn (enc:=Change.enc) ⟨2,[120],[],[49],0⟩,rfl⟩,rfl⟩
 simp only[go_sem]
 refine aa ?_
 simp only[go_sem]
 refine cw_m (hD) byW byT ?_
 simp only[go_sem]
 refine aa ?_
 simp only[go_sem]
 intro t35 e35
 intro t38 e38
 intro t39 e39
 rw[ar] at e39
 intro t42 e42
 intro t43 e43
 rw[ar] at e43
 intro t46 e46
 intro t47 e47
 rw[ar] at e47
 intro t51 e51
 intro t52 e52
 rw[ar] at e52
 intro t56 e56
 intro t57 e57
 rw[ar] at e57
 intro t61 e61
 intro t62 e62
 rw[ar] at e62
 intro t66 e66
 intro t67 e67
 rw[ar] at e67
 subst e35 e38 e39 e42 e43 e46 e47 e51 e52 e56 e57 e61 e62 e66 e67
 refine af ?_
 simp only[go_sem]
 exact aq (by simp[noA])
end Go.VM.Tryz
end
section
open Go Go.VM Go.Proofs Tether
namespace Go.VM.Tryz
theorem zsz (lasts room:Int):dz (xw lasts room):=by
 unfold xw
 split
 ·exact⟨⟨by simp[newH],by simp[newH]⟩,⟨by simp[newH],by simp[newH]⟩,⟨by simp[newH],by simp[newH]⟩⟩
 ·exact th
theorem HubNews_c (lasts room:Int):Meets Tryz.prog 3 [.int .i64 lasts,.int .i64 room] (.bool true) []:=by
 refine an (fn:=Tryz.f3) Tryz.func3 rfl fb3 (by kernel_rfl) (Nat.le_of_ble_eq_true rfl) ?_
 have hok:=zsz lasts room
 refine aa ?_
 simp only[go_sem]
 repeat first|(with_reducible refine ad ?_ ?_;exact byD)|(with_reducible refine ae ?_ ?_;exact byQ)
 refine aa ?_
 simp only[go_sem]
 refine cw_m (zxy lasts room) byW byT ?_
 simp only[go_sem]
 refine aa ?_
 simp only[go_sem]
 refine aa ?_
 simp only[go_sem]
 refine cw_m (Up.RCheck_c (newH lasts room).ups (by simp[newH]) (by simp[newH])) byW byT ?_
 simp only[go_sem]
 refine ab ?_
 refine aa ?_
 simp only[go_sem]
 intro t23 e23
 subst e23
 refine ah _ rfl (fun h23=>?_) (fun h23=>?_)
 ·
  (try simp only[go_sem] at h23)
  have hn:xw lasts room=noH:=by rw[xw,if_neg (by simpa using h23)]
  rw[hn]
  refine aj ?_
  simp only[go_sem]
  refine aa ?_
  simp only[go_sem]
  refine cw_m (iq) byW byT ?_
  simp only[go_sem]
  intro t29 e29
  intro t30 e30
  rw[ar] at e30
  first|(refine⟨_,fun hp=>cw_m (ly noH noH th th) byW byT ⟨rfl,rfl⟩, ?_⟩)|(refine⟨_,fun hp=>cw_m (ly (newH lasts room) (newH lasts room) hok hok) byW byT ⟨rfl,rfl⟩, ?_⟩)
  simp only[go_sem]
  intro t35 e35
  rw[ar] at e35
  subst e29 e30 e35
  refine af ?_
  simp only[go_sem]
  exact aq (by simp)
 ·
  (try simp only[go_sem] at h23)
  have hn:xw lasts room=newH lasts room:=by rw[xw,if_pos (by simpa using h23)]
  rw[hn]
  rw[hn] at hok
  refine ag ?_
  (try simp only[go_sem])
  refine aa ?_
  simp only[go_sem]
  refine cw_m (iq) byW byT ?_
  simp only[go_sem]
  intro t29 e29
  intro t30 e30
  rw[ar] at e30
  first|(refine⟨_,fun hp=>cw_m (ly noH noH th th) byW byT ⟨rfl,rfl⟩, ?_⟩)|(refine⟨_,fun hp=>cw_m (ly (newH lasts room) (newH lasts room) hok hok) byW byT ⟨rfl,rfl⟩, ?_⟩)
  simp only[go_sem]
  intro t35 e35
  rw[ar] at e35
  subst e29 e30 e35
  refine af ?_
  simp only[go_sem]
  exact aq (by simp)
theorem zje {h:Hub} {r:Request} {x:Hub} {a:Answer} (s:Served h r x a):a.err=0:=by
 cases s<;>rfl
theorem zkr {h:Hub} {r:Request}:(bi h r).2.err=0∨((bi h r).1=h∧(bi h r).2=⟨(bi h r).2.err,0,noG⟩):=by
 unfold bi
 split
 ·exact .inr ⟨rfl,rfl⟩
 ·rename_i h0
  exact .inl (zje (zb (Classical.not_not.1 h0)).2)
theorem HubGoes_c (h:Hub) (r:Request) (ok:dz h) (okr:okRq r):Meets Tryz.prog 6 [.agg (hubE h),.agg (rqE r)] (.bool true) []:=by
 refine an (fn:=Tryz.f6) Tryz.func6 rfl fb6 (by kernel_rfl) (Nat.le_of_ble_eq_true rfl) ?_
 obtain⟨k1,k2⟩:=sb ok okr
 refine aa ?_
 simp only[go_sem]
 repeat first|(with_reducible refine ad ?_ ?_;exact byD)|(with_reducible refine ae ?_ ?_;exact byQ)
 refine ab ?_
 refine aa ?_
 simp only[go_sem]
 refine cw_m (iq) byW byT ?_
 simp only[go_sem]
 intro t9 e9
 subst e9
 refine ah _ rfl (fun h9=>ew h9) (fun h9=>?_)
 refine ag ?_
 (try simp only[go_sem])
 refine aa ?_
 simp only[go_sem]
 refine cw_m (np h r ok okr) byW byT ?_
 simp only[go_sem]
 refine ab ?_
 refine aa ?_
 simp only[go_sem]
 intro t18 e18
 subst e18
 refine ah _ rfl (fun h18=>?_) (fun h18=>?_)
 ·
  (try simp only[go_sem] at h18)
  refine aa ?_
  simp only[go_sem]
  refine cw_m (nz h ok) byW byT ?_
  simp only[go_sem]
  intro t22 e22
  subst e22
  refine af ?_
  simp only[go_sem]
  refine aq ?_
  by_cases hc:dn h=0
  ·rw[jt (checkH_good.1 hc)] at h18
   simp at h18
  ·have hp:dg h r=(noH,noA,dn h):=by rw[dg,if_pos hc]
   simp[hp]
 ·
  (try simp only[go_sem] at h18)
  have hc:dn h=0:=by
   refine Classical.byContradiction fun hc=>?_
   have hp:dg h r=(noH,noA,dn h):=by rw[dg,if_pos hc]
   rw[hp] at h18
   exact hc (by simpa using h18)
  have g:=checkH_good.1 hc
  have hp:=jt (r:=r) g
  obtain⟨m1,m2⟩:=kn ok okr g
  have hgg:=checkH_good.2 (gj (r:=r) g)
  rw[hp]
  dsimp only
  refine ag ?_
  (try simp only[go_sem])
  refine aa ?_
  simp only[go_sem]
  refine cw_m (nz (bi h r).1 m1) byW byT ?_
  simp only[go_sem]
  intro t25 e25
  intro t29 e29
  refine⟨_,fun hp=>cw_m (ly (bi h r).1 h m1 ok) byW byT ⟨rfl,rfl⟩, ?_⟩
  simp only[go_sem]
  refine⟨_,fun hp=>cw_m (pb (bi h r).2 ⟨(bi h r).2.err,0,noG⟩ m2 iw) byW byT ⟨rfl,rfl⟩, ?_⟩
  simp only[go_sem]
  intro t40 e40
  rw[ar] at e40
  intro t41 e41
  rw[az] at e41
  intro t42 e42
  rw[ar] at e42
  subst e25 e29 e40 e41 e42
  refine af ?_
  simp only[go_sem]
  refine aq ?_
  rcases zkr (h:=h) (r:=r) with e | ⟨e1,e2⟩
  ·simp[hgg,e]
  ·simp[e1,hc,← e2]
end Go.VM.Tryz
end
