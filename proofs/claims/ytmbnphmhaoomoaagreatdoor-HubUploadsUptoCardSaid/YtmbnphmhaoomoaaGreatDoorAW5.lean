import Derived.Test.YtmbnphmhaoomoaaGreatDoorAW4
import Derived.Test.YtmbnphmhaoomoaaGreatDoorAV7
import Derived.Lib.DecodeN
import Derived.Shelf.Lay
import Derived.Ground.GgwProg
set_option maxHeartbeats 4000000
set_option linter.unusedVariables false
set_option linter.unusedSimpArgs false
set_option maxRecDepth 100000
section
open Go Go.VM Go.Proofs Tether
namespace Tether
structure Journal where
 base:List Entry
 first:Int
 commits:List Commit
 deriving Inhabited,DecidableEq
end Tether
namespace Go.VM.Tryz
def jnE (j:Journal):List V:=[esV j.base,.int .i64 j.first,cmsV j.commits]
theorem jnE_eq (j:Journal):jnE j=[esV j.base,.int .i64 j.first,cmsV j.commits]:=rfl
attribute [go_sem] jnE_eq
def okJ (j:Journal):Prop:=okE j.base∧okMs j.commits
def keyN (r:Nat):Bool:=(decide (97≤r) && decide (r≤122)) || (decide (65≤r) && decide (r≤90)) || (decide (48≤r) && decide (r≤57)) || decide (r=45)
def keyC (c:UInt8):Bool:=keyN c.toNat
theorem znl {r:Nat} (h:keyN r=true):r<128:=by
 simp[keyN] at h
 omega
theorem dec_lo (n b0 b1 b2 b3:Nat) (h:b0<128):Lib.decodeN n b0 b1 b2 b3=(b0,1):=by simp[Lib.decodeN,h]
theorem dec_hi (n b0 b1 b2 b3:Nat) (h:¬ b0<128) (hb:b0<256):128≤(Lib.decodeN n b0 b1 b2 b3).1:=by
 unfold Lib.decodeN
 repeat' split
 all_goals first|omega|(simp only;omega)
theorem zhm (s:ByteArray):∀ (f pos:Nat),s.size≤pos+f→(Lib.idxFuncFrom (fun r=>!keyN r) true s f pos<0↔(s.data.toList.drop pos).all keyC=true)
 | 0,pos,h=>by
   have:s.data.toList.drop pos=[]:=List.drop_eq_nil_of_le (by simp;omega)
   simp[Lib.idxFuncFrom,this]
 | f+1,pos,h=>by
   unfold Lib.idxFuncFrom
   by_cases hp:pos<s.size
   ·rw[if_pos hp]
    have hp':pos<s.data.toList.length:=by simpa using hp
    rw[List.drop_eq_getElem_cons hp',List.all_cons]
    have hg:s.get! pos=s.data.toList[pos]:=by
     simp only[ByteArray.get!]
     rw[getElem!_pos s.data pos hp,Array.getElem_toList]
    have hd:=Lib.decode_at s pos
    rw[hg] at hd
    by_cases hlo:(s.data.toList[pos]).toNat<128
    ·rw[dec_lo _ _ _ _ _ hlo] at hd
     rw[hd]
     simp only
     rw[show keyN (s.data.toList[pos]).toNat=keyC (s.data.toList[pos]) from rfl]
     cases hk:keyC (s.data.toList[pos]) with
     | true =>
       simp only[Bool.not_true,Bool.false_eq_true,if_false,Bool.true_and]
       exact zhm s f (pos+1) (by omega)
     | false=>simp
    ·have h1:=dec_hi (s.size-pos) _ (s.get! (pos+1)).toNat (s.get! (pos+2)).toNat (s.get! (pos+3)).toNat hlo (UInt8.toNat_lt _)
     rw[← hd] at h1
     have h2:keyN (Utf8.decode s pos).1=false:=by
      cases hk:keyN (Utf8.decode s pos).1 with
      | false=>rfl
      | true=>have:=znl hk;omega
     have h3:keyC (s.data.toList[pos])=false:=by
      show keyN (s.data.toList[pos]).toNat=false
      cases hk:keyN (s.data.toList[pos]).toNat with
      | false=>rfl
      | true=>have:=znl hk;omega
     rw[h2,h3]
     simp
   ·rw[if_neg hp]
    have:s.data.toList.drop pos=[]:=List.drop_eq_nil_of_le (by simp;omega)
    simp[this]
theorem zzc (s:List UInt8):Lib.idxFunc (fun r=>!keyN r) true ⟨s.toArray⟩<0↔s.all keyC=true:=by
 have:=zhm ⟨s.toArray⟩ (⟨s.toArray⟩:ByteArray).size 0 (by omega)
 simpa [Lib.idxFunc] using this
def zaw (s:Str):Bool:=s.all keyC && (decide (1≤s.length) && decide (s.length≤20))
def ii (n:Int) (c:Commit):Int:=if c.number≠n then 4 else if 1000000<c.number then 3 else if zaw c.key=false∨c.changes=[] then 1 else 0
def fk:List Entry→Int→List Commit→List Entry × Int
 | t,_,[]=>(t,0)
 | t,n,c::r=>if ii n c≠0 then ([],ii n c) else if (allP t c.changes n).2.2≠0 then ([],(allP t c.changes n).2.2) else fk (allP t c.changes n).1 (n+1) r
def fh (l:List Commit):List Str:=l.map (·.key)
def bl (j:Journal):List Entry × Int :=
 if dd j.base≠0 then ([],dd j.base) else if j.first<1∨1000000<j.first then ([],3) else if 30<j.commits.length then ([],2)
 else if (fk j.base j.first j.commits).2≠0 then ([],(fk j.base j.first j.commits).2) else if (fh j.commits).Nodup then ((fk j.base j.first j.commits).1,0) else ([],6)
theorem ry:∀ (a b:List Commit) (t:List Entry) (n:Int),fk t n (a++b)=if (fk t n a).2≠0 then fk t n a else fk (fk t n a).1 (n+a.length) b
 | [],b,t,n=>by simp[fk]
 | c::r,b,t,n=>by
   rw[List.cons_append,fk,fk]
   by_cases h1:ii n c≠0
   ·rw[if_pos h1,if_pos h1,if_pos h1]
   ·rw[if_neg h1,if_neg h1]
    by_cases h2:(allP t c.changes n).2.2≠0
    ·rw[if_pos h2,if_pos h2,if_pos h2]
    ·rw[if_neg h2,if_neg h2,ry r b]
     have:n+1+(r.length:Int)=n+((c::r).length:Nat):=by simp;omega
     rw[this]
theorem zki {t u:List Entry} {n:Int} {l:List Commit} {i:Nat} (hi:i<l.length) (h:fk t n (l.take i)=(u,0)) :
  fk t n (l.take (i+1))=if ii (n+i) (l.getD i default)≠0 then ([],ii (n+i) (l.getD i default)) else if (allP u (l.getD i default).changes (n+i)).2.2≠0 then ([],(allP u (l.getD i default).changes (n+i)).2.2) else ((allP u (l.getD i default).changes (n+i)).1,0):=by
 have hd:l.getD i default=l[i]:=by simp[List.getD,hi]
 have hl:(l.take i).length=i:=by simp;omega
 rw[List.take_add_one,List.getElem?_eq_getElem hi,ry,h,hl,hd]
 simp only[Option.toList,ne_eq,not_true_eq_false,if_false,fk]
theorem lx {t:List Entry} {n:Int} {l:List Commit} {i:Nat} {e:Int} (he:e≠0) (h:fk t n (l.take i)=([],e)):fk t n l=([],e):=by
 have:=ry (l.take i) (l.drop i) t n
 rw[List.take_append_drop,h,if_pos he] at this
 exact this
theorem yr:∀ (l:List Commit) (t:List Entry) (n:Int),FullT t→(fk t n l).2=0→FullT (fk t n l).1
 | [],t,n,g,_=>g
 | c::r,t,n,g,h=>by
   rw[fk] at h ⊢
   split at h
   ·rename_i h1
    exact absurd h h1
   ·split at h
    ·rename_i h1 h2
     exact absurd h h2
    ·rename_i h1 h2
     rw[if_neg h1,if_neg h2]
     refine yr r _ _ ?_ h
     rw[zce g] at h2 ⊢
     exact zdf g (by simpa using h2)
def kM (ks:List Str):List (Str × Bool):=ks.foldl (fun m k=>aSet m k true) []
theorem z1u {ks:List Str} {i:Nat} (h:i<ks.length):kM (ks.take (i+1))=aSet (kM (ks.take i)) (ks.getD i []) true:=by
 have hd:ks.getD i []=ks[i]:=by simp[List.getD,h]
 rw[hd,List.take_add_one,List.getElem?_eq_getElem h]
 simp only[kM,List.foldl_append,Option.toList,List.foldl_cons,List.foldl_nil]
theorem znc {m:List (Str × Bool)} {k q:Str} {v:Bool}:aGet (aSet m k v) q=if k=q then some v else aGet m q:=by
 induction m with
 | nil=>by_cases h:k=q<;>simp[aSet,aGet,keq,h]
 | cons x m ih =>
   by_cases h:x.1=k
   ·by_cases h2:k=q
    ·simp[aSet,aGet,keq,h,h2]
    ·simp[aSet,aGet,keq,h,h2]
   ·by_cases h2:x.1=q
    ·have:¬ k=q:=fun e=>h (h2.trans e.symm)
     have h3:¬ q=k:=fun e=>this e.symm
     subst h2
     simp[aSet,aGet,keq,this,h]
    ·simp[aSet,aGet,keq,h,h2,ih]
theorem zff {m:List (Str × Bool)} {k:Str} {v:Bool}:(aSet m k v).length=if (aGet m k).isSome=true then m.length else m.length+1:=by
 induction m with
 | nil=>simp[aSet,aGet]
 | cons x m ih =>
   by_cases h:x.1=k
   ·simp[aSet,aGet,keq,h]
   ·simp only[aSet,aGet,keq,h,decide_false,cond_false,List.length_cons,ih]
    split<;>simp_all
theorem kM_get:∀ (ks:List Str) (q:Str),(aGet (kM ks) q).isSome=true↔q∈ks:=by
 intro ks q
 have key:∀ (ks:List Str) (m:List (Str × Bool)),(aGet (ks.foldl (fun m k=>aSet m k true) m) q).isSome=true↔q∈ks∨(aGet m q).isSome=true:=by
  intro ks
  induction ks with
  | nil=>simp
  | cons k ks ih =>
    intro m
    rw[List.foldl_cons,ih,znc]
    by_cases h:k=q
    ·simp[h]
    ·have:¬ q=k:=fun e=>h e.symm
     simp[h,this]
 have:=key ks []
 simpa [kM,aGet] using this
theorem z2v (ks:List Str) (k:Str):kM (ks++[k])=aSet (kM ks) k true:=by simp[kM,List.foldl_append]
theorem zxf:∀ (n:Nat) (ks:List Str),ks.length=n→(kM ks).length≤ks.length∧((kM ks).length=ks.length↔ks.Nodup)
 | 0,ks,h=>by
   obtain rfl:=List.length_eq_zero_iff.1 h
   simp[kM]
 | n+1,ks,h=>by
   have hne:ks≠[]:=by rintro rfl;simp at h
   have hs:=List.dropLast_concat_getLast hne
   have hl:ks.dropLast.length=n:=by simp;omega
   obtain⟨h1,h2⟩:=zxf n ks.dropLast hl
   rw[← hs,z2v,zff]
   have hg:=kM_get ks.dropLast (ks.getLast hne)
   have hn:(ks.dropLast++[ks.getLast hne]).Nodup↔ks.dropLast.Nodup∧ks.getLast hne ∉ ks.dropLast:=by
    rw[List.nodup_append]
    constructor
    ·rintro⟨a,_,b⟩
     exact⟨a,fun hm=>b _ hm _ (by simp) rfl⟩
    ·rintro⟨a,b⟩
     refine⟨a,by simp,fun x hx y hy e=>?_⟩
     rw[List.mem_singleton.1 hy] at e
     exact b (e ▸ hx)
   rw[hn,List.length_append,List.length_singleton]
   by_cases hm:ks.getLast hne∈ks.dropLast
   ·rw[if_pos (hg.2 hm)]
    exact⟨by omega,⟨fun e=>by omega,fun e=>absurd hm e.2⟩⟩
   ·rw[if_neg fun e=>hm (hg.1 e)]
    exact⟨by omega,⟨fun e=>⟨h2.1 (by omega),hm⟩,fun e=>by have:=h2.2 e.1;omega⟩⟩
theorem zsq (ks:List Str):(kM ks).length<ks.length↔¬ ks.Nodup:=by
 obtain⟨h1,h2⟩:=zxf _ ks rfl
 rw[← h2]
 omega
end Go.VM.Tryz
end
section
open Go Go.VM Go.Proofs Tether
namespace Go.Proofs
open Go.Shelf
shelf_lay LaysGw.n15 Ggw 15 at Tryz as Tryz.laysIxF
end Go.Proofs
namespace Go.VM.Tryz
theorem zsn (W:World) (r:Nat):Calls Tryz.prog 145 #[.int .i32 (r:Int)] W fun e w'=>e = .returned (.bool (keyN r))∧∃ q,w'=W.drewN q:=by
 have z1:(97:Int)≤(r:Int)↔97≤r:=by omega
 have z2:(r:Int)≤122↔r≤122:=by omega
 have z3:(65:Int)≤(r:Int)↔65≤r:=by omega
 have z4:(r:Int)≤90↔r≤90:=by omega
 have z5:(48:Int)≤(r:Int)↔48≤r:=by omega
 have z6:(r:Int)≤57↔r≤57:=by omega
 have z7:(r:Int)=45↔r=45:=by omega
 by_cases h1:97≤r<;>by_cases h2:r≤122<;>by_cases h3:65≤r<;>by_cases h4:r≤90<;>by_cases h5:48≤r<;>by_cases h6:r≤57<;>by_cases h7:r=45
 all_goals first|(exfalso;omega)|skip
 all_goals
  go_enter Tryz.func145,Tryz.ntmps145
  go_wp2
  all_goals first|(exfalso;omega)|(go_ret;exact⟨by first|(simp[keyN,h1,h2,h3,h4,h5,h6,h7];done)|(simp[keyN,h1,h2,h3,h4,h5,h6,h7];omega),0,rfl⟩)
theorem zrn (w:World) (B:Nat) (hB:B<w.heap.size) (hc:w.cell? ⟨B,0,none⟩=some (.func (.func 145) #[] #[])) :
  PredAt Tryz.prog 147 #[.pointer (some ⟨B,0,none⟩)] encR (fun r=>!keyN r) w:=fun W r hb=>by
 have hc':W.cell? ⟨B,0,none⟩=some (.func (.func 145) #[] #[]):=(hb.cell (p:=⟨B,0,none⟩) hB).trans hc
 have hC:=zsn
 unfold FnGives
 go_enter Tryz.func147,Tryz.ntmps147
 go_wp2_with (go_at_call 145;refine (hC _ r).mono ?_;rintro e w' ⟨rfl,q,rfl⟩)
 go_ret
 exact⟨rfl,_,rfl⟩
theorem box1 {F:Fr} {c:Ctx} {H:Heap} (hs:SR F c H) {r:Nat} {x:V} (h:hget H r = .box [x]) {u:Value} (hu:VR c (.ptr r 0) u) :
  ∃ b v,u = .pointer (some ⟨b,0,none⟩)∧b<c.w.heap.size∧c.w.cell? ⟨b,0,none⟩=some v∧VR c x v:=by
 simp only[VR] at hu
 split at hu
 ·rename_i b m hr
  obtain⟨h1,h2⟩:=hs.get hr
  rw[h] at h2
  obtain⟨_,g1,⟨C,el,rfl,g2,g3,g4⟩,_⟩:=h2 trivial
  simp only[VRs] at g4
  obtain⟨⟨v,g5,g6⟩,-⟩:=g4
  refine⟨b,v,hu,(Array.getElem?_eq_some_iff.1 g1).1, ?_,g6⟩
  rw[ez g1]
  exact g5
 ·exact hu.elim
theorem zmi (s:Str) (hs:s.length<4611686018427387904):Meets Tryz.prog 118 [.str s] (.bool (zaw s)) []:=by
 refine an (fn:=Tryz.f118) Tryz.func118 rfl fb118 (by kernel_rfl) (Nat.le_of_ble_eq_true rfl) ?_
 refine aa ?_
 simp only[go_sem]
 repeat first|(with_reducible refine ad ?_ ?_;exact byD)|(with_reducible refine ae ?_ ?_;exact byQ)
 refine aa ?_
 simp only[go_sem]
 refine aa ?_
 simp only[go_sem]
 intro t5 e5
 intro t9 e9
 intro t10 e10
 rw[ar] at e10
 refine⟨.int .i64 (Lib.idxFunc (fun r=>!keyN r) true ⟨s.toArray⟩),fun hp=>?_, ?_⟩
 ·refine zbv fb146 (fun g lb eg p s w hp=>Any.strings_IndexFunc Tryz.laysIxF g lb eg p s w hp) (enters_of Tryz.func147 (by kernel_rfl) rfl) (fun r=>!keyN r) s (fun F c hs lb hsz hlb=>?_) ⟨rfl,rfl⟩
  simp only[VRs] at hlb
  obtain⟨⟨u,g1,g2⟩,-⟩:=hlb
  obtain⟨b,v,rfl,hb,hc,hv⟩:=box1 hs (x:=.fn 145 [] []) rfl g2
  simp only[VR] at hv
  obtain⟨us,ws,rfl,z1,z2,-,-⟩:=hv
  obtain rfl:us = #[]:=Array.eq_empty_of_size_eq_zero z1
  obtain rfl:ws = #[]:=Array.eq_empty_of_size_eq_zero z2
  have hl:lb = #[.pointer (some ⟨b,0,none⟩)]:=by
   apply Array.ext'
   apply List.ext_getElem?
   intro j
   rcases j with _|j
   ·simpa using g1
   ·have:lb.toList.length=1:=by simpa using hsz
    rw[List.getElem?_eq_none (by omega)]
    simp
  subst hl
  exact zrn c.w b hb hc
 simp only[go_sem]
 intro t15 e15
 intro t16 e16
 rw[ar] at e16
 subst e5 e9 e10 e15 e16
 refine af ?_
 simp only[go_sem]
 refine aq ?_
 have hk:=zzc s
 rw[zaw]
 by_cases h0:s.all keyC=true
 ·rw[h0]
  have:=hk.2 h0
  have hne:s=[]↔s.length=0:=by simp
  have h2:¬ s=[]↔1≤s.length:=by rw[hne];omega
  by_cases h3:s=[]
  ·subst h3;simp
  ·simp[this,h3,h2.1 h3]
   omega
 ·have h1:¬ Lib.idxFunc (fun r=>!keyN r) true ⟨s.toArray⟩<0:=fun e=>h0 (hk.1 e)
  simp only[Bool.not_eq_true] at h0
  rw[h0]
  simp
  intro _ _
  omega
end Go.VM.Tryz
end
section
open Go Go.VM Go.Proofs Tether
namespace Go.VM.Tryz
def kpE (j:Journal) (t:List Entry):List V:=[esV j.base,.int .i64 j.first,cmsV j.commits,esV t]
theorem kpE_eq (j:Journal) (t:List Entry):kpE j t=[esV j.base,.int .i64 j.first,cmsV j.commits,esV t]:=rfl
attribute [go_sem] kpE_eq
theorem zhj (j:Journal) (t:List Entry) (h1 : -1000000000≤j.first) (h2:j.first≤1000000000) (hl:j.commits.length≤1048576) :
  Meets Tryz.prog 152 [.iptr (kpE j t) 0] (.int .i64 (j.first+j.commits.length-1)) []:=by
 refine an (fn:=Tryz.f152) Tryz.func152 rfl fb152 (by kernel_rfl) (Nat.le_of_ble_eq_true rfl) ?_
 refine aa ?_
 simp only[go_sem]
 repeat first|(with_reducible refine ad ?_ ?_;exact byD)|(with_reducible refine ae ?_ ?_;exact byQ)
 refine ab (bc cj [] (.first 0 (.first 1 (.first 2 (.first 3 (.first 4 (.first 5 (.first 6 (.first 7 (.first 8 (.first 9 (.first 10 (.first 11 (.first 12 (.first 13 (.done))))))))))))))) (by kernel_rfl) ?_)
 simp only[go_sem]
 intro t14 e14
 (try replace e14:=w64 e14 (by omega) (by omega))
 intro t15 e15
 (try replace e15:=w64 e15 (by omega) (by omega))
 refine af ?_
 simp only[go_sem]
 exact am (by omega)
theorem zof {j:Journal} (h:¬ dd j.base=0):bl j=([],dd j.base):=by rw[bl,if_pos h]
theorem zjy {j:Journal} (h:dd j.base=0) (h1:j.first<1∨1000000<j.first):bl j=([],3):=by rw[bl,if_neg (by simpa using h),if_pos h1]
theorem znd {j:Journal} (h:dd j.base=0) (h1:¬ (j.first<1∨1000000<j.first)) (h2:30<j.commits.length):bl j=([],2):=by rw[bl,if_neg (by simpa using h),if_neg h1,if_pos h2]
theorem ph {j:Journal} (h:dd j.base=0) (h1:¬ (j.first<1∨1000000<j.first)) (h2:¬ 30<j.commits.length) {e:Int} (he:e≠0) (h3:fk j.base j.first j.commits=([],e)):bl j=([],e):=by
 rw[bl,if_neg (by simpa using h),if_neg h1,if_neg h2,h3,if_pos he]
theorem zgm {j:Journal} (h:dd j.base=0) (h1:¬ (j.first<1∨1000000<j.first)) (h2:¬ 30<j.commits.length) {t:List Entry} (h3:fk j.base j.first j.commits=(t,0)) :
  bl j=if (fh j.commits).Nodup then (t,0) else ([],6):=by
 rw[bl,if_neg (by simpa using h),if_neg h1,if_neg h2,h3,if_neg (by simp)]
theorem znv (l:List Commit) (i:Nat):(fh l).getD i []=(l.getD i default).key:=by
 unfold fh
 simp only[List.getD,List.getElem?_map]
 cases l[i]?<;>rfl
theorem zfw (l:List Commit):(fh l).length=l.length:=by simp[fh]
theorem z2a (l:List Entry) (cs:List Change) (v:Int) (okl:okE l) (ok:okCs cs):Meets Tryz.prog 119 [esV l,csV cs,.int .i64 v]
  (.tup [esV (allP l cs v).1,.int .i64 (allP l cs v).2.1,.int .i64 (allP l cs v).2.2]) [] :=
 ((All_c l cs v okl ok).freeze 1 byC).wk (ak _) byC rfl
theorem zzt {m:List (Str × Bool)} {k:Str} {b:Bool}:mSet (mE boE m) k (.bool b)=mE boE (aSet m k b):=zau (enc:=boE)
attribute [go_sem] zzt
theorem Open_c (j:Journal) (ok:okJ j) (v:V) (H:Heap) (h0:(bl j).2=0→v = .tup [.ptr 0 0,.int .i64 0]∧H=[.box (kpE j (bl j).1)]) (h1:(bl j).2≠0→v = .tup [.bad,.int .i64 (bl j).2]∧H=[]) :
  Meets Tryz.prog 74 [.agg (jnE j)] v H:=by
 refine an (fn:=Tryz.f74) Tryz.func74 rfl fb74 (by kernel_rfl) (Nat.le_of_ble_eq_true rfl) ?_
 have hbl:=ok.1.1
 have hcl:=ok.2.1
 refine aa ?_
 simp only[go_sem]
 repeat first|(with_reducible refine ad ?_ ?_;exact byD)|(with_reducible refine ae ?_ ?_;exact byQ)
 refine ab ?_
 refine aa ?_
 simp only[go_sem]
 refine cw_m (zsh j.base ok.1) byW byT ?_
 simp only[go_sem]
 refine aa ?_
 simp only[go_sem]
 intro t16 e16
 subst e16
 refine ah _ rfl (fun h16=>?_) (fun h16=>?_)
 ·
  (try simp only[go_sem] at h16)
  refine aa ?_
  simp only[go_sem]
  refine af ?_
  simp only[go_sem]
  have h:¬ dd j.base=0:=by simpa using h16
  rw[zof h] at h0 h1
  obtain⟨rfl,rfl⟩:=h1 h
  exact ap 1 [] rfl byC byC byC byC
 ·
  (try simp only[go_sem] at h16)
  have hc0:dd j.base=0:=by simpa using h16
  refine ag ?_
  (try simp only[go_sem])
  refine ab (ai ?_)
  refine aa ?_
  simp only[go_sem]
  intro t21 e21
  intro t25 e25
  intro t26 e26
  rw[az] at e26
  subst e21 e25 e26
  refine ah _ rfl (fun h18=>?_) (fun h18=>?_)
  ·
   (try simp only[go_sem] at h18)
   refine aa ?_
   simp only[go_sem]
   refine af ?_
   simp only[go_sem]
   rw[zjy hc0 (by omega)] at h0 h1
   obtain⟨rfl,rfl⟩:=h1 (by decide)
   exact ap 1 [] rfl byC byC byC byC
  ·
   (try simp only[go_sem] at h18)
   have hf0:¬ (j.first<1∨1000000<j.first):=by omega
   refine aa ?_
   simp only[go_sem]
   intro t31 e31
   subst e31
   refine ah _ rfl (fun h27=>?_) (fun h27=>?_)
   ·
    (try simp only[go_sem] at h27)
    refine aa ?_
    simp only[go_sem]
    refine af ?_
    simp only[go_sem]
    rw[znd hc0 hf0 (by omega)] at h0 h1
    obtain⟨rfl,rfl⟩:=h1 (by decide)
    exact ap 1 [] rfl byC byC byC byC
   ·
    (try simp only[go_sem] at h27)
    have hm0:¬ 30<j.commits.length:=by omega
    have hkl:=zfw j.commits
    refine ag ?_
    (try simp only[go_sem])
    refine aa ?_
    simp only[go_sem]
    refine aa ?_
    simp only[go_sem]
    refine ab ?_
    refine aa ?_
    simp only[go_sem]
    refine ai ?_
    refine gz (σ:=Nat × List Entry) (fun s=>s.1≤j.commits.length∧okE s.2∧fk j.base j.first (j.commits.take s.1)=(s.2,0)) (fun s=>[⟨41,0,[],.int .i64 (s.1:Nat)⟩]) [1,5,6,39,40] (fun s=>[.box (jnE j),.box (kpE j s.2),.mp (mE boE (kM ((fh j.commits).take s.1)))]) (fun s=>j.commits.length-s.1) (0,j.base) ⟨Nat.zero_le _,ok.1,rfl⟩ (fun _=>(Nat.zero_le _)) byC (fun s hI1=>?_)
    simp only[go_sem]
    refine aa ?_
    simp only[go_sem]
    repeat first|(with_reducible refine ad ?_ ?_;exact byD)|(with_reducible refine ae ?_ ?_;exact byQ)
    intro t42 e42
    subst e42
    refine ab ?_
    refine ah _ rfl (fun h42=>?_) (fun h42=>?_)
    ·
     (try simp only[go_sem] at h42)
     have hcc:=ok.2.2 _ (bj (l:=j.commits) (i:=s.1) (d:=default) (by omega))
     have hon:=zki (l:=j.commits) (i:=s.1) (by omega) hI1.2.2
     have hal:=ztl s.2 (j.commits.getD s.1 default).changes (j.commits.getD s.1 default).number
     have hsl:=hI1.2.1.1
     have hkn:=z1u (ks:=fh j.commits) (i:=s.1) (by omega)
     rw[znv] at hkn
     refine ag ?_
     (try simp only[go_sem])
     refine ab (ai ?_)
     refine aa ?_
     simp only[go_sem]
     repeat first|(with_reducible refine ad ?_ ?_;exact byD)|(with_reducible refine ae ?_ ?_;exact byQ)
     refine ab (ai ?_)
     refine aa ?_
     simp only[go_sem]
     intro t52 e52
     (try replace e52:=w64 e52 (by omega) (by omega))
     intro t53 e53
     subst e53
     refine ah _ rfl (fun h46=>?_) (fun h46=>?_)
     ·
      (try simp only[go_sem] at h46)
      refine aa ?_
      simp only[go_sem]
      refine af ?_
      simp only[go_sem]
      have hx:ii (j.first+s.1) (j.commits.getD s.1 default)=4:=by rw[ii,if_pos (by omega)]
      rw[if_pos (by rw[hx];decide),hx] at hon
      rw[ph hc0 hf0 hm0 (by decide) (lx (by decide) hon)] at h0 h1
      obtain⟨rfl,rfl⟩:=h1 (by decide)
      exact ap 1 [] rfl byC byC byC byC
     ·
      (try simp only[go_sem] at h46)
      refine aa ?_
      simp only[go_sem]
      intro t57 e57
      subst e57
      refine ah _ rfl (fun h54=>?_) (fun h54=>?_)
      ·
       (try simp only[go_sem] at h54)
       refine aa ?_
       simp only[go_sem]
       refine af ?_
       simp only[go_sem]
       have hx:ii (j.first+s.1) (j.commits.getD s.1 default)=3:=by rw[ii,if_neg (by omega),if_pos (by omega)]
       rw[if_pos (by rw[hx];decide),hx] at hon
       rw[ph hc0 hf0 hm0 (by decide) (lx (by decide) hon)] at h0 h1
       obtain⟨rfl,rfl⟩:=h1 (by decide)
       exact ap 1 [] rfl byC byC byC byC
      ·
       (try simp only[go_sem] at h54)
       refine ab ?_
       refine aa ?_
       simp only[go_sem]
       refine cw_m (zmi (j.commits.getD s.1 default).key (by have:=hcc.1;omega)) byW byT ?_
       simp only[go_sem]
       intro t62 e62
       subst e62
       refine ah _ rfl (fun h58=>?_) (fun h58=>?_)
       ·
        (try simp only[go_sem] at h58)
        refine ag ?_
        (try simp only[go_sem])
        refine ah _ rfl (fun h58b=>?_) (fun h58b=>ew h58b)
        refine aa ?_
        simp only[go_sem]
        refine af ?_
        simp only[go_sem]
        have hx:ii (j.first+s.1) (j.commits.getD s.1 default)=1:=by rw[ii,if_neg (by omega),if_neg (by omega),if_pos (by left;simpa using h58)]
        rw[if_pos (by rw[hx];decide),hx] at hon
        rw[ph hc0 hf0 hm0 (by decide) (lx (by decide) hon)] at h0 h1
        obtain⟨rfl,rfl⟩:=h1 (by decide)
        exact ap 1 [] rfl byC byC byC byC
       ·
        (try simp only[go_sem] at h58)
        refine aj ?_
        simp only[go_sem]
        intro t66 e66
        subst e66
        refine ah _ rfl (fun h58b=>?_) (fun h58b=>?_)
        ·
         (try simp only[go_sem] at h58b)
         refine aa ?_
         simp only[go_sem]
         refine af ?_
         simp only[go_sem]
         have hx:ii (j.first+s.1) (j.commits.getD s.1 default)=1:=by rw[ii,if_neg (by omega),if_neg (by omega),if_pos (by right;exact List.length_eq_zero_iff.1 (by omega))]
         rw[if_pos (by rw[hx];decide),hx] at hon
         rw[ph hc0 hf0 hm0 (by decide) (lx (by decide) hon)] at h0 h1
         obtain⟨rfl,rfl⟩:=h1 (by decide)
         exact ap 1 [] rfl byC byC byC byC
        ·
         (try simp only[go_sem] at h58b)
         have hx:ii (j.first+s.1) (j.commits.getD s.1 default)=0:=by
          rw[ii,if_neg (by omega),if_neg (by omega),if_neg]
          rintro (h|h)
          ·rw[h] at h58;simp at h58
          ·rw[h] at h58b;simp at h58b
         rw[if_neg (by simpa using hx),← show (j.commits.getD s.1 default).number=j.first+s.1 by omega] at hon
         refine ag ?_
         (try simp only[go_sem])
         refine ab (bc cj [] (.first 0 (.first 1 (.first 2 (.first 3 (.first 4 (.first 5 (.first 6 (.first 7 (.one 8 (.first 9 (.first 10 (.first 11 (.first 12 (.first 13 (.first 14 (.first 15 (.done))))))))))))))))) (by kernel_rfl) ?_)
         simp only[go_sem]
         refine ek (z2a s.2 (j.commits.getD s.1 default).changes (j.commits.getD s.1 default).number hI1.2.1 hcc.2) byW byT ?_
         simp only[go_sem]
         refine ab ?_
         refine aa ?_
         simp only[go_sem]
         intro t81 e81
         subst e81
         refine ah _ rfl (fun h81=>?_) (fun h81=>?_)
         ·
          (try simp only[go_sem] at h81)
          refine aa ?_
          simp only[go_sem]
          refine af ?_
          simp only[go_sem]
          have h:(allP s.2 (j.commits.getD s.1 default).changes (j.commits.getD s.1 default).number).2.2≠0:=by simpa using h81
          rw[if_pos h] at hon
          rw[ph hc0 hf0 hm0 h (lx h hon)] at h0 h1
          obtain⟨rfl,rfl⟩:=h1 h
          exact ap 1 [] rfl byC byC byC byC
         ·
          (try simp only[go_sem] at h81)
          refine ag ?_
          (try simp only[go_sem])
          refine aa ?_
          simp only[go_sem]
          refine aj ?_
          simp only[go_sem]
          repeat first|(with_reducible refine ad ?_ ?_;exact byD)|(with_reducible refine ae ?_ ?_;exact byQ)
          refine aj ?_
          simp only[go_sem]
          intro t90 e90
          (try replace e90:=w64 e90 (by omega) (by omega))
          have h:(allP s.2 (j.commits.getD s.1 default).changes (j.commits.getD s.1 default).number).2.2=0:=by simpa using h81
          rw[if_neg (by simpa using h)] at hon
          refine ke (s.1+1,(allP s.2 (j.commits.getD s.1 default).changes (j.commits.getD s.1 default).number).1) [0,1,2] ⟨by dsimp only;omega,(zcz hI1.2.1 hcc.2 h).ok,hon⟩ (by first|omega|(dsimp only;omega)) ⟨rfl,rfl, ?_, ?_⟩
          ·exact byC
          ·dsimp only
           rw[hkn]
           exact byC
    ·
     (try simp only[go_sem] at h42)
     have hi1:s.1=j.commits.length:=by omega
     have hrun:fk j.base j.first j.commits=(s.2,0):=by
      have:=hI1.2.2
      rwa [hi1,List.take_length] at this
     have htk:(fh j.commits).take s.1=fh j.commits:=List.take_of_length_le (by omega)
     have hop:=zgm hc0 hf0 hm0 hrun
     have hnd:=zsq (fh j.commits)
     rw[htk]
     refine bk ?_
     simp only[go_sem]
     refine ab ?_
     refine aa ?_
     simp only[go_sem]
     intro t96 e96
     subst e96
     refine ah _ rfl (fun h96=>?_) (fun h96=>?_)
     ·
      (try simp only[go_sem] at h96)
      refine aa ?_
      simp only[go_sem]
      refine af ?_
      simp only[go_sem]
      rw[if_neg (hnd.1 (by omega))] at hop
      rw[hop] at h0 h1
      obtain⟨rfl,rfl⟩:=h1 (by decide)
      exact ap 1 [] rfl byC byC byC byC
     ·
      (try simp only[go_sem] at h96)
      refine ag ?_
      (try simp only[go_sem])
      refine aa ?_
      simp only[go_sem]
      refine af ?_
      simp only[go_sem]
      rw[if_pos (Classical.not_not.1 fun e=>h96 (by have:=hnd.2 e;omega))] at hop
      rw[hop] at h0 h1
      obtain⟨rfl,rfl⟩:=h0 rfl
      exact ap 1 [1] rfl byC byC byC byC
end Go.VM.Tryz
end
section
open Go Go.VM Go.Proofs Tether
namespace Go.VM.Tryz
end Go.VM.Tryz
end
section
open Go Go.VM Go.Proofs Tether
namespace Go.VM.Tryz
theorem ug (f:Nat) (caps:List V) (hc:ltrs 0 caps=true) (p:Commit→Bool) (l:List Commit) (hp:∀ x∈l,Meets Tryz.prog f (.agg (cmE x)::caps) (.bool (p x)) []) (hl:l.length<4611686018427387904) :
  Meets Tryz.prog 158 [lstV 3 cmE default l,.fn f [] caps] (.int .i64 (idxF p l)) []:=by
 refine an (fn:=Tryz.f158) Tryz.func158 rfl fb158 (by kernel_rfl) (Nat.le_of_ble_eq_true rfl) ?_
 refine aa ?_
 simp only[go_sem]
 repeat first|(with_reducible refine ad ?_ ?_;exact byD)|(with_reducible refine ae ?_ ?_;exact byQ)
 refine ab ?_
 refine aa ?_
 simp only[go_sem]
 refine ai ?_
 refine bm (σ:=Nat) (fun i=>i≤l.length∧∀ j,j<i→p (l.getD j default)=false) (fun i=>[⟨8,0,[],.int .i64 (i:Nat)⟩]) [0,1,7] (fun i=>l.length-i) 0 ⟨Nat.zero_le _,fun j hj=>absurd hj (Nat.not_lt_zero j)⟩ (Nat.zero_le _) byC (fun i hI1=>?_)
 simp only[go_sem]
 refine aa ?_
 simp only[go_sem]
 repeat first|(with_reducible refine ad ?_ ?_;exact byD)|(with_reducible refine ae ?_ ?_;exact byQ)
 intro t9 e9
 subst e9
 refine ab ?_
 refine ah _ rfl (fun h9=>?_) (fun h9=>?_)
 ·
  (try simp only[go_sem] at h9)
  refine ag ?_
  (try simp only[go_sem])
  refine ab (ai ?_)
  refine aa ?_
  simp only[go_sem]
  refine aa ?_
  simp only[go_sem]
  repeat first|(with_reducible refine ad ?_ ?_;exact byD)|(with_reducible refine ae ?_ ?_;exact byQ)
  refine cw_m (hp (l.getD i default) (bj (by omega))) byW byT ?_
  simp only[go_sem]
  refine ah _ rfl (fun h16=>?_) (fun h16=>?_)
  ·
   (try simp only[go_sem] at h16)
   refine aa ?_
   simp only[go_sem]
   refine af ?_
   simp only[go_sem]
   refine am ?_
   rw[qr (by omega) hI1.2 h16]
  ·
   (try simp only[go_sem] at h16)
   refine ag ?_
   (try simp only[go_sem])
   refine aj ?_
   simp only[go_sem]
   intro t18 e18
   (try replace e18:=w64 e18 (by omega) (by omega))
   refine ay (i+1) ⟨by omega,bw hI1.2 h16⟩ (by first|omega|(dsimp only;omega)) byC
 ·
  (try simp only[go_sem] at h9)
  refine bk ?_
  simp only[go_sem]
  refine aa ?_
  simp only[go_sem]
  refine af ?_
  simp only[go_sem]
  refine am ?_
  rw[om fun j hj=>hI1.2 j (by omega)]
theorem tn (l:List Commit) (hl:l.length*48≤140737488355328):Meets Tryz.prog 121 [lstV 3 cmE default l] (.own none 0 3 0 l.length .loose) [.arr 3 l.length (En cmE default l)]:=by
 refine an (fn:=Tryz.f121) Tryz.func121 rfl fb121 (by kernel_rfl) (Nat.le_of_ble_eq_true rfl) ?_
 refine uc 0 rfl fun b hb=>?_
 refine aa ?_
 simp only[go_sem]
 repeat first|(with_reducible refine ad ?_ ?_;exact byD)|(with_reducible refine ae ?_ ?_;exact byQ)
 refine ab ?_
 refine aa ?_
 simp only[go_sem]
 intro t4 e4
 subst e4
 refine ah _ rfl (fun h4=>?_) (fun h4=>?_)
 ·
  (try simp only[go_sem] at h4)
  have hb:=hb h4
  refine aa ?_
  simp only[go_sem]
  refine fp 2 3 (En cmE default l) rfl ?_
  simp only[go_sem]
  refine af ?_
  simp only[go_sem]
  exact ap 1 [0] rfl byC byC byC byC
 ·
  (try simp only[go_sem] at h4)
  refine ag ?_
  (try simp only[go_sem])
  refine aa ?_
  simp only[go_sem]
  repeat first|(with_reducible refine ad ?_ ?_;exact byD)|(with_reducible refine ae ?_ ?_;exact byQ)
  refine af ?_
  simp only[go_sem]
  exact ap 1 [1] rfl byC byC byC byC
theorem zdk (l:List Change) (hl:l.length*64≤140737488355328):Meets Tryz.prog 122 [lstV 5 Change.enc default l] (.own none 0 5 0 l.length .loose) [.arr 5 l.length (En Change.enc default l)]:=by
 refine an (fn:=Tryz.f122) Tryz.func122 rfl fb122 (by kernel_rfl) (Nat.le_of_ble_eq_true rfl) ?_
 refine uc 0 rfl fun b hb=>?_
 refine aa ?_
 simp only[go_sem]
 repeat first|(with_reducible refine ad ?_ ?_;exact byD)|(with_reducible refine ae ?_ ?_;exact byQ)
 refine ab ?_
 refine aa ?_
 simp only[go_sem]
 intro t4 e4
 subst e4
 refine ah _ rfl (fun h4=>?_) (fun h4=>?_)
 ·
  (try simp only[go_sem] at h4)
  have hb:=hb h4
  refine aa ?_
  simp only[go_sem]
  refine fp 2 5 (En Change.enc default l) rfl ?_
  simp only[go_sem]
  refine af ?_
  simp only[go_sem]
  exact ap 1 [0] rfl byC byC byC byC
 ·
  (try simp only[go_sem] at h4)
  refine ag ?_
  (try simp only[go_sem])
  refine aa ?_
  simp only[go_sem]
  repeat first|(with_reducible refine ad ?_ ?_;exact byD)|(with_reducible refine ae ?_ ?_;exact byQ)
  refine af ?_
  simp only[go_sem]
  exact ap 1 [1] rfl byC byC byC byC
theorem lq (l:List Change) (hl:l.length*64≤140737488355328):Meets Tryz.prog 122 [csV l] (csV l) [] :=
 ((zdk l hl).freeze 1 byC).wk (ak _) byC rfl
theorem zti (j:Journal) (ok:okJ j):Meets Tryz.prog 38 [.agg (jnE j)] (.int .i64 (bl j).2) []:=by
 refine an (fn:=Tryz.f38) Tryz.func38 rfl fb38 (by kernel_rfl) (Nat.le_of_ble_eq_true rfl) ?_
 refine aa ?_
 simp only[go_sem]
 repeat first|(with_reducible refine ad ?_ ?_;exact byD)|(with_reducible refine ae ?_ ?_;exact byQ)
 refine aa ?_
 simp only[go_sem]
 repeat first|(with_reducible refine ad ?_ ?_;exact byD)|(with_reducible refine ae ?_ ?_;exact byQ)
 by_cases hs7:(bl j).2=0
 ·
  refine cw_m (Open_c j ok _ _ (fun _=>⟨rfl,rfl⟩) (fun h=>absurd hs7 h)) byW byT ?_
  simp only[go_sem]
  refine aa ?_
  simp only[go_sem]
  refine af ?_
  simp only[go_sem]
  exact am hs7.symm
 ·
  refine cw_m (Open_c j ok _ _ (fun h=>absurd h hs7) (fun _=>⟨rfl,rfl⟩)) byW byT ?_
  simp only[go_sem]
  refine aa ?_
  simp only[go_sem]
  refine af ?_
  simp only[go_sem]
  exact am rfl
theorem zqi {j:Journal} (h:(bl j).2≠0):(bl j).1=[]:=by
 unfold bl at h ⊢
 grind
theorem nw {j:Journal} (ok:okJ j) (h:(bl j).2=0):FullT (bl j).1:=by
 have h0:dd j.base=0:=by unfold bl at h;grind
 have h1:(fk j.base j.first j.commits).2=0:=by unfold bl at h;grind
 have h2:(bl j).1=(fk j.base j.first j.commits).1:=by unfold bl at h ⊢;grind
 rw[h2]
 exact yr _ _ _ (checkT_iff.1 h0) h1
theorem pg {j:Journal} (h:(bl j).2=0):1≤j.first∧j.first≤1000000∧j.commits.length≤30:=by
 unfold bl at h
 grind
theorem z3m (j:Journal) (ok:okJ j):Meets Tryz.prog 59 [.agg (jnE j)] (.tup [esV (bl j).1,.int .i64 (bl j).2]) []:=by
 refine an (fn:=Tryz.f59) Tryz.func59 rfl fb59 (by kernel_rfl) (Nat.le_of_ble_eq_true rfl) ?_
 refine aa ?_
 simp only[go_sem]
 repeat first|(with_reducible refine ad ?_ ?_;exact byD)|(with_reducible refine ae ?_ ?_;exact byQ)
 refine aa ?_
 simp only[go_sem]
 repeat first|(with_reducible refine ad ?_ ?_;exact byD)|(with_reducible refine ae ?_ ?_;exact byQ)
 by_cases hs8:(bl j).2=0
 ·
  refine cw_m (Open_c j ok _ _ (fun _=>⟨rfl,rfl⟩) (fun h=>absurd hs8 h)) byW byT ?_
  simp only[go_sem]
  have hfl:(bl j).2=0→(bl j).1.length≤60:=fun h=>(nw ok h).len
  refine ab ?_
  refine aa ?_
  simp only[go_sem]
  intro t12 e12
  subst e12
  refine ah _ rfl (fun h12=>ew h12) (fun h12=>?_)
  refine ag ?_
  (try simp only[go_sem])
  refine aa ?_
  simp only[go_sem]
  refine cw_m (kr (bl j).1 (by have:=hfl hs8;omega)) byW byT ?_
  simp only[go_sem]
  refine af ?_
  simp only[go_sem]
  rw[hs8]
  exact ap 1 [] rfl byC byC byC byC
 ·
  refine cw_m (Open_c j ok _ _ (fun h=>absurd h hs8) (fun _=>⟨rfl,rfl⟩)) byW byT ?_
  simp only[go_sem]
  have hfl:(bl j).2=0→(bl j).1.length≤60:=fun h=>(nw ok h).len
  refine ab ?_
  refine aa ?_
  simp only[go_sem]
  intro t12 e12
  subst e12
  refine ah _ rfl (fun h12=>?_) (fun h12=>?_)
  ·
   (try simp only[go_sem] at h12)
   refine aa ?_
   simp only[go_sem]
   refine af ?_
   simp only[go_sem]
   rw[zqi hs8]
   exact ap 1 [] rfl byC byC byC byC
  ·simp_all
theorem zag {α:Type} {enc:α→List V} {d:α} {l:List α} {k o i:Nat} {vs:List V} (hx:spl (enc (l.getD k d)) o vs=enc (l.getD k d)):stF (En enc d l) k o vs i=En enc d l i:=by
 unfold stF
 cases hb:Nat.beq i k with
 | true =>
   have e:i=k:=Nat.eq_of_beq_eq_true hb
   subst e
   simp only[cond,En]
   exact hx
 | false=>simp only[cond,En]
theorem um (l:List Commit) (ok:okMs l):Meets Tryz.prog 153 [cmsV l] (.own none 0 3 0 l.length .loose) [.arr 3 l.length (En cmE default l)]:=by
 refine an (fn:=Tryz.f153) Tryz.func153 rfl fb153 (by kernel_rfl) (Nat.le_of_ble_eq_true rfl) ?_
 have hl:=ok.1
 refine aa ?_
 simp only[go_sem]
 repeat first|(with_reducible refine ad ?_ ?_;exact byD)|(with_reducible refine ae ?_ ?_;exact byQ)
 refine aa ?_
 simp only[go_sem]
 refine cw_m (tn l (by omega)) byW byT ?_
 simp only[go_sem]
 refine ab ?_
 refine aa ?_
 simp only[go_sem]
 refine ai ?_
 refine gz (σ:=Nat) (fun i=>i≤l.length) (fun i=>[⟨9,0,[],.int .i64 (i:Nat)⟩]) [0,2,7,8] (fun i=>[.arr 3 l.length (En cmE default l)]) (fun i=>l.length-i) 0 (by first|trivial|omega|simp) (fun _=>(Nat.zero_le _)) byC (fun i hI1=>?_)
 simp only[go_sem]
 refine aa ?_
 simp only[go_sem]
 repeat first|(with_reducible refine ad ?_ ?_;exact byD)|(with_reducible refine ae ?_ ?_;exact byQ)
 intro t10 e10
 subst e10
 refine ab ?_
 refine ah _ rfl (fun h10=>?_) (fun h10=>?_)
 ·
  (try simp only[go_sem] at h10)
  have hcc:=ok.2 _ (bj (l:=l) (i:=i) (d:=default) (by omega))
  have hch:=hcc.2.1
  refine ag ?_
  (try simp only[go_sem])
  refine ab (ai ?_)
  refine aa ?_
  simp only[go_sem]
  repeat first|(with_reducible refine ad ?_ ?_;exact byD)|(with_reducible refine ae ?_ ?_;exact byQ)
  refine aj ?_
  simp only[go_sem]
  refine cw_m (lq (l.getD i default).changes (by omega)) byW byT ?_
  simp only[go_sem]
  repeat first|(with_reducible refine ad ?_ ?_;exact byD)|(with_reducible refine ae ?_ ?_;exact byQ)
  refine aj ?_
  simp only[go_sem]
  intro t21 e21
  (try replace e21:=w64 e21 (by omega) (by omega))
  refine ke (i+1) [0] (by omega) (by first|omega|(dsimp only;omega)) ⟨rfl,rfl, ?_, ?_⟩
  ·exact byC
  ·simp only[go_sem,wk,wks,wkB,wkH]
   exact fun q hq=>dh (fun _=>rfl) (zag rfl)
 ·
  (try simp only[go_sem] at h10)
  refine bk ?_
  simp only[go_sem]
  refine aa ?_
  simp only[go_sem]
  refine af ?_
  simp only[go_sem]
  exact ap 1 [0] rfl byC byC byC byC
end Go.VM.Tryz
end
section
open Go Go.VM Go.Proofs Tether
namespace Go.VM.Tryz
def noJ:Journal:=⟨[],0,[]⟩
def addJ (j:Journal) (c:Commit):Journal :=
 if 30<j.commits.length+1 then ⟨(allP j.base ((j.commits++[c]).getD 0 default).changes j.first).1,j.first+1,(j.commits++[c]).drop 1⟩ else ⟨j.base,j.first,j.commits++[c]⟩
def isK (key:Str) (c:Commit):Bool:=decide (c.key=key)
def ci (j:Journal) (key:Str) (l:List Change):Journal × Int × Int :=
 if (bl j).2≠0 then (noJ,0,(bl j).2) else if zaw key=false then (noJ,0,1)
 else if 0≤idxF (isK key) j.commits then (j,(j.commits.getD (idxF (isK key) j.commits).toNat default).number,0)
 else if l=[] then (noJ,0,1) else if 1000000<j.first+j.commits.length then (noJ,0,3)
 else if (allP (bl j).1 l (j.first+j.commits.length)).2.2≠0 then (noJ,0,(allP (bl j).1 l (j.first+j.commits.length)).2.2)
 else (addJ j ⟨j.first+j.commits.length,key,l⟩,j.first+j.commits.length,0)
theorem jy (l:List Entry) (hl:l.length*48≤140737488355328):Meets Tryz.prog 101 [esV l] (esV l) [] :=
 ((kr l hl).freeze 1 byC).wk (ak _) byC rfl
theorem isK_c (key:Str) (c:Commit):Meets Tryz.prog 159 [.agg (cmE c),.iptr [.str key] 0] (.bool (isK key c)) []:=by
 refine an (fn:=Tryz.f159) Tryz.func159 rfl fb159 (by kernel_rfl) (Nat.le_of_ble_eq_true rfl) ?_
 refine aa ?_
 simp only[go_sem]
 repeat first|(with_reducible refine ad ?_ ?_;exact byD)|(with_reducible refine ae ?_ ?_;exact byQ)
 refine aa ?_
 simp only[go_sem]
 intro t7 e7
 subst e7
 refine af ?_
 simp only[go_sem]
 exact aq rfl
theorem zhf (j:Journal) (key:Str) (l:List Change) (ok:okJ j) (hk:key.length≤1048576) (okl:okCs l) :
  Meets Tryz.prog 129 [.agg (jnE j),.str key,csV l] (.tup [.agg (jnE (ci j key l).1),.int .i64 (ci j key l).2.1,.int .i64 (ci j key l).2.2]) []:=by
 refine an (fn:=Tryz.f129) Tryz.func129 rfl fb129 (by kernel_rfl) (Nat.le_of_ble_eq_true rfl) ?_
 have hbl:=ok.1.1
 have hcl:=ok.2.1
 have hll:=okl.1
 refine aa ?_
 simp only[go_sem]
 repeat first|(with_reducible refine ad ?_ ?_;exact byD)|(with_reducible refine ae ?_ ?_;exact byQ)
 refine aa ?_
 simp only[go_sem]
 repeat first|(with_reducible refine ad ?_ ?_;exact byD)|(with_reducible refine ae ?_ ?_;exact byQ)
 by_cases hs16:(bl j).2=0
 ·
  refine cw_m (Open_c j ok _ _ (fun _=>⟨rfl,rfl⟩) (fun h=>absurd hs16 h)) byW byT ?_
  simp only[go_sem]
  refine ab (ai ?_)
  refine aa ?_
  simp only[go_sem]
  intro t21 e21
  subst e21
  refine ah _ rfl (fun h19=>ew h19) (fun h19=>?_)
  refine aa ?_
  simp only[go_sem]
  refine cw_m (zmi key (by omega)) byW byT ?_
  simp only[go_sem]
  intro t25 e25
  subst e25
  refine ah _ rfl (fun h22=>?_) (fun h22=>?_)
  ·
   (try simp only[go_sem] at h22)
   refine aj ?_
   simp only[go_sem]
   refine ab ?_
   refine aa ?_
   simp only[go_sem]
   intro t27 e27
   subst e27
   refine ah _ rfl (fun h27=>?_) (fun h27=>ew h27)
   refine aa ?_
   simp only[go_sem]
   refine af ?_
   simp only[go_sem]
   have hc:ci j key l=(noJ,0,1):=by rw[ci,if_neg (by simpa using hs16),if_pos (by simpa using h22)]
   rw[hc]
   exact ap 2 [] rfl byC byC byC byC
  ·
   (try simp only[go_sem] at h22)
   obtain⟨hr1,hr2,hr3⟩:=pg hs16
   have hfl:=nw ok hs16
   have okn:=hfl.ok
   refine ag ?_
   (try simp only[go_sem])
   refine ab ?_
   refine aa ?_
   simp only[go_sem]
   intro t27 e27
   subst e27
   refine ah _ rfl (fun h27=>ew h27) (fun h27=>?_)
   refine ag ?_
   (try simp only[go_sem])
   refine uk ([⟨2,0,[],csV l⟩,⟨3,0,[],.ptr 0 0⟩,⟨4,0,[],.ptr 1 0⟩,⟨6,0,[],.ptr 2 0⟩,⟨9,0,[],.ptr 3 0⟩,⟨11,0,[],.ptr 4 0⟩]) ([.box (jnE j),.box [.str key],.box [.bad,.bad,.bad],.box (kpE j (bl j).1),.box [esV j.base,.int .i64 j.first,.own none 5 3 0 j.commits.length .loose],.arr 3 j.commits.length (En cmE default j.commits)]) (bc cj [10] (.first 0 (.first 1 (.first 3 (.first 4 (.first 5 (.first 6 (.alt 2 (.alt 7 (.first 8 (.one 9 (.one 10 (.done)))) (.one 9 (.one 7 (.first 8 (.one 10 (.done)))))) (.one 9 (.one 2 (.one 7 (.first 8 (.one 10 (.done))))))))))))) (by kernel_rfl) ?_) ?_
   ·
    simp only[go_sem]
    refine⟨?_, ?_⟩
    ·
     refine ek (jy j.base (by omega)) byW byT ?_
     simp only[go_sem]
     refine⟨?_, ?_⟩
     ·
      refine ek (um j.commits ok.2) byW byT ?_
      simp only[go_sem]
      first|(refine⟨[0,1,2,3,4,5],rfl,rfl, ?_, ?_⟩<;>(first|trivial|(simp only[go_sem,wk,wks,wkB,wkH,subw,cn,cm,ltb,subr,dc];done)|(simp only[go_sem,wk,wks,wkB,wkH,subw,cn,cm,ltb,subr,dc];and_intros<;>first|trivial|rfl|omega|assumption|exact Nat.le_refl _|exact ak _|exact bf _|(intros;exact ak _)|(subst_vars;intro q hq;refine dx (fun x=>?_) ?_ ?_;exact ej _ rfl;rfl;simp at hq;omega)|(simp;done)|(simp;omega))))|(refine⟨[0,1,2,3,5,4],rfl,rfl, ?_, ?_⟩<;>(first|trivial|(simp only[go_sem,wk,wks,wkB,wkH,subw,cn,cm,ltb,subr,dc];done)|(simp only[go_sem,wk,wks,wkB,wkH,subw,cn,cm,ltb,subr,dc];and_intros<;>first|trivial|rfl|omega|assumption|exact Nat.le_refl _|exact ak _|exact bf _|(intros;exact ak _)|(subst_vars;intro q hq;refine dx (fun x=>?_) ?_ ?_;exact ej _ rfl;rfl;simp at hq;omega)|(simp;done)|(simp;omega))))
     ·
      refine ek (um j.commits ok.2) byW byT ?_
      simp only[go_sem]
      first|(refine⟨[0,1,2,3,4,5],rfl,rfl, ?_, ?_⟩<;>(first|trivial|(simp only[go_sem,wk,wks,wkB,wkH,subw,cn,cm,ltb,subr,dc];done)|(simp only[go_sem,wk,wks,wkB,wkH,subw,cn,cm,ltb,subr,dc];and_intros<;>first|trivial|rfl|omega|assumption|exact Nat.le_refl _|exact ak _|exact bf _|(intros;exact ak _)|(subst_vars;intro q hq;refine dx (fun x=>?_) ?_ ?_;exact ej _ rfl;rfl;simp at hq;omega)|(simp;done)|(simp;omega))))|(refine⟨[0,1,2,3,5,4],rfl,rfl, ?_, ?_⟩<;>(first|trivial|(simp only[go_sem,wk,wks,wkB,wkH,subw,cn,cm,ltb,subr,dc];done)|(simp only[go_sem,wk,wks,wkB,wkH,subw,cn,cm,ltb,subr,dc];and_intros<;>first|trivial|rfl|omega|assumption|exact Nat.le_refl _|exact ak _|exact bf _|(intros;exact ak _)|(subst_vars;intro q hq;refine dx (fun x=>?_) ?_ ?_;exact ej _ rfl;rfl;simp at hq;omega)|(simp;done)|(simp;omega))))
    ·
     refine ek (jy j.base (by omega)) byW byT ?_
     simp only[go_sem]
     refine ek (um j.commits ok.2) byW byT ?_
     simp only[go_sem]
     first|(refine⟨[0,1,2,3,4,5],rfl,rfl, ?_, ?_⟩<;>(first|trivial|(simp only[go_sem,wk,wks,wkB,wkH,subw,cn,cm,ltb,subr,dc];done)|(simp only[go_sem,wk,wks,wkB,wkH,subw,cn,cm,ltb,subr,dc];and_intros<;>first|trivial|rfl|omega|assumption|exact Nat.le_refl _|exact ak _|exact bf _|(intros;exact ak _)|(subst_vars;intro q hq;refine dx (fun x=>?_) ?_ ?_;exact ej _ rfl;rfl;simp at hq;omega)|(simp;done)|(simp;omega))))|(refine⟨[0,1,2,3,5,4],rfl,rfl, ?_, ?_⟩<;>(first|trivial|(simp only[go_sem,wk,wks,wkB,wkH,subw,cn,cm,ltb,subr,dc];done)|(simp only[go_sem,wk,wks,wkB,wkH,subw,cn,cm,ltb,subr,dc];and_intros<;>first|trivial|rfl|omega|assumption|exact Nat.le_refl _|exact ak _|exact bf _|(intros;exact ak _)|(subst_vars;intro q hq;refine dx (fun x=>?_) ?_ ?_;exact ej _ rfl;rfl;simp at hq;omega)|(simp;done)|(simp;omega))))
   refine ab ?_
   refine aa ?_
   simp only[go_sem]
   refine cw_v 2 (ug 159 [.iptr [.str key] 0] rfl (isK key) j.commits (fun c _=>isK_c key c) (by omega)) byV byC rfl ?_
   simp only[go_sem]
   refine aa ?_
   simp only[go_sem]
   intro t44 e44
   subst e44
   refine ah _ rfl (fun h44=>?_) (fun h44=>?_)
   ·
    (try simp only[go_sem] at h44)
    obtain⟨iK,hiK,hiK1,hiK2,-⟩:=rh default (show ¬ idxF (isK key) j.commits = -1 by omega)
    refine uk ([⟨6,0,[],.ptr 0 0⟩,⟨7,0,[],.int .i64 (j.commits.getD (idxF (isK key) j.commits).toNat default).number⟩,⟨8,0,[],.int .i64 0⟩]) ([.box [esV j.base,.int .i64 j.first,.own none 1 3 0 j.commits.length .loose],.arr 3 j.commits.length (En cmE default j.commits)]) (bc cj [0,1,2,4,5,6,7] (.first 3 (.alt 0 (.alt 1 (.alt 2 (.alt 4 (.alt 5 (.alt 6 (.one 7 (.first 8 (.first 9 (.done)))) (.one 7 (.one 6 (.first 8 (.first 9 (.done)))))) (.one 7 (.one 5 (.one 6 (.first 8 (.first 9 (.done))))))) (.one 7 (.one 4 (.one 5 (.one 6 (.first 8 (.first 9 (.done)))))))) (.one 7 (.one 2 (.one 4 (.one 5 (.one 6 (.first 8 (.first 9 (.done))))))))) (.one 7 (.one 1 (.one 2 (.one 4 (.one 5 (.one 6 (.first 8 (.first 9 (.done)))))))))) (.one 1 (.alt 0 (.alt 2 (.alt 4 (.alt 5 (.alt 6 (.one 7 (.first 8 (.first 9 (.done)))) (.one 7 (.one 6 (.first 8 (.first 9 (.done)))))) (.one 7 (.one 5 (.one 6 (.first 8 (.first 9 (.done))))))) (.one 7 (.one 4 (.one 5 (.one 6 (.first 8 (.first 9 (.done)))))))) (.one 7 (.one 2 (.one 4 (.one 5 (.one 6 (.first 8 (.first 9 (.done))))))))) (.one 2 (.alt 0 (.alt 4 (.alt 5 (.alt 6 (.one 7 (.first 8 (.first 9 (.done)))) (.one 7 (.one 6 (.first 8 (.first 9 (.done)))))) (.one 7 (.one 5 (.one 6 (.first 8 (.first 9 (.done))))))) (.one 7 (.one 4 (.one 5 (.one 6 (.first 8 (.first 9 (.done)))))))) (.one 4 (.alt 0 (.alt 5 (.alt 6 (.one 7 (.first 8 (.first 9 (.done)))) (.one 7 (.one 6 (.first 8 (.first 9 (.done)))))) (.one 7 (.one 5 (.one 6 (.first 8 (.first 9 (.done))))))) (.one 5 (.alt 0 (.alt 6 (.one 7 (.first 8 (.first 9 (.done)))) (.one 7 (.one 6 (.first 8 (.first 9 (.done)))))) (.one 6 (.one 0 (.one 7 (.first 8 (.first 9 (.done)))))))))))))))) (by kernel_rfl) ?_) ?_
    ·((try simp only[hj]);simp only[go_sem];repeat' (first|apply And.intro|(intro x e;(try replace e:=w64 e (by omega) (by omega)))))<;>first|(refine Sd.mk ?_;omega)|(refine Sq.mk ?_;omega)|(refine Sq.mk ?_;and_intros<;>first|trivial|rfl|omega|assumption|exact Nat.le_refl _|exact ak _|exact bf _|(intros;exact ak _)|(simp;done)|(simp;omega))|(refine⟨[2,5],rfl,rfl, ?_, ?_⟩<;>(first|trivial|(simp only[go_sem,wk,wks,wkB,wkH,subw,cn,cm,ltb,subr,dc];done)|(simp only[go_sem,wk,wks,wkB,wkH,subw,cn,cm,ltb,subr,dc];and_intros<;>first|trivial|rfl|omega|assumption|exact Nat.le_refl _|exact ak _|exact bf _|(intros;exact ak _)|(subst_vars;intro q hq;refine dx (fun x=>?_) ?_ ?_;exact ej _ rfl;rfl;simp at hq;omega)|(simp;done)|(simp;omega))))
    refine af ?_
    simp only[go_sem]
    have hkk:¬ zaw key=false:=by simpa using h22
    have hc:ci j key l=(j,(j.commits.getD (idxF (isK key) j.commits).toNat default).number,0):=by rw[ci,if_neg (by simpa using hs16),if_neg hkk,if_pos h44]
    rw[hc]
    exact ap 2 [] rfl byC byC byC byC
   ·
    (try simp only[go_sem] at h44)
    have hkk:¬ zaw key=false:=by simpa using h22
    have hc0:ci j key l=if l=[] then (noJ,0,1) else if 1000000<j.first+j.commits.length then (noJ,0,3)
      else if (allP (bl j).1 l (j.first+j.commits.length)).2.2≠0 then (noJ,0,(allP (bl j).1 l (j.first+j.commits.length)).2.2)
      else (addJ j ⟨j.first+j.commits.length,key,l⟩,j.first+j.commits.length,0):=by
     rw[ci,if_neg (by simpa using hs16),if_neg hkk,if_neg h44]
    refine ag ?_
    (try simp only[go_sem])
    refine aa ?_
    simp only[go_sem]
    refine cw_v 2 (zhj j (bl j).1 (by omega) (by omega) hcl) byV byC rfl ?_
    simp only[go_sem]
    intro t54 e54
    (try replace e54:=w64 e54 (by omega) (by omega))
    obtain rfl:t54=j.first+j.commits.length:=by omega
    refine ab (ai ?_)
    refine aa ?_
    simp only[go_sem]
    intro t69 e69
    subst e69
    refine ah _ rfl (fun h66=>?_) (fun h66=>?_)
    ·
     (try simp only[go_sem] at h66)
     refine aj ?_
     simp only[go_sem]
     refine ab ?_
     refine aa ?_
     simp only[go_sem]
     intro t74 e74
     subst e74
     refine ah _ rfl (fun h74=>?_) (fun h74=>ew h74)
     refine aa ?_
     simp only[go_sem]
     refine af ?_
     simp only[go_sem]
     have hc:ci j key l=(noJ,0,1):=by rw[hc0,if_pos (List.length_eq_zero_iff.1 (by omega))]
     rw[hc]
     exact ap 2 [] rfl byC byC byC byC
    ·
     (try simp only[go_sem] at h66)
     have hne:¬ l=[]:=by rintro rfl;simp at h66
     refine aa ?_
     simp only[go_sem]
     intro t72 e72
     subst e72
     refine ah _ rfl (fun h70=>?_) (fun h70=>?_)
     ·
      (try simp only[go_sem] at h70)
      refine aj ?_
      simp only[go_sem]
      refine ab ?_
      refine aa ?_
      simp only[go_sem]
      intro t74 e74
      subst e74
      refine ah _ rfl (fun h74=>?_) (fun h74=>ew h74)
      refine aa ?_
      simp only[go_sem]
      refine af ?_
      simp only[go_sem]
      have hc:ci j key l=(noJ,0,3):=by rw[hc0,if_neg hne,if_pos h70]
      rw[hc]
      exact ap 2 [] rfl byC byC byC byC
     ·
      (try simp only[go_sem] at h70)
      refine aj ?_
      simp only[go_sem]
      refine cw_m (z2a (bl j).1 l (j.first+j.commits.length) okn okl) byW byT ?_
      simp only[go_sem]
      refine ab ?_
      refine aa ?_
      simp only[go_sem]
      intro t74 e74
      subst e74
      refine ah _ rfl (fun h74=>?_) (fun h74=>?_)
      ·
       (try simp only[go_sem] at h74)
       refine aa ?_
       simp only[go_sem]
       refine af ?_
       simp only[go_sem]
       have h:(allP (bl j).1 l (j.first+j.commits.length)).2.2≠0:=by simpa using h74
       have hc:ci j key l=(noJ,0,(allP (bl j).1 l (j.first+j.commits.length)).2.2):=by rw[hc0,if_neg hne,if_neg h70,if_pos h]
       rw[hc]
       exact ap 2 [] rfl byC byC byC byC
      ·
       (try simp only[go_sem] at h74)
       have h:¬ (allP (bl j).1 l (j.first+j.commits.length)).2.2≠0:=by simpa using h74
       have hc:ci j key l=(addJ j ⟨j.first+j.commits.length,key,l⟩,j.first+j.commits.length,0):=by rw[hc0,if_neg hne,if_neg h70,if_neg h]
       refine ag ?_
       (try simp only[go_sem])
       refine uk ([⟨6,0,[],.ptr 0 0⟩,⟨11,0,[],.ptr 1 0⟩,⟨13,0,[],.int .i64 (j.first+j.commits.length)⟩]) ([.box [.bad,.bad,.bad],.box [esV j.base,.int .i64 j.first,.own none 2 3 0 (j.commits++[Commit.mk (j.first+j.commits.length) key l]).length .loose],.arr 3 (j.commits++[Commit.mk (j.first+j.commits.length) key l]).length (En cmE default (j.commits++[Commit.mk (j.first+j.commits.length) key l]))]) (bc cj [8,10] (.first 0 (.first 1 (.first 2 (.first 3 (.first 4 (.one 5 (.first 6 (.one 7 (.one 8 (.first 9 (.one 10 (.done)))))))))))) (by kernel_rfl) ?_) ?_
       ·
        simp only[go_sem]
        refine ek (lq l (by omega)) byW byT ?_
        simp only[go_sem]
        repeat first|(with_reducible refine ad ?_ ?_;exact byD)|(with_reducible refine ae ?_ ?_;exact byQ)
        first|(refine⟨[2,4,7],rfl,rfl, ?_, ?_⟩<;>(first|trivial|(simp only[go_sem,wk,wks,wkB,wkH,subw,cn,cm,ltb,subr,dc];done)|(simp only[go_sem,wk,wks,wkB,wkH,subw,cn,cm,ltb,subr,dc];and_intros<;>first|trivial|rfl|omega|assumption|exact Nat.le_refl _|exact ak _|exact bf _|(intros;exact ak _)|(subst_vars;intro q hq;refine dx (fun x=>?_) ?_ ?_;exact ej _ rfl;rfl;simp at hq;omega)|(simp;done)|(simp;omega))))
       refine ab ?_
       refine aa ?_
       simp only[go_sem]
       intro t90 e90
       subst e90
       refine ah _ rfl (fun h90=>?_) (fun h90=>?_)
       ·
        (try simp only[go_sem] at h90)
        have hcs0:okCs ((j.commits++[Commit.mk (j.first+j.commits.length) key l]).getD 0 default).changes:=by
         rcases hc:j.commits with _ | ⟨c,cs⟩
         ·rw[hc] at h90;simp at h90
         ·exact (ok.2.2 c (by rw[hc];simp)).2
        refine uk ([⟨6,0,[],.ptr 0 0⟩,⟨11,0,[],.ptr 1 0⟩,⟨13,0,[],.int .i64 (j.first+j.commits.length)⟩]) ([.box [.bad,.bad,.bad],.box [esV (allP j.base ((j.commits++[Commit.mk (j.first+j.commits.length) key l]).getD 0 default).changes j.first).1,.int .i64 j.first,.own none 2 3 0 (j.commits++[Commit.mk (j.first+j.commits.length) key l]).length .loose],.arr 3 (j.commits++[Commit.mk (j.first+j.commits.length) key l]).length (En cmE default (j.commits++[Commit.mk (j.first+j.commits.length) key l]))]) (bc cj [15] (.first 0 (.first 1 (.first 2 (.first 3 (.first 4 (.first 5 (.first 6 (.first 7 (.first 8 (.one 9 (.first 10 (.first 11 (.first 12 (.first 13 (.first 14 (.one 15 (.done))))))))))))))))) (by kernel_rfl) ?_) ?_
        ·
         simp only[go_sem]
         repeat first|(with_reducible refine ad ?_ ?_;exact byD)|(with_reducible refine ae ?_ ?_;exact byQ)
         refine ek (z2a j.base ((j.commits++[Commit.mk (j.first+j.commits.length) key l]).getD 0 default).changes j.first ok.1 hcs0) byW byT ?_
         simp only[go_sem]
         first|(refine⟨[0,1,2],rfl,rfl, ?_, ?_⟩<;>(first|trivial|(simp only[go_sem,wk,wks,wkB,wkH,subw,cn,cm,ltb,subr,dc];done)|(simp only[go_sem,wk,wks,wkB,wkH,subw,cn,cm,ltb,subr,dc];and_intros<;>first|trivial|rfl|omega|assumption|exact Nat.le_refl _|exact ak _|exact bf _|(intros;exact ak _)|(subst_vars;intro q hq;refine dx (fun x=>?_) ?_ ?_;exact ej _ rfl;rfl;simp at hq;omega)|(simp;done)|(simp;omega))))
        refine aa ?_
        simp only[go_sem]
        intro t108 e108
        (try replace e108:=w64 e108 (by omega) (by omega))
        refine aj ?_
        simp only[go_sem]
        repeat first|(with_reducible refine ad ?_ ?_;exact byD)|(with_reducible refine ae ?_ ?_;exact byQ)
        refine aa ?_
        simp only[go_sem]
        refine af ?_
        simp only[go_sem]
        rw[hc,addJ,if_pos (by simp at h90;omega)]
        exact ap 2 [] rfl byC byC byC byC
       ·
        (try simp only[go_sem] at h90)
        refine ag ?_
        (try simp only[go_sem])
        refine aa ?_
        simp only[go_sem]
        refine af ?_
        simp only[go_sem]
        rw[hc,addJ,if_neg (by simp at h90;omega)]
        exact ap 2 [] rfl byC byC byC byC
 ·
  refine cw_m (Open_c j ok _ _ (fun h=>absurd h hs16) (fun _=>⟨rfl,rfl⟩)) byW byT ?_
  simp only[go_sem]
  refine ab (ai ?_)
  refine aa ?_
  simp only[go_sem]
  intro t21 e21
  subst e21
  refine ah _ rfl (fun h19=>?_) (fun h19=>?_)
  ·
   (try simp only[go_sem] at h19)
   refine ag ?_
   (try simp only[go_sem])
   refine ab ?_
   refine aa ?_
   simp only[go_sem]
   intro t27 e27
   subst e27
   refine ah _ rfl (fun h27=>?_) (fun h27=>?_)
   ·
    (try simp only[go_sem] at h27)
    refine aa ?_
    simp only[go_sem]
    refine af ?_
    simp only[go_sem]
    have hc:ci j key l=(noJ,0,(bl j).2):=by rw[ci,if_pos hs16]
    rw[hc]
    exact ap 2 [] rfl byC byC byC byC
   ·simp_all
  ·simp_all
end Go.VM.Tryz
end
