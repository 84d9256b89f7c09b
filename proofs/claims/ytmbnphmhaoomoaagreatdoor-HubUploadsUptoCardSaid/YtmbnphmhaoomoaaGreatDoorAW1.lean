import Derived.Test.YtmbnphmhaoomoaaGreatDoorAV5
import Derived.Lib.Bytealg
set_option maxHeartbeats 4000000
set_option linter.unusedVariables false
set_option linter.unusedSimpArgs false
section
open Go Go.VM
namespace Tether
abbrev Str:=List UInt8
abbrev wrap (n:Int):Int:=IntKind.i64.wrap n
def xq (c:Int):Bool:=decide (97≤c) && decide (c≤122) || decide (65≤c) && decide (c≤90) || decide (48≤c) && decide (c≤57) || decide (0≤Go.Lib.indexByte [45,95,46,40,41,32] c.toNat.toUInt8)
def at8 (s:Str) (i:Nat):Int:=((s.getD i 0).toNat:Int)
def ba (s:Str):Bool :=
 !(decide (s=[]) || decide (20<(s.length:Int)) || decide (s=[46]) || decide (s=[46,46])) && !(decide (at8 s 0=32) || decide (at8 s (s.length-1)=32)) && (List.range s.length).all fun i=>xq (at8 s i)
structure Session where
 num:Int
 who:Str
 text:Str
 size:Int
 till:Int
 deriving Inhabited,DecidableEq
structure Uploads where
 ss:List Session
 next:Int
 lasts:Int
 room:Int
 deriving Inhabited,DecidableEq
def Session.enc (s:Session):List V:=[.int .i64 s.num,.str s.who,.str s.text,.int .i64 s.size,.int .i64 s.till]
abbrev ssV (l:List Session):V:=lstV 5 Session.enc default l
def Uploads.enc (u:Uploads):V:=.agg [ssV u.ss,.int .i64 u.next,.int .i64 u.lasts,.int .i64 u.room]
attribute [go_sem] Session.enc Uploads.enc
def na (n a b:Int):Bool:=decide (a≤n) && decide (n≤b)
def iy (l:List Session) (who:Str):Int:=l.foldl (fun n s=>if s.who=who then wrap (n+s.size) else n) 0
def db (u:Uploads) (s:Session):Int :=
 if (!na s.num 1 (wrap (u.next-1)) || !na s.size 0 300 || !na s.till 0 2199023255552)=true then 3
 else if ba s.who=false then 1
 else if s.size<(s.text.length:Int) then 2 else 0
def bh {α:Type} (f:α→Int):List α→Int
 | []=>0
 | x::l=>if f x≠0 then f x else bh f l
def gb (l:List Session) (i:Nat):Bool:=decide ((l.getD (i-1) default).num<(l.getD i default).num)
def dj (u:Uploads):Int :=
 if (!na u.lasts 1 1000000 || !na u.room 0 100000 || !na u.next 1 1099511627776)=true then 3
 else if 20<(u.ss.length:Int) then 2
 else if bh (db u) u.ss≠0 then bh (db u) u.ss
 else if ((List.range u.ss.length).all fun i=>i=0 || gb u.ss i)=false then 4
 else if (u.ss.all fun s=>decide (iy u.ss s.who≤u.room))=false then 10
 else 0
theorem mc {α β:Type} (f:β→α→β) (a:β) (l:List α) (d:α) {i:Nat} (h:i<l.length):(l.take (i+1)).foldl f a=f ((l.take i).foldl f a) (l.getD i d):=by
 rw[List.take_succ_eq_append_getElem h,List.foldl_append]
 simp[List.getD,h]
theorem dq {α:Type} {f:α→Int} {l:List α} {d:α} {i:Nat} (hi:i<l.length) (hb:∀ j,j<i→f (l.getD j d)=0) (h:f (l.getD i d)≠0):bh f l=f (l.getD i d):=by
 induction l generalizing i with
 | nil=>simp at hi
 | cons x l ih =>
   cases i with
   | zero=>simpa [bh] using fun h'=>absurd h' (by simpa using h)
   | succ i =>
     have h0:=hb 0 (by omega)
     simp at h0
     simp only[bh,h0]
     simpa using ih (by simpa using hi) (fun j hj=>by simpa using hb (j+1) (by omega)) (by simpa using h)
theorem fw {α:Type} {f:α→Int} {l:List α} {d:α} (hb:∀ j,j<l.length→f (l.getD j d)=0):bh f l=0:=by
 induction l with
 | nil=>rfl
 | cons x l ih =>
   have h0:=hb 0 (by simp)
   simp at h0
   simp only[bh,h0]
   simpa using ih fun j hj=>by simpa using hb (j+1) (by simpa using hj)
theorem bw {p:Nat→Prop} {i:Nat} (h:∀ j,j<i→p j) (hi:p i):∀ j,j<i+1→p j:=fun j hj=>by
 rcases Nat.lt_or_ge j i with h' | h'
 ·exact h j h'
 ·obtain rfl:j=i:=by omega
  exact hi
theorem zcy {α:Type} {l:List α} {d:α} {i q:Nat} (h:q<i):(l.take i).getD q d=l.getD q d:=by
 simp[List.getD,List.getElem?_take,h]
theorem bj {α:Type} {l:List α} {d:α} {i:Nat} (h:i<l.length):l.getD i d∈l:=by
 simp[List.getD,h]
theorem dl {n i:Nat} {p:Nat→Bool} (hi:i<n) (h:p i=false):(List.range n).all p=false:=by
 rw[List.all_eq_false];exact⟨i,by simpa using hi,by simpa using h⟩
theorem dk {n:Nat} {p:Nat→Bool} (h:∀ i,i<n→p i=true):(List.range n).all p=true:=by
 rw[List.all_eq_true];exact fun i hi=>h i (by simpa using hi)
theorem zoq {α:Type} {l:List α} {p:α→Bool} {d:α} {i:Nat} (hi:i<l.length) (h:p (l.getD i d)=false):l.all p=false:=by
 rw[List.all_eq_false];exact⟨l[i],List.getElem_mem hi,by simpa [List.getD,hi] using h⟩
theorem zoa {α:Type} {l:List α} {p:α→Bool} {d:α} (h:∀ i,i<l.length→p (l.getD i d)=true):l.all p=true:=by
 rw[List.all_eq_true]
 intro x hx
 obtain⟨i,hi,rfl⟩:=List.getElem_of_mem hx
 simpa [List.getD,hi] using h i hi
end Tether
end
section
open Go Go.VM
namespace Tether
def idxF {α:Type} (p:α→Bool) (l:List α):Int:=match l.findIdx? p with|some i=>(i:Int)|none=>-1
theorem qr {α:Type} {p:α→Bool} {l:List α} {d:α} {i:Nat} (hi:i<l.length) (hb:∀ j,j<i→p (l.getD j d)=false) (h:p (l.getD i d)=true):idxF p l=i:=by
 have:l.findIdx? p=some i:=by
  rw[List.findIdx?_eq_some_iff_getElem]
  refine⟨hi,by simpa [List.getD,hi] using h,fun j hj=>?_⟩
  have hj':j<l.length:=by omega
  simpa [List.getD,hj'] using hb j hj
 rw[idxF,this]
theorem om {α:Type} {p:α→Bool} {l:List α} {d:α} (hb:∀ j,j<l.length→p (l.getD j d)=false):idxF p l = -1:=by
 have:l.findIdx? p=none:=by
  rw[List.findIdx?_eq_none_iff]
  intro x hx
  obtain⟨i,hi,rfl⟩:=List.getElem_of_mem hx
  simpa [List.getD,hi] using hb i hi
 rw[idxF,this]
theorem rh {α:Type} {p:α→Bool} {l:List α} (d:α) (h:¬ idxF p l = -1):∃ i:Nat,idxF p l=(i:Int)∧i<l.length∧p (l.getD i d)=true∧(l.take (i+1)).filter (fun x=>!p x)=l.take i:=by
 unfold idxF at h ⊢
 cases hf:l.findIdx? p with
 | none=>rw[hf] at h;exact absurd rfl h
 | some i =>
   rw[List.findIdx?_eq_some_iff_getElem] at hf
   obtain⟨hi,h1,h2⟩:=hf
   refine⟨i,rfl,hi,by simpa [List.getD,hi] using h1, ?_⟩
   rw[List.take_succ_eq_append_getElem hi,List.filter_append]
   simp only[List.filter_cons,h1,Bool.not_true,List.filter_nil]
   simp only[Bool.false_eq_true,if_false,List.append_nil]
   rw[List.filter_eq_self]
   intro x hx
   obtain⟨j,hj,rfl⟩:=List.getElem_of_mem hx
   have:=h2 j (by simp at hj;omega)
   simpa using this
theorem zhn {α:Type} {p:α→Bool} {l:List α} (h:idxF p l = -1):l.filter (fun x=>!p x)=l:=by
 rw[List.filter_eq_self]
 unfold idxF at h
 cases hf:l.findIdx? p with
 | some i=>rw[hf] at h;simp at h
 | none =>
   rw[List.findIdx?_eq_none_iff] at hf
   intro x hx
   simp[hf x hx]
theorem zhl {α:Type} {p:α→Bool} {l L:List α} {d:α} {i j:Nat} (h1:i<j) (h2:j<l.length) (h3:L.length=l.length) (h4:L.take i=(l.take j).filter (fun x=>!p x)) (h5:L.drop j=l.drop j) (hp:p (L.getD j d)=false) :
  (L.set i (L.getD j d)).take (i+1)=(l.take (j+1)).filter (fun x=>!p x)∧(L.set i (L.getD j d)).drop (j+1)=l.drop (j+1):=by
 have e:L.getD j d=l.getD j d:=by
  have:=congrArg (fun l=>l.getD 0 d) h5
  simpa [List.getD] using this
 constructor
 ·rw[List.take_succ_eq_append_getElem (by simp;omega),List.take_set,List.set_eq_of_length_le (by simp;omega),h4]
  rw[List.take_succ_eq_append_getElem h2,List.filter_append]
  have:l[j]=l.getD j d:=by simp[List.getD,h2]
  rw[this,← e]
  rw[List.getElem_set_self]
  generalize L.getD j d=y at hp ⊢
  simp[hp]
 ·rw[List.drop_set_of_lt (by omega)]
  have:=congrArg (List.drop 1) h5
  simpa [List.drop_drop,Nat.add_comm] using this
theorem zhk {α:Type} {p:α→Bool} {l L:List α} {d:α} {i j:Nat} (h2:j<l.length) (h4:L.take i=(l.take j).filter (fun x=>!p x)) (h5:L.drop j=l.drop j) (hp:p (L.getD j d)=true) :
  L.take i=(l.take (j+1)).filter (fun x=>!p x)∧L.drop (j+1)=l.drop (j+1):=by
 have e:L.getD j d=l.getD j d:=by
  have:=congrArg (fun l=>l.getD 0 d) h5
  simpa [List.getD] using this
 constructor
 ·rw[List.take_succ_eq_append_getElem h2,List.filter_append,h4]
  have:l[j]=l.getD j d:=by simp[List.getD,h2]
  rw[this,← e]
  generalize L.getD j d=y at hp ⊢
  simp[hp]
 ·have:=congrArg (List.drop 1) h5
  simpa [List.drop_drop,Nat.add_comm] using this
theorem zaf {α:Type} {p:α→Bool} {l:List α}:decide (0≤idxF p l)=l.any p:=by
 unfold idxF
 cases hf:l.findIdx? p with
 | some i =>
   rw[List.findIdx?_eq_some_iff_getElem] at hf
   obtain⟨hi,h1,_⟩:=hf
   have:l.any p=true:=List.any_eq_true.2 ⟨l[i],List.getElem_mem hi,h1⟩
   rw[this];simp
 | none =>
   rw[List.findIdx?_eq_none_iff] at hf
   have:l.any p=false:=List.any_eq_false.2 fun x hx=>by simp[hf x hx]
   rw[this];simp
end Tether
end
section
open Go Go.VM
namespace Tether
theorem zlk {t20 t21 t22 t23:Int} {a b:Nat} (h:a+b<9223372036854775808) (e20:t20=(a:Int)+(b:Int)) (e21:t21=IntKind.u64.wrap t20) (e22:t22=t21.fdiv (2 ^ 1)) (e23:t23=IntKind.i64.wrap t22):t23=(((a+b) / 2:Nat):Int):=by
 have h1:IntKind.u64.wrap t20=t20:=by
  simp only[IntKind.wrap,IntKind.signed,IntKind.bits];simp;omega
 have h2:t22=(((a+b) / 2:Nat):Int):=by
  rw[e22,e21,h1,e20,Int.fdiv_eq_ediv_of_nonneg _ (by decide)]
  simp
 rw[e23,h2]
 exact zyc (by omega) (by omega)
section
variable {α:Type} {enc:α→List V} {d:α} {l:List α}
theorem zij {i q:Nat} {x:α} (hi:i≤l.length) (hq:q<l.length+1):En enc d (l.take i++x::l.drop i) q=if q<i then En enc d l q else if q=i then enc x else En enc d l (q-1):=by
 have hl:(l.take i).length=i:=by simp;omega
 simp only[En,List.getD_eq_getElem?_getD]
 by_cases h1:q<i
 ·rw[if_pos h1,List.getElem?_append_left (by omega),List.getElem?_take,if_pos h1]
 ·rw[if_neg h1,List.getElem?_append_right (by omega),hl]
  by_cases h2:q=i
  ·rw[if_pos h2,h2];simp
  ·rw[if_neg h2]
   obtain⟨k,hk⟩:∃ k,q-i=k+1:=⟨q-i-1,by omega⟩
   rw[hk,List.getElem?_cons_succ,List.getElem?_drop]
   have:i+k=q-1:=by omega
   rw[this]
theorem dh (h:∀ x,ltrs 0 (enc x)=true) {g:Nat→Option Nat} {f:Nat→List V} {l':List α} {q:Nat} (he:f q=En enc d l' q):wks (mpF (rnVs g) f q) (En enc d l' q):=by
 simp only[mpF,he,En,ej _ (h _)];exact ak _
theorem zas {i q k m:Nat} {x:α} {z:List V} {v:Nat→List V} (hv:∀ j,v j=enc x) (hi:i<l.length) (hq:q<l.length+1) (hk:k=l.length-i) (hm:m=1) :
  over (i+1) k (En enc d (l.drop i)) (over i m v (join i (En enc d l) fun _=>z)) q=En enc d (l.take i++x::l.drop i) q:=by
 subst hm
 rw[zij (Nat.le_of_lt hi) hq,← zqx]
 unfold over
 by_cases h1:q<i
 ·rw[if_neg (by omega),if_neg (by omega),if_pos h1]
  unfold join
  rw[show Nat.blt q i=true by simpa using h1]
  rfl
 ·rw[if_neg h1]
  by_cases h2:q=i
  ·rw[if_neg (by omega),if_pos (by omega),if_pos h2,hv]
  ·rw[if_pos (by omega),if_neg h2]
   unfold shF
   congr 1
   omega
theorem zqo {i q k m:Nat} {x:α} {v:Nat→List V} (hv:∀ j,v j=enc x) (hi:i<l.length) (hq:q<l.length+1) (hk:k=l.length-i) (hm:m=1) :
  over i m v (over (i+1) k (En enc d (l.drop i)) (En enc d l)) q=En enc d (l.take i++x::l.drop i) q:=by
 subst hm
 rw[zij (Nat.le_of_lt hi) hq,← zqx]
 unfold over
 by_cases h1:q<i
 ·rw[if_neg (by omega),if_neg (by omega),if_pos h1]
 ·rw[if_neg h1]
  by_cases h2:q=i
  ·rw[if_pos (by omega),if_pos h2,hv]
  ·rw[if_neg (by omega),if_pos (by omega),if_neg h2]
   unfold shF
   congr 1
   omega
theorem zex {i q:Nat} {x:α} {v:Nat→List V} (hv:∀ j,v j=enc x) (hi:i=l.length) (hq:q<l.length+1) :
  over i 1 v (En enc d l) q=En enc d (l.take i++x::l.drop i) q:=by
 rw[zij (Nat.le_of_eq hi) hq]
 unfold over
 by_cases h1:q<i
 ·rw[if_neg (by omega),if_pos h1]
 ·rw[if_neg h1,if_pos (by omega),if_pos (by omega),hv]
theorem zay {i q:Nat} {x:α} {v:Nat→List V} (hv:∀ j,v j=enc x) (hi:i=l.length) (hq:q<l.length+1) :
  join i (En enc d l) v q=En enc d (l.take i++x::l.drop i) q:=by
 rw[zij (Nat.le_of_eq hi) hq]
 unfold join
 by_cases h1:q<i
 ·rw[if_pos h1,show Nat.blt q i=true by simpa using h1]
  rfl
 ·rw[if_neg h1,if_pos (by omega)]
  have:Nat.blt q i=false:=by
   cases hb:Nat.blt q i with
   | false=>rfl
   | true=>exact absurd (by simpa using hb) h1
  rw[this]
  exact hv _
end
end Tether
end
section
open Go Go.VM
namespace Tether
theorem re:∀ (x y:Str),Op.bytesLess x y=true↔x<y
 | _,[]=>by simp[Op.bytesLess]
 | [],_::_=>by simp[Op.bytesLess]
 | a::x,b::y=>by
   rw[List.cons_lt_cons_iff]
   simp only[Op.bytesLess,Bool.or_eq_true,Bool.and_eq_true,decide_eq_true_eq,beq_iff_eq,re x y]
theorem blt_iff {a b:Str}:blt a b=true↔a<b:=re a b
theorem blt_eq {a b:Str}:blt a b=decide (a<b):=by
 cases h:blt a b with
 | true=>simp[blt_iff.1 h]
 | false =>
   have:¬ a<b:=fun h'=>by rw[blt_iff.2 h'] at h;cases h
   simp[this]
theorem qk (a b:Str):a<b∨a=b∨b<a:=by
 by_cases h1:a<b
 ·exact .inl h1
 ·by_cases h2:b<a
  ·exact .inr (.inr h2)
  ·exact .inr (.inl (List.le_antisymm h2 h1))
def strE (s:Str):List V:=[.str s]
abbrev strsV (l:List Str):V:=lstV 1 strE [] l
attribute [go_sem] strE
def numE (n:Int):List V:=[.int .i64 n]
attribute [go_sem] numE
def cmpS (a b:Str):Int:=if blt a b=true then -1 else if blt b a=true then 1 else 0
theorem cmpS_lt {a b:Str}:cmpS a b<0↔a<b:=by
 unfold cmpS
 by_cases h:a<b
 ·simp[blt_iff.2 h,h]
 ·rw[if_neg (by rw[blt_iff];exact h)]
  split<;>simp[h]
theorem cmpS_eq {a b:Str}:cmpS a b=0↔a=b:=by
 unfold cmpS
 by_cases h:a<b
 ·have:a≠b:=fun e=>by subst e;exact List.lt_irrefl a h
  simp[blt_iff.2 h,this]
 ·rw[if_neg (by rw[blt_iff];exact h)]
  by_cases h2:b<a
  ·have:a≠b:=fun e=>by subst e;exact List.lt_irrefl a h2
   simp[blt_iff.2 h2,this]
  ·rw[if_neg (by rw[blt_iff];exact h2)]
   rcases qk a b with h3|h3|h3
   ·exact absurd h3 h
   ·simp[h3]
   ·exact absurd h3 h2
def jf (ks:List Str):List (Str × Bool):=ks.foldl (fun m k=>aSet m k true) []
def jw {α:Type} (l:List (Str × α)):List Str:=l.map (·.1)
theorem zxn {a b:Str}:keq a b=decide (a=b):=rfl
theorem yu {α:Type} (l:List (Str × α)) (k:Str) (v:α):jw (aSet l k v)=if k∈jw l then jw l else jw l++[k]:=by
 induction l with
 | nil=>simp[aSet,jw]
 | cons x l ih =>
   unfold aSet
   by_cases h:x.1=k
   ·rw[show keq x.1 k=true by simp[zxn,h]]
    simp[jw,h]
   ·rw[show keq x.1 k=false by simp[zxn,h]]
    have:jw (x::aSet l k v)=x.1::jw (aSet l k v):=rfl
    rw[cond_false,this,ih]
    have hk:¬ k=x.1:=fun e=>h e.symm
    by_cases hm:k∈jw l
    ·rw[if_pos hm,if_pos (by simp[jw] at hm ⊢;exact .inr hm)];rfl
    ·rw[if_neg hm,if_neg (by simp[jw,hk] at hm ⊢;exact hm)];rfl
theorem pt (ks:List Str):(jw (jf ks)).Nodup∧∀ k,k∈jw (jf ks)↔k∈ks:=by
 have gen:∀ (ks:List Str) (m:List (Str × Bool)),(jw m).Nodup→(jw (ks.foldl (fun m k=>aSet m k true) m)).Nodup∧∀ k,k∈jw (ks.foldl (fun m k=>aSet m k true) m)↔k∈jw m∨k∈ks:=by
  intro ks
  induction ks with
  | nil=>intro m hm;exact⟨hm,by simp⟩
  | cons x ks ih =>
    intro m hm
    have h1:(jw (aSet m x true)).Nodup:=by
     rw[yu]
     split
     ·exact hm
     ·rename_i hx
      rw[List.nodup_append]
      refine⟨hm,by simp, ?_⟩
      intro a ha b hb
      simp at hb
      subst hb
      rintro rfl
      exact hx ha
    obtain⟨g1,g2⟩:=ih _ h1
    refine⟨g1,fun k=>?_⟩
    rw[List.foldl_cons,g2,yu]
    split
    ·rename_i hx
     simp only[List.mem_cons]
     constructor
     ·rintro (h|h)
      ·exact .inl h
      ·exact .inr (.inr h)
     ·rintro (h|h|h)
      ·exact .inl h
      ·subst h;exact .inl hx
      ·exact .inr h
    ·simp only[List.mem_append,List.mem_cons,List.not_mem_nil,or_false,or_assoc]
 obtain⟨h1,h2⟩:=gen ks [] (by simp[jw])
 exact⟨h1,fun k=>by rw[show jf ks=ks.foldl (fun m k=>aSet m k true) [] from rfl,h2];simp[jw]⟩
theorem sc (ks:List Str) (k:Str):jf (ks++[k])=aSet (jf ks) k true:=by simp[jf]
theorem ns {α:Type} [DecidableEq α]:∀ {A B:List α},A.Nodup→(∀ a∈A,a∈B)→A.length≤B.length
 | [],_,_,_=>Nat.zero_le _
 | a::A,B,hA,h=>by
   have ha:=h a (by simp)
   have hA':=List.nodup_cons.1 hA
   have:=ns (A:=A) (B:=B.erase a) hA'.2 fun x hx=>by
    have hne:x≠a:=fun e=>hA'.1 (e ▸ hx)
    exact (List.mem_erase_of_ne hne).2 (h x (by simp[hx]))
   rw[List.length_erase_of_mem ha] at this
   have hpos:0<B.length:=List.length_pos_of_mem ha
   simp;omega
theorem zsr {α:Type} [DecidableEq α] {A B:List α} (hA:A.Nodup) (hB:B.Nodup) (h:∀ a∈A,a∈B):A.length=B.length↔∀ b∈B,b∈A:=by
 constructor
 ·intro he b hb
  apply Classical.byContradiction
  intro hn
  have:=ns (A:=b::A) (B:=B) (List.nodup_cons.2 ⟨hn,hA⟩) (fun x hx=>by rcases List.mem_cons.1 hx with rfl|hx;exact hb;exact h x hx)
  simp at this;omega
 ·intro h'
  exact Nat.le_antisymm (ns hA h) (ns hB h')
theorem zcm {A B:List Str} (h:∀ a∈A,a∈B):(jf A).length=(jf B).length↔∀ b∈B,b∈A:=by
 obtain⟨a1,a2⟩:=pt A
 obtain⟨b1,b2⟩:=pt B
 have:=zsr a1 b1 (fun a ha=>(b2 a).2 (h a ((a2 a).1 ha)))
 simp only[jw,List.length_map] at this
 rw[this]
 constructor
 ·intro hh b hb;exact (a2 b).1 (hh b ((b2 b).2 hb))
 ·intro hh b hb;exact (a2 b).2 (hh b ((b2 b).1 hb))
theorem zwx (A:List Str):(jf A).length≤A.length:=by
 obtain⟨a1,a2⟩:=pt A
 have:=ns a1 (fun a ha=>(a2 a).1 ha)
 simpa [jw] using this
theorem keysF_lt {A:List Str}:(jf A).length=A.length↔A.Nodup:=by
 obtain⟨a1,a2⟩:=pt A
 constructor
 ·intro h
  have gen:∀ {A B:List Str},B.Nodup→(∀ b∈B,b∈A)→(∀ a∈A,a∈B)→B.length=A.length→A.Nodup:=by
   intro A
   induction A with
   | nil=>intros;simp
   | cons a A ih =>
     intro B hB h1 h2 hl
     by_cases ha:a∈A
     ·exfalso
      have:=ns (A:=B) (B:=A) hB (fun b hb=>by rcases List.mem_cons.1 (h1 b hb) with rfl|h;exact ha;exact h)
      simp at hl;omega
     ·refine List.nodup_cons.2 ⟨ha,ih (B:=B.erase a) (hB.erase a) ?_ ?_ ?_⟩
      ·intro b hb
       have hm:=(hB.mem_erase_iff).1 hb
       rcases List.mem_cons.1 (h1 b hm.2) with e|h
       ·exact absurd e hm.1
       ·exact h
      ·intro x hx
       have hne:x≠a:=fun e=>ha (e ▸ hx)
       exact (hB.mem_erase_iff).2 ⟨hne,h2 x (by simp[hx])⟩
      ·rw[List.length_erase_of_mem (h2 a (by simp))];simp at hl;omega
  exact gen a1 (fun b hb=>(a2 b).1 hb) (fun a ha=>(a2 a).2 ha) (by simpa [jw] using h)
 ·intro h
  exact Nat.le_antisymm (zwx A) (by
   have:=ns h (fun a ha=>(a2 a).2 ha)
   simpa [jw] using this)
end Tether
end
section
open Go Go.VM
namespace Tether
def Uploads.ok (u:Uploads):Prop:=u.ss.length*56≤140737488355328∧∀ s∈u.ss,s.who.length<4611686018427387904∧s.text.length<4611686018427387904
theorem Uploads.ok.len {u:Uploads} (h:u.ok):u.ss.length<4611686018427387904:=by have:=h.1;omega
abbrev Uploads.own (u:Uploads):V:=.agg [.own none 0 5 0 u.ss.length .loose,.int .i64 u.next,.int .i64 u.lasts,.int .i64 u.room]
abbrev Uploads.blk (u:Uploads):Heap:=[.arr 5 u.ss.length (En Session.enc default u.ss)]
abbrev noU:V:=.agg [.nil,.int .i64 0,.int .i64 0,.int .i64 0]
def swept (u:Uploads) (now:Int):Uploads:={ u with ss:=u.ss.filter fun s=>!decide (s.till<now) }
theorem yq {u:Uploads} {now:Int}:(swept u now).next=u.next:=rfl
theorem zfz {u:Uploads} {now:Int}:(swept u now).lasts=u.lasts:=rfl
theorem zkz {u:Uploads} {now:Int}:(swept u now).room=u.room:=rfl
attribute [go_sem] yq zfz zkz
def cz (u:Uploads) (now:Int):Int:=if ¬ dj u=0 then dj u else if na now 0 1099511627776=false then 3 else 0
def rt (who:Str) (number:Int) (s:Session):Bool:=decide (s.num=number) && decide (s.who=who)
def dv (u:Uploads) (who:Str) (number now:Int):Int:=idxF (rt who number) (swept u now).ss
def ck (u:Uploads) (who:Str) (number now:Int):Int :=
 if ¬ cz u now=0 then cz u now else if ba who=false then 1 else if dv u who number now<0 then 5 else 0
def yb:Uploads:=⟨[],0,0,0⟩
def fb (u:Uploads) (who:Str) (size now:Int):Int :=
 if ¬ cz u now=0 then cz u now else if ba who=false then 1
 else if na size 0 300=false∨u.next=1099511627776 then 3
 else if ((swept u now).ss.length:Int)=20 then 2
 else if u.room<wrap (iy (swept u now).ss who+size) then 10 else 0
def ip (u:Uploads) (who:Str) (size now:Int):Uploads × Int × Int :=
 if fb u who size now=0 then ({ swept u now with ss:=(swept u now).ss++[⟨u.next,who,[],size,now+u.lasts⟩],next:=u.next+1 },u.next,0)
 else (yb,0,fb u who size now)
theorem within_iff {n a b:Int}:na n a b=true↔a≤n∧n≤b:=by simp[na]
theorem xh {u:Uploads} (h:dj u=0):(1≤u.lasts∧u.lasts≤1000000)∧(0≤u.room∧u.room≤100000)∧(1≤u.next∧u.next≤1099511627776)∧u.ss.length≤20∧∀ s∈u.ss,db u s=0:=by
 unfold dj at h
 split at h
 ·simp at h
 rename_i h1
 split at h
 ·simp at h
 rename_i h2
 split at h
 ·rename_i h3;exact absurd h h3
 rename_i h3
 simp only[Bool.or_eq_true,Bool.not_eq_true',not_or,Bool.not_eq_false,within_iff] at h1
 refine⟨h1.1.1,h1.1.2,h1.2,by omega,fun s hs=>?_⟩
 have h3:bh (db u) u.ss=0:=by simpa using h3
 clear h h1 h2
 generalize u.ss=l at h3 hs
 induction l with
 | nil=>cases hs
 | cons x l ih =>
   unfold bh at h3
   split at h3
   ·rename_i h4;exact absurd h3 h4
   ·rename_i h4
    rcases List.mem_cons.1 hs with rfl|hs
    ·simpa using h4
    ·exact ih h3 hs
theorem ni {u:Uploads} {now:Int} (h:cz u now=0):dj u=0∧0≤now∧now≤1099511627776:=by
 unfold cz at h
 split at h
 ·rename_i h1;exact absurd h h1
 ·rename_i h1
  split at h
  ·simp at h
  ·rename_i h2
   have h2:na now 0 1099511627776=true:=by simpa using h2
   rw[within_iff] at h2
   exact⟨by simpa using h1,h2⟩
def la (u:Uploads) (who:Str) (number now:Int):Int × Int :=
 if ck u who number now=0 then ((((swept u now).ss.getD (dv u who number now).toNat default).text.length:Int),0) else (0,ck u who number now)
def bz (u:Uploads) (who:Str) (number offset:Int) (text:Str) (now:Int):Uploads × Int × Int :=
 if ck u who number now=0 then
  let i:=(dv u who number now).toNat
  let s:=(swept u now).ss.getD i default
  if (0≤offset∧offset≤(s.text.length:Int))∧s.text.drop offset.toNat=text then (swept u now,(s.text.length:Int),0)
  else if ¬ offset=(s.text.length:Int) then (yb,0,4)
  else if s.size<(s.text.length:Int)+(text.length:Int) then (yb,0,2)
  else ({ swept u now with ss:=(swept u now).ss.set i { s with text:=s.text++text,till:=now+u.lasts } },((s.text++text).length:Int),0)
 else (yb,0,ck u who number now)
def fd (u:Uploads) (who:Str) (number now:Int):Uploads × Str × Int :=
 if ck u who number now=0 then
  let i:=(dv u who number now).toNat
  let s:=(swept u now).ss.getD i default
  if (s.text.length:Int)<s.size then (yb,[],4)
  else ({ swept u now with ss:=(swept u now).ss.take i++(swept u now).ss.drop (i+1) },s.text,0)
 else (yb,[],ck u who number now)
theorem zqy {u:Uploads} {who:Str} {number now:Int} (h:cz u now=0) (h1:ba who=false):ck u who number now=1:=by rw[ck,if_neg (by simp[h]),if_pos h1]
theorem zmt {u:Uploads} {who:Str} {number now:Int} (h:cz u now=0) (h1:¬ ba who=false) (h2:dv u who number now<0):ck u who number now=5:=by rw[ck,if_neg (by simp[h]),if_neg h1,if_pos h2]
theorem zqg {u:Uploads} {who:Str} {number now:Int} (h:cz u now=0) (h1:¬ ba who=false) (h2:¬ dv u who number now<0):ck u who number now=0:=by rw[ck,if_neg (by simp[h]),if_neg h1,if_neg h2]
theorem jx {u:Uploads} {who:Str} {number now:Int} (h:ck u who number now=0):cz u now=0∧ba who=true∧0≤dv u who number now:=by
 unfold ck at h
 split at h
 ·rename_i h1;exact absurd h h1
 rename_i h1
 split at h
 ·simp at h
 rename_i h2
 split at h
 ·simp at h
 rename_i h3
 exact⟨by simpa using h1,by simpa using h2,by omega⟩
theorem nb {u:Uploads} {who:Str} {number now:Int} (h:ck u who number now=0):0≤dv u who number now∧dv u who number now<((swept u now).ss.length:Int):=by
 have h1:=(jx h).2.2
 refine⟨h1, ?_⟩
 unfold dv at h1 ⊢
 obtain⟨i,h2,h3,_⟩:=rh (p:=rt who number) (l:=(swept u now).ss) default (by omega)
 omega
theorem zhu {u:Uploads} {who:Str} {number now:Int} (h:ck u who number now=0):(swept u now).ss.getD (dv u who number now).toNat default∈u.ss:=by
 obtain⟨h1,h2⟩:=nb h
 exact (List.mem_filter.1 (bj (l:=(swept u now).ss) (d:=default) (by omega))).1
theorem zbk {u:Uploads} (hu:u.ok) (now:Int):(swept u now).ss.length<4611686018427387904:=by
 have:=hu.len
 have:(swept u now).ss.length≤u.ss.length:=List.length_filter_le _ _
 omega
end Tether
end
section
open Go Go.VM
namespace Tether
structure Grant where
 folder:Str
 who:Str
 right:Int
 deriving Inhabited,DecidableEq
def Grant.enc (g:Grant):List V:=[.str g.folder,.str g.who,.int .i64 g.right]
abbrev gsV (l:List Grant):V:=lstV 3 Grant.enc default l
attribute [go_sem] Grant.enc
def ky (a b:Grant):Int:=if ¬ cmpS a.folder b.folder=0 then cmpS a.folder b.folder else cmpS a.who b.who
def gq (a b:Grant):Prop:=a.folder<b.folder∨a.folder=b.folder∧a.who<b.who
def uf (a b:Grant):Prop:=a.folder=b.folder∧a.who=b.who
theorem order_lt {a b:Grant}:ky a b<0↔gq a b:=by
 unfold ky gq
 by_cases h:a.folder=b.folder
 ·rw[if_neg (by simp[cmpS_eq.2 h]),cmpS_lt]
  simp[h,List.lt_irrefl]
 ·rw[if_pos (by rw[cmpS_eq];exact h),cmpS_lt]
  simp[h]
theorem order_eq {a b:Grant}:ky a b=0↔uf a b:=by
 unfold ky uf
 by_cases h:a.folder=b.folder
 ·rw[if_neg (by simp[cmpS_eq.2 h]),cmpS_eq]
  simp[h]
 ·rw[if_pos (by rw[cmpS_eq];exact h),cmpS_eq]
  simp[h]
theorem qh {a b c:Grant} (h:gq a b) (k:gq b c):gq a c:=by
 unfold gq at *
 rcases h with h | ⟨h1,h2⟩<;>rcases k with k | ⟨k1,k2⟩
 ·exact .inl (List.lt_trans h k)
 ·exact .inl (k1 ▸ h)
 ·exact .inl (h1 ▸ k)
 ·exact .inr ⟨h1.trans k1,List.lt_trans h2 k2⟩
theorem zeg (a:Grant):¬ gq a a:=by
 rintro (h | ⟨_,h⟩)<;>exact List.lt_irrefl _ h
theorem zlu (a b:Grant):gq a b∨uf a b∨gq b a:=by
 unfold gq uf
 rcases qk a.folder b.folder with h|h|h
 ·exact .inl (.inl h)
 ·rcases qk a.who b.who with k|k|k
  ·exact .inl (.inr ⟨h,k⟩)
  ·exact .inr (.inl ⟨h,k⟩)
  ·exact .inr (.inr (.inr ⟨h.symm,k⟩))
 ·exact .inr (.inr (.inl h))
theorem sj {a b c:Grant} (h:gq a b) (k:uf b c):gq a c:=by
 unfold gq uf at *
 rw[← k.1,← k.2];exact h
def gErr (g:Grant):Int:=if (ba g.folder && ba g.who)=false then 1 else if g.right<1∨3<g.right then 3 else 0
def oc (l:List Grant) (i:Nat):Bool:=decide (ky (l.getD (i-1) default) (l.getD i default)<0)
def mg (l:List Grant):Bool:=l.all fun g=>l.any fun h=>decide (h.folder=g.folder) && decide (h.right=3)
def eo (l:List Grant):Int :=
 if 60<(l.length:Int) then 2
 else if ¬ bh gErr l=0 then bh gErr l
 else if ((List.range l.length).all fun i=>i=0 || oc l i)=false then 4
 else if mg l=false then 5 else 0
def okG (l:List Grant):Prop:=l.length*40≤140737488355328∧∀ g∈l,g.folder.length<4611686018427387904∧g.who.length<4611686018427387904
theorem okG.len {l:List Grant} (h:okG l):l.length<4611686018427387904:=by have:=h.1;omega
theorem zky {l:List Grant}:decide ((jf ((l.filter fun g=>decide (g.right=3)).map (·.folder))).length=(jf (l.map (·.folder))).length)=mg l:=by
 have:=zcm (A:=(l.filter fun g=>decide (g.right=3)).map (·.folder)) (B:=l.map (·.folder)) (fun a ha=>by
  obtain⟨g,hg,rfl⟩:=List.mem_map.1 ha
  exact List.mem_map.2 ⟨g,(List.mem_filter.1 hg).1,rfl⟩)
 have key:mg l=true↔∀ b∈l.map (·.folder),b∈(l.filter fun g=>decide (g.right=3)).map (·.folder):=by
  unfold mg
  simp only[List.all_eq_true,List.any_eq_true,Bool.and_eq_true,decide_eq_true_eq,List.mem_map,List.mem_filter]
  constructor
  ·rintro h b ⟨g,hg,rfl⟩
   obtain⟨x,h1,h2,h3⟩:=h g hg
   exact⟨x,⟨h1,h3⟩,h2⟩
  ·intro h g hg
   obtain⟨x,⟨h1,h3⟩,h2⟩:=h g.folder ⟨g,hg,rfl⟩
   exact⟨x,h1,h2,h3⟩
 cases ho:mg l with
 | true=>simpa using this.2 (key.1 ho)
 | false =>
   have:¬ (jf ((l.filter fun g=>decide (g.right=3)).map (·.folder))).length=(jf (l.map (·.folder))).length:=fun h=>by
    have:=key.2 (this.1 h);rw[this] at ho;cases ho
   simpa using this
def ec (l:List Grant):Prop:=l.Pairwise gq
theorem ot {l:List Grant} (h:((List.range l.length).all fun i=>i=0 || oc l i)=true):ec l:=by
 have hr:∀ i,i+1<l.length→gq (l.getD i default) (l.getD (i+1) default):=by
  intro i hi
  rw[List.all_eq_true] at h
  have:=h (i+1) (by simpa using hi)
  simp[oc] at this
  exact order_lt.1 (by simpa [List.getD] using this)
 unfold ec
 clear h
 induction l with
 | nil=>exact List.Pairwise.nil
 | cons x l ih =>
   have ih:=ih fun i hi=>by simpa using hr (i+1) (by simpa using hi)
   refine List.pairwise_cons.2 ⟨fun y hy=>?_,ih⟩
   cases l with
   | nil=>cases hy
   | cons z l =>
     have h0:gq x z:=by simpa using hr 0 (by simp)
     rcases List.mem_cons.1 hy with rfl|hy
     ·exact h0
     ·exact qh h0 ((List.pairwise_cons.1 ih).1 y hy)
theorem xa {l:List Grant} (h:ec l):((List.range l.length).all fun i=>i=0 || oc l i)=true:=by
 rw[List.all_eq_true]
 intro i hi
 cases i with
 | zero=>simp
 | succ i =>
   have hi:i+1<l.length:=by simpa using hi
   simp[oc]
   refine order_lt.2 ?_
   have:=List.pairwise_iff_getElem.1 h i (i+1) (by omega) hi (by omega)
   simpa [List.getD,hi,show i<l.length by omega] using this
theorem firstErr_zero {α:Type} {f:α→Int} {l:List α}:bh f l=0↔∀ x∈l,f x=0:=by
 induction l with
 | nil=>simp[bh]
 | cons x l ih =>
   unfold bh
   by_cases h:f x=0
   ·simp[h,ih]
   ·simp[h]
structure GoodG (l:List Grant):Prop where
 len:l.length≤60
 each:∀ g∈l,gErr g=0
 rise:ec l
 own:mg l=true
theorem checkG_iff {l:List Grant}:eo l=0↔GoodG l:=by
 unfold eo
 constructor
 ·intro h
  split at h
  ·simp at h
  rename_i h1
  split at h
  ·rename_i h2;exact absurd h h2
  rename_i h2
  split at h
  ·simp at h
  rename_i h3
  split at h
  ·simp at h
  rename_i h4
  exact⟨by omega,firstErr_zero.1 (by simpa using h2),ot ((Bool.not_eq_false _).mp h3),by simpa using h4⟩
 ·intro h
  rw[if_neg (by have:=h.len;omega),if_neg (by simpa using firstErr_zero.2 h.each),if_neg (by simp only[xa h.rise];simp),if_neg (by simp[h.own])]
def gIx (l:List Grant) (f w:Str):Nat:=l.findIdx fun g=>decide (0≤ky g ⟨f,w,0⟩)
def isG (f w:Str) (g:Grant):Bool:=decide (g.folder=f) && decide (g.who=w)
def dm (l:List Grant) (f w:Str):Int:=match l.find? (isG f w) with|some g=>g.right|none=>0
theorem zbn (l:List Grant) (f w:Str):gIx l f w≤l.length:=List.findIdx_le_length
theorem zik {l:List Grant} {f w:Str} {j:Nat} (h:j<gIx l f w):ky (l.getD j default) ⟨f,w,0⟩<0:=by
 have hj:j<l.length:=Nat.lt_of_lt_of_le h (zbn l f w)
 have:=List.not_of_lt_findIdx h
 simp only[decide_eq_true_eq,Bool.not_eq_true,decide_eq_false_iff_not] at this
 rw[List.getD_eq_getElem?_getD,List.getElem?_eq_getElem hj]
 simpa using this
theorem zib {l:List Grant} (hs:ec l) {f w:Str} {j:Nat} (h:gIx l f w≤j) (hj:j<l.length):0≤ky (l.getD j default) ⟨f,w,0⟩:=by
 have hk:gIx l f w<l.length:=Nat.lt_of_le_of_lt h hj
 have h1:0≤ky (l[gIx l f w]) ⟨f,w,0⟩:=of_decide_eq_true (List.findIdx_getElem (p:=fun g=>decide (0≤ky g ⟨f,w,0⟩)) (w:=hk))
 rw[List.getD_eq_getElem?_getD,List.getElem?_eq_getElem hj]
 simp only[Option.getD_some]
 rcases Nat.eq_or_lt_of_le h with e|hlt
 ·subst e;exact h1
 ·have h2:gq l[gIx l f w] l[j]:=List.pairwise_iff_getElem.1 hs _ _ hk hj hlt
  have h3:¬ gq l[gIx l f w] ⟨f,w,0⟩:=fun h=>by have:=order_lt.2 h;omega
  have h4:¬ ky l[j] ⟨f,w,0⟩<0:=fun h=>h3 (qh h2 (order_lt.1 h))
  omega
theorem isG_iff {f w:Str} {g:Grant}:isG f w g=true↔ky g ⟨f,w,0⟩=0:=by
 rw[order_eq];simp[isG,uf]
theorem wm {l:List Grant} (hs:ec l) (f w:Str):dm l f w=if gIx l f w<l.length∧ky (l.getD (gIx l f w) default) ⟨f,w,0⟩=0 then (l.getD (gIx l f w) default).right else 0:=by
 unfold dm
 by_cases h:gIx l f w<l.length∧ky (l.getD (gIx l f w) default) ⟨f,w,0⟩=0
 ·rw[if_pos h]
  obtain⟨h1,h2⟩:=h
  have hg:l.find? (isG f w)=some (l.getD (gIx l f w) default):=by
   rw[List.find?_eq_some_iff_getElem]
   refine⟨isG_iff.2 h2,gIx l f w,h1,by simp[List.getD,h1],fun j hj=>?_⟩
   have:=zik hj
   simp only[Bool.not_eq_true',← Bool.not_eq_true,isG_iff]
   have hjl:j<l.length:=by omega
   rw[List.getD_eq_getElem?_getD,List.getElem?_eq_getElem hjl] at this
   simp at this
   omega
  rw[hg]
 ·rw[if_neg h]
  have hg:l.find? (isG f w)=none:=by
   rw[List.find?_eq_none]
   intro x hx
   rw[isG_iff]
   intro h0
   obtain⟨j,hj,rfl⟩:=List.getElem_of_mem hx
   have e:l.getD j default=l[j]:=by simp[List.getD,hj]
   rcases Nat.lt_or_ge j (gIx l f w) with h1|h1
   ·have:=zik h1;rw[e] at this;omega
   ·apply h
    have hk:gIx l f w<l.length:=by omega
    refine⟨hk, ?_⟩
    rcases Nat.eq_or_lt_of_le h1 with h2|h2
    ·rw[h2,e];exact h0
    ·have h3:gq l[gIx l f w] l[j]:=List.pairwise_iff_getElem.1 hs _ _ hk hj h2
     have h4:=order_lt.2 (sj h3 (order_eq.1 h0))
     have h5:=zib hs (Nat.le_refl _) hk (f:=f) (w:=w)
     have e2:l.getD (gIx l f w) default=l[gIx l f w]:=by simp[List.getD,hk]
     rw[e2] at h5
     omega
  rw[hg]
def hasG (l:List Grant) (f w:Str):Bool:=decide (gIx l f w<l.length) && decide (ky (l.getD (gIx l f w) default) ⟨f,w,0⟩=0)
def putG (l:List Grant) (f w:Str) (r:Int):List Grant :=
 l.take (gIx l f w)++(if r=0 then [] else [⟨f,w,r⟩])++l.drop (if hasG l f w=true then gIx l f w+1 else gIx l f w)
def ed (l:List Grant) (f by_ w:Str) (r:Int):Int :=
 if (ba f && ba by_ && ba w)=false then 1
 else if r<0∨3<r then 3
 else if ¬ dm l f by_=3∧¬ (by_=w∧r=0) then 9
 else if r=0∧dm l f w=0 then 5
 else if ((putG l f w r).any fun g=>decide (g.folder=f) && decide (g.right=3))=false then 4
 else if 60<((putG l f w r).length:Int) then 2 else 0
def en (l:List Grant) (f w:Str):Int :=
 if (ba f && ba w)=false then 1
 else if (l.any fun g=>decide (g.folder=f))=true then 6
 else if (l.length:Int)=60 then 2 else 0
end Tether
end
