import Derived.Test.YtmbnphmhaoomoaaGreatDoorAV4
import Derived.SizedLaws
import Derived.ChangeSame
import Derived.Carry
import Derived.JoinedOf
import Derived.ChangeCalls
set_option linter.unusedVariables false
set_option linter.unusedSimpArgs false
set_option maxHeartbeats 4000000
open Go.ChangeShapes Go.WideShapes Go.ChangeAt Go.RowKit
namespace Go.VM.U
abbrev wctx (W:World):Ctx:=⟨W,fun b=>b<W.heap.size,[]⟩
def RdC (W:World) (cs:List Value) (vs:List V):Prop:=cs.length=vs.length∧One vs.length (fun j=>cs[j]?)∧VRs (wctx W) vs fun j=>cs[j]?
mutual
def bulk {H:Type}:DataW H→Nat
 | .lit (.string bytes)=>bytes.length+1
 | .lit _=>1
 | .nil=>1
 | .ptr d=>bulk d+1
 | .slice elems spare=>bulkAll elems+bulkAll spare+1
 | .agg parts=>bulkAll parts+1
 | .iface _ d=>bulk d+1
 | .map entries=>kd entries+1
 | .held _=>1
def bulkAll {H:Type}:List (DataW H)→Nat
 | []=>0
 | d::r=>bulk d+bulkAll r
def kd {H:Type}:List (Lit × DataW H)→Nat
 | []=>0
 | x::r=>ww x+kd r
def ww {H:Type}:Lit × DataW H→Nat
 | (.string bytes,d)=>bytes.length+bulk d+1
 | (_,d)=>bulk d+1
end
theorem zuo {H:Type} (d:DataW H):1≤bulk d:=by
 cases d with
 | lit l=>cases l<;>simp[bulk]
 | nil=>simp[bulk]
 | ptr d=>simp[bulk]
 | slice elems spare=>simp[bulk]
 | agg parts=>simp[bulk]
 | iface t d=>simp[bulk]
 | map entries=>simp[bulk]
 | held h=>simp[bulk]
theorem zul {H:Type} {d:DataW H} {l:List (DataW H)} (h:d∈l):bulk d≤bulkAll l:=by
 induction l with
 | nil=>cases h
 | cons x r ih =>
   simp only[bulkAll]
   cases List.mem_cons.1 h with
   | inl e=>subst e;omega
   | inr e=>have:=ih e;omega
theorem zfu {H:Type} (l:List (DataW H)):l.length≤bulkAll l:=by
 induction l with
 | nil=>simp
 | cons x r ih=>have:=zuo x;simp only[bulkAll,List.length_cons];omega
theorem zeu {H:Type} (l r:List (DataW H)):bulkAll (l++r)=bulkAll l+bulkAll r:=by
 induction l with
 | nil=>simp[bulkAll]
 | cons x l ih=>simp only[List.cons_append,bulkAll,ih];omega
abbrev upB:Nat:=1048576
structure Rdr (P:Program) (t:TypeId) {α:Type} (E:Nat) (e:α→List V) (ok:α→Prop):Prop where
 len:∀ a,(e a).length=E
 cells:P.cellsOf t=E
 rd:∀ {H:Type} {enc:TypeId × Value→H} {W:World} {fuel:Nat} {cs:List Value} {x:DataW H × List MemPlace},
  DataW.trod enc P W 0 (fun _=>true) true fuel t cs=some x→bulk x.1≤upB→∃ a,ok a∧RdC W cs (e a)
section
variable {P:Program} {t:TypeId}
theorem RdC.one {W:World} {c:Value} {v:V} (h1:c.oneCell'=true) (h:VR (wctx W) v c):RdC W [c] [v]:=by
 refine⟨rfl, ?_, ?_⟩
 ·intro j x hj hx
  obtain rfl:j=0:=by simpa using hj
  simp at hx
  subst hx
  exact h1
 ·simp[VRs,h]
theorem Rdr.int {k:IntKind} (ht:P.underlying t=some (.int k)) (hc:P.cellsOf t=1):Rdr P t 1 (fun n:Int=>[V.int k n]) (fun n=>(Lit.int k n).wf=true) where
 len _:=rfl
 cells:=hc
 rd h _:=by
  obtain⟨n,rfl,rfl,hn⟩:=DataW.trod_int ht h
  exact⟨n,hn,RdC.one rfl (by simp[VR])⟩
theorem Rdr.bool (ht:P.underlying t=some .bool) (hc:P.cellsOf t=1):Rdr P t 1 (fun b:Bool=>[V.bool b]) (fun _=>True) where
 len _:=rfl
 cells:=hc
 rd h _:=by
  obtain⟨n,rfl,rfl⟩:=DataW.trod_bool ht h
  exact⟨n,trivial,RdC.one rfl (by simp[VR])⟩
theorem Rdr.str (ht:P.underlying t=some .string) (hc:P.cellsOf t=1):Rdr P t 1 (fun s:List UInt8=>[V.str s]) (fun s=>s.length≤upB) where
 len _:=rfl
 cells:=hc
 rd h hw:=by
  obtain⟨s,rfl,rfl,_⟩:=DataW.trod_string ht h
  exact⟨s.data.toList,Nat.le_of_succ_le (show s.data.toList.length+1≤upB from hw),RdC.one rfl (by simp[VR])⟩
theorem zga {w:World} {base:Nat} {a:Addr} {n:Nat} {cs:List Value} (h:w.cells? base a n=some cs):cs.length=n∧∀ j,j<n→w.cell? (a.add j)=cs[j]?:=by
 unfold World.cells? at h
 split at h
 ·refine⟨by simpa using mapM_some_length h,fun j hj=>?_⟩
  exact mapM_some_get h j j (by simp[hj])
 ·cases h
theorem zdd (a:Addr) (m n:Nat):(a.add m).add n=a.add (m+n):=by
 by_cases hm:m=0<;>by_cases hn:n=0<;>simp[Addr.add,hm,hn,Nat.add_assoc]
theorem yc (a:Addr) (m:Nat):(a.add m).block=a.block:=by
 by_cases hm:m=0<;>simp[Addr.add,hm]
theorem zjs {w:World} {a:Addr} {v:Value} (h:w.cell? a=some v):a.block<w.heap.size:=by
 refine Classical.byContradiction fun hn=>?_
 have e:w.heap[a.block]? = none:=by simp[Array.getElem?_eq_none_iff];omega
 simp[World.cell?,e] at h
theorem zzm {α:Type} {p:Nat→α→Prop} (n:Nat) (h:∀ i,i<n→∃ a,p i a):∃ l:List α,l.length=n∧∀ i a,l[i]? = some a→p i a:=by
 induction n with
 | zero=>exact⟨[],rfl,by simp⟩
 | succ n ih =>
   obtain⟨l,hl,hp⟩:=ih fun i hi=>h i (by omega)
   obtain⟨a,ha⟩:=h n (by omega)
   refine⟨l++[a],by simp[hl],fun i b hb=>?_⟩
   rw[List.getElem?_append] at hb
   split at hb
   ·exact hp i b hb
   ·rename_i hi
    have:i-l.length=0:=by
     refine Classical.byContradiction fun hn=>?_
     rw[List.getElem?_eq_none (by simp;omega)] at hb
     cases hb
    rw[this] at hb
    simp at hb
    obtain rfl:i=n:=by omega
    exact hb ▸ ha
theorem Rdr.slice {te:TypeId} {α:Type} {E:Nat} {e:α→List V} {ok:α→Prop} (r:Rdr P te E e ok) (h0:0<E) (d:α) (ht:P.underlying t=some (.slice te)) (hc:P.cellsOf t=1) :
  Rdr P t 1 (fun l:List α=>[lstV E e d l]) (fun l=>l.length≤upB∧∀ a∈l,ok a) where
 len _:=rfl
 cells:=hc
 rd {H enc W fuel cs x} h hw:=by
  rcases DataW.trod_slice ht h with ⟨rfl,rfl⟩ | ⟨a,len,cap,elems,rest,n,rfl,rfl,rfl,hb,hlc,hcm,hel,hat,_,_⟩
  ·refine⟨[],⟨by simp,by simp⟩,RdC.one rfl ?_⟩
   simp only[VR]
   exact⟨none,0,rfl,by simp,by simp,by simp[Nlr],by simp,by simp⟩
  ·simp only[bulk] at hw
   have hwe:∀ y∈elems,bulk y.1≤upB:=fun y hy=>by
    have:=zul (List.mem_map_of_mem (f:=(·.1)) hy)
    omega
   have hlb:=zfu (elems.map (·.1))
   simp only[List.length_map] at hlb
   have hone:∀ i,i<len→∃ b:α,ok b∧∃ cs',W.cells? 0 (a.add (i*E)) E=some cs'∧RdC W cs' (e b):=by
    intro i hi
    have hx:=hat i hi
    rw[r.cells] at hx
    obtain⟨y,hy⟩:∃ y,elems[i]? = some y:=by simp[hel,hi]
    rw[hy] at hx
    obtain⟨cs',h1,h2⟩:=Option.bind_eq_some_iff.1 hx
    obtain⟨b,hb1,hb2⟩:=r.rd h2 (hwe y (List.mem_of_getElem? hy))
    exact⟨b,hb1,cs',h1,hb2⟩
   obtain⟨l,hl,hp⟩:=zzm len hone
   refine⟨l,⟨?_,fun b hb'=>?_⟩,RdC.one rfl ?_⟩
   ·omega
   ·obtain⟨i,hi,hi'⟩:=List.getElem_of_mem hb'
    exact (hp i b (by rw[List.getElem?_eq_getElem hi,hi'])).1
   ·simp only[VR]
    refine⟨some a,cap,by rw[hl],by omega,by simp,by simp[Nlr],by simp,fun i hi=>?_⟩
    obtain⟨b,hb⟩:∃ b,l[i]? = some b:=by simp[hi]
    obtain⟨_,cs',hcs,hlen,hone',hvr⟩:=hp i b hb
    obtain⟨hl1,hl2⟩:=zga hcs
    have hen:En e d l i=e b:=by simp[En,List.getD,hb]
    have hcell:∀ j,j<E→W.cell? (a.add (i*E+j))=cs'[j]?:=fun j hj=>by
     have:=hl2 j hj
     rwa [show (a.add (i*E)).add j=a.add (i*E+j) from zdd a _ _] at this
    have hE:(e b).length=E:=r.len b
    refine⟨a,rfl, ?_,by rw[hen,hE], ?_, ?_⟩
    ·obtain⟨v,hv⟩:∃ v,cs'[0]? = some v:=⟨cs'[0]'(by omega),List.getElem?_eq_getElem _⟩
     have:=hcell 0 h0
     rw[hv] at this
     have:=zjs this
     rwa [yc] at this
    ·intro j x hj hx
     have hx:W.cell? (a.add (i*E+j))=some x:=hx
     rw[hcell j hj] at hx
     exact hone' j x (by omega) hx
    ·rw[hen]
     refine br hvr fun j hj=>?_
     exact hcell j (by omega)
theorem Rdr.as {α β:Type} {E:Nat} {e:α→List V} {ok:α→Prop} (r:Rdr P t E e ok) {e':β→List V} {ok':β→Prop} (g:α→β) (he:∀ a,e' (g a)=e a) (hok:∀ a,ok a→ok' (g a)) (hl:∀ b,(e' b).length=E):Rdr P t E e' ok' where
 len:=hl
 cells:=r.cells
 rd h hw:=by
  obtain⟨a,h1,h2⟩:=r.rd h hw
  exact⟨g a,hok a h1,by rw[he];exact h2⟩
structure FRd (P:Program) (fs:List Field) (off:Nat) {α:Type} (E:Nat) (e:α→List V) (ok:α→Prop):Prop where
 len:∀ a,(e a).length=E
 rd:∀ {H:Type} {enc:TypeId × Value→H} {W:World} {fuel:Nat} {cs:List Value} {xs:List (DataW H × List MemPlace)},xs.length=fs.length→cs.length=off+E →
  (∀ (i:Nat) (f:Field),fs[i]? = some f→DataW.trod enc P W 0 (fun _=>true) true fuel f.type ((cs.drop f.offset).take (P.cellsOf f.type))=xs[i]?) →
  bulkAll (xs.map (·.1))≤upB→∃ a,ok a∧RdC W (cs.drop off) (e a)
theorem FRd.nil (off:Nat):FRd P [] off 0 (fun _:Unit=>[]) (fun _=>True) where
 len _:=rfl
 rd h1 h2 _ _:=⟨(),trivial,by simp[h2],by intro j x hj;simp at hj,by simp[VRs]⟩
theorem RdC.append {W:World} {cs cs':List Value} {vs vs':List V} (h:RdC W cs vs) (h':RdC W cs' vs'):RdC W (cs++cs') (vs++vs'):=by
 obtain⟨l1,o1,r1⟩:=h
 obtain⟨l2,o2,r2⟩:=h'
 refine⟨by simp[l1,l2], ?_, ?_⟩
 ·intro j x hj hx
  have hx:(cs++cs')[j]? = some x:=hx
  rw[List.getElem?_append] at hx
  split at hx
  ·exact o1 j x (by omega) hx
  ·exact o2 (j-cs.length) x (by simp at hj;omega) hx
 ·refine kz fun i v hi=>?_
  rw[List.getElem?_append] at hi
  split at hi
  ·obtain⟨u,hu,hv⟩:=de r1 hi
   exact⟨u,by rw[List.getElem?_append_left (by omega)];exact hu,hv⟩
  ·obtain⟨u,hu,hv⟩:=de r2 hi
   exact⟨u,by rw[List.getElem?_append_right (by omega),l1];exact hu,hv⟩
theorem FRd.cons {f:Field} {fs:List Field} {off E E':Nat} {α β:Type} {e:α→List V} {ok:α→Prop} {e':β→List V} {ok':β→Prop} (r:Rdr P f.type E e ok) (rs:FRd P fs (off+E) E' e' ok') (ho:f.offset=off) :
  FRd P (f::fs) off (E+E') (fun p:α × β=>e p.1++e' p.2) (fun p=>ok p.1∧ok' p.2) where
 len p:=by simp[r.len,rs.len]
 rd {H enc W fuel cs xs} h1 h2 h3 h4:=by
  cases xs with
  | nil=>simp at h1
  | cons y ys =>
    have hy:=h3 0 f rfl
    rw[ho,r.cells] at hy
    simp only[List.map_cons,bulkAll] at h4
    obtain⟨a,ha,hra⟩:=r.rd (x:=y) (by simpa using hy) (by omega)
    obtain⟨b,hb,hrb⟩:=rs.rd (xs:=ys) (cs:=cs) (by simpa using h1) (by omega) (fun i g hg=>by simpa using h3 (i+1) g (by simpa using hg)) (by omega)
    refine⟨(a,b),⟨ha,hb⟩, ?_⟩
    have:=hra.append hrb
    rwa [show (cs.drop off).take E++cs.drop (off+E)=cs.drop off by rw[← List.drop_drop];exact List.take_append_drop _ _] at this
theorem Rdr.struct {fs:Array Field} {E:Nat} {α:Type} {e:α→List V} {ok:α→Prop} (ht:P.underlying t=some (.struct fs)) (r:FRd P fs.toList 0 E e ok) (hc:P.cellsOf t=E):Rdr P t E e ok where
 len:=r.len
 cells:=hc
 rd h hw:=by
  obtain⟨xs,n,rfl,rfl,h1,h2,h3⟩:=DataW.trod_struct ht h
  obtain⟨a,ha,hr⟩:=r.rd (xs:=xs) (by simpa using h2) (by rw[h1,hc];simp) (fun i f hf=>h3 i f (by simpa using hf)) (by simp only[bulk] at hw;omega)
  exact⟨a,ha,by simpa using hr⟩
structure ARd (P:Program) (t:TypeId) {α:Type} (e:α→V) (ok:α→Prop):Prop where
 rd:∀ {H:Type} {enc:TypeId × Value→H} {W:World} {base:Nat} {v:Value} {d:DataW H} {p:List MemPlace},Value.okWide P W .any base t v →
  DataW.Trod enc P W 0 (fun _=>true) true t v d p→bulk d≤upB→∃ a,ok a∧VR (wctx W) (e a) v
theorem ARd.cell {α:Type} {e:α→V} {ok:α→Prop} (r:Rdr P t 1 (fun a=>[e a]) ok) (ht:match P.underlying t with|some (.struct _)|some (.array _ _)=>False|_=>True):ARd P t e ok where
 rd {H enc W base v d p} hv h hw:=by
  obtain⟨n,hn⟩:=h
  obtain⟨a,ha,hr⟩:=r.rd hn hw
  refine⟨a,ha, ?_⟩
  have hc:v.cells = #[v]:=by
   cases v with
   | agg cs =>
     exfalso
     unfold Value.okWide at hv
     split at hv
     ·rename_i e;rw[e] at ht;exact ht
     ·rename_i e;rw[e] at ht;exact ht
     ·unfold Cell.okWide at hv
      split at hv<;>try (rename_i heq;cases heq)
      unfold Cell.ok at hv
      split at hv<;>first|exact hv|(rename_i heq;cases heq)
   | _=>rfl
  rw[hc] at hr
  obtain⟨u,hu,hvr⟩:=de (i:=0) (v:=e a) hr.2.2 rfl
  simp at hu
  exact hu ▸ hvr
theorem ARd.struct {fs:Array Field} {E:Nat} {α:Type} {e:α→List V} {ok:α→Prop} (r:Rdr P t E e ok) (ht:P.underlying t=some (.struct fs)):ARd P t (fun a=>.agg (e a)) ok where
 rd {H enc W base v d p} hv h hw:=by
  obtain⟨n,hn⟩:=h
  obtain⟨a,ha,h1,h2,h3⟩:=r.rd hn hw
  refine⟨a,ha, ?_⟩
  unfold Value.okWide at hv
  simp only[ht] at hv
  obtain⟨cs,rfl,_,_⟩:=hv
  simp only[Value.cells] at h1 h2 h3
  simp only[VR]
  refine⟨cs,rfl,by simpa using h1, ?_, ?_⟩
  ·intro j x hj hx
   exact h2 j x hj (by simpa using hx)
  ·refine br h3 fun j hj=>by simp
structure LRd (P:Program) (ts:List TypeId) {α:Type} (e:α→List V) (ok:α→Prop):Prop where
 rd:∀ {H:Type} {enc:TypeId × Value→H} {W:World} {base:Nat} {vs:List Value} {ds:List (DataW H)} {p:List MemPlace},
  (∀ (j:Nat) t v,ts[j]? = some t→vs[j]? = some v→Value.okWide P W .any base t v) →
  DataW.TrodAll enc P W 0 (fun _=>true) true ts vs ds p→bulkAll ds≤upB→∃ a,ok a∧vs.length=(e a).length∧VRs (wctx W) (e a) fun j=>vs[j]?
theorem LRd.nil:LRd P [] (fun _:Unit=>[]) (fun _=>True) where
 rd _ h _:=by
  obtain⟨rfl,rfl,_⟩:=trodAll_nil h
  exact⟨(),trivial,rfl,by simp[VRs]⟩
theorem LRd.cons {ts:List TypeId} {α β:Type} {e:α→V} {ok:α→Prop} {e':β→List V} {ok':β→Prop} (r:ARd P t e ok) (rs:LRd P ts e' ok') :
  LRd P (t::ts) (fun p:α × β=>e p.1::e' p.2) (fun p=>ok p.1∧ok' p.2) where
 rd hv h hw:=by
  obtain⟨v,vs,d,ds,p,q,rfl,rfl,rfl,h0,h1⟩:=trodAll_cons h
  simp only[bulkAll] at hw
  obtain⟨a,ha,hra⟩:=r.rd (hv 0 _ _ rfl rfl) h0 (by omega)
  obtain⟨b,hb,hlb,hrb⟩:=rs.rd (fun j t' v' ht' hv'=>hv (j+1) t' v' ht' hv') h1 (by omega)
  exact⟨(a,b),⟨ha,hb⟩,by simp[hlb],by simpa [VRs] using ⟨hra,hrb⟩⟩
theorem rl {H:Type} {enc:TypeId × Value→H} (hl:laidOutB P=true) {W W':World} {sp:Nat→Bool}:∀ {ts:List TypeId} {vs:List Value} {ds:List (DataW H)} {ps:List MemPlace},(∀ t∈ts,P.readableRec t=true∧t<P.types.size) →
  DataW.TrodAll enc P W 0 (fun _=>true) true ts vs ds ps→(∀ p∈ps,W.sameAt W' p)→(∀ p∈ps,sp p.block=true)→DataW.TrodAll enc P W' 0 sp true ts vs ds ps
 | [],[],[],_,_,h,_,_=>h
 | t::ts,v::vs,d::ds,_,hr,⟨p,q,h1,h2,e⟩,hs,hsp=>⟨p,q,
   WideElems.Trod_stays hl (hr t (List.mem_cons.2 (Or.inl rfl))).1 (hr t (List.mem_cons.2 (Or.inl rfl))).2 h1 (fun x hx=>hs x (by rw[e];exact List.mem_append_left _ hx)) (fun x hx=>hsp x (by rw[e];exact List.mem_append_left _ hx)),
   rl hl (fun t ht=>hr t (List.mem_cons.2 (Or.inr ht))) h2 (fun x hx=>hs x (by rw[e];exact List.mem_append_right _ hx)) (fun x hx=>hsp x (by rw[e];exact List.mem_append_right _ hx)),e⟩
end
theorem post_true {H:Type} {enc:TypeId × Value→H} {P:Program} {k:FuncId} {fn:Func} {s:ChangeSpec} {fresh handsOn again:Bool} {α:Type} {e:α→List V} {ok:α→Prop} {tb:TypeId}
  (hs:∀ (H:Type) (ds:List (DataW H)),ds.length=fn.params.size→s.fn H ds = { results:=[.lit (.bool true)],args:=ds }) (hv:s.vars=[])
  (hres:fn.resultTypes = #[tb]) (hb:P.underlying tb=some .bool) (hl:laidOutB P=true) (hr:∀ t∈fn.params.toList,P.readableRec t=true∧t<P.types.size)
  (R:LRd P fn.params.toList e ok) (M:∀ a,ok a→Meets P k (e a) (.bool true) [])
  {W:World} {base:Nat} {args:Array Value} {ds gs:List (DataW H)} {before:List MemPlace} (hgt:GT P W)
  (hval:∀ (j:Nat) t v,fn.params[j]? = some t→args[j]? = some v→Value.okWide P W .any base t v)
  (hW:DataW.Whole enc P fn.params.toList s.vars false W args.toList ds gs before)
  (hwt:bulkAll (ds++gs)≤upB) :
  Calls P k args W fun x W'=>∃ v,x = .returned v∧s.post enc P fn false fresh handsOn again W args v W':=by
 have hW':=hW
 obtain⟨p,q,hA,hV,rfl,hfz,hnd⟩:=hW
 rw[hv] at hV
 obtain⟨rfl,rfl⟩:=trodVars_none hV
 have hlen:=trodAll_length hA
 obtain⟨a,ha,hla,hra⟩:=R.rd (base:=base) (fun j t v ht hv=>hval j t v (by simpa using ht) (by simpa using hv)) hA (by rw[zeu] at hwt;omega)
 refine ((M a ha).2 W (fun b=>b<W.heap.size) hgt (fun b h=>h) args (by simpa using hla) (br hra fun j hj=>by simp)).mono fun x W' h=>?_
 obtain⟨c',u,rfl,rfl,hsr,hu⟩:=h
 simp only[VR] at hu
 subst hu
 have hbl:Below W.heap.size W c'.w:=⟨hsr.fr.os,hsr.fr.tape,hsr.fr.output,hsr.fr.size,fun j hj=>hsr.fr.block j hj (fun h=>h)⟩
 have hlt:∀ x∈p,x.block<W.heap.size:=fun x hx=>hW'.lt x (by simpa using hx)
 have hfn:=hs H (ds++[]) (by simpa using hlen.2)
 have hsame:∀ sp:Nat→Bool,(∀ x∈p,sp x.block=true)→DataW.TrodAll enc P c'.w 0 sp true fn.params.toList args.toList ds p:=fun sp hsp =>
  rl hl hr hA (fun x hx=>hbl.same (hlt x hx)) hsp
 have hbool:∀ (b:Nat) (sp:Nat→Bool) (hd:Bool),DataW.TrodAll enc P c'.w b sp hd fn.resultTypes.toList ((Value.bool true).resultList fn.resultTypes.size) [.lit (.bool true)] []:=fun b sp hd=>by
  rw[hres]
  exact trodAll_mk1 (shut_bool hb _)
 refine⟨_,rfl,ds,[],p++[],[],p,[],hW', ?_, ?_, ?_,World.keptBut_mono (fun x hx=>⟨hx,Or.inr (Or.inl (by simpa using hx))⟩) (hbl.frame (·∈p++[])),fun _=>?_⟩
 ·rw[hfn]
  exact hbool _ _ _
 ·rw[hfn]
  simpa using hsame _ fun x hx=>by simpa using hlt x hx
 ·rw[hfn,hv]
  rfl
 ·refine⟨ok_one hres rfl (okWide_bool_mk hb _),[.lit (.bool true)]++ds,[],([]++p)++[],⟨[]++p,[],trodAll_append (hsame _ fun _ _=>rfl) (hbool _ _ _),by rw[hv];rfl,rfl, ?_,by simp⟩, ?_⟩
  ·intro b off hx
   have hx':MemPlace.cell b off∈p:=by simpa using hx
   rw[hbl.frozen (hlt _ hx')]
   exact hfz b off (by simpa using hx')
  ·intro x hx _
   simpa using hx
end Go.VM.U
