import Derived.ProofKit
import Derived.Below
import Derived.KernelRfl
import Derived.RangeFuncNested
import Derived.RangeFuncLeaves
import Derived.Sort.LoopGhostIn
import Derived.OrdersIn
import Derived.Lib.LaidTab
import Derived.Lib.ItoaNum
import Derived.Laws.Entries
import Derived.Laws.Slices
import Derived.Laws.StructEq
import Derived.Laws.Cells
import Derived.Laws.Append
import Derived.Laws.Strings
import Derived.Laws.Tables
import Derived.Laws.CopyRow
import Derived.Laws.Rows
set_option linter.unusedVariables false
set_option linter.unusedSimpArgs false
set_option linter.unnecessarySimpa false
set_option maxHeartbeats 4000000
section
namespace Go.VM
inductive Tg where
 | loose
 | cut (b:Bool)
 | exact (n:Nat)
inductive V where
 | bad
 | nil
 | bool (b:Bool)
 | int (k:IntKind) (n:Int)
 | str (s:List UInt8)
 | lst (nl:Option Bool) (t:Tg) (e n:Nat) (f:Nat→List V)
 | own (nl:Option Bool) (r e off n:Nat) (t:Tg)
 | agg (cs:List V)
 | tup (vs:List V)
 | ptr (r off:Nat)
 | eptr (r e i off:Nat)
 | iptr (cs:List V) (off:Nat)
 | mp (r:Nat)
 | fn (f:Nat) (first caps:List V)
inductive Blk where
 | box (cs:List V)
 | arr (e n:Nat) (f:Nat→List V)
 | mp (es:List (List UInt8 × V))
 | dead
abbrev Heap:=List Blk
def mAll (p:V→Prop) (es:List (List UInt8 × V)):Prop:=∀ x∈es,p x.2
def mMap (g:V→V) (es:List (List UInt8 × V)):List (List UInt8 × V):=es.map fun x=>(x.1,g x.2)
structure Ctx where
 w:World
 I:Nat→Prop
 locs:List (Option (Nat × Nat))
abbrev Ctx.bare (c:Ctx):Ctx:={ c with locs:=[] }
def Nlr (nl:Option Bool) (A:Option Addr):Prop:=∀ b,nl=some b→(b=true↔A=none)
def napp (nl:Option Bool) (m:Nat):Option Bool:=match m with|0=>nl|_+1=>some false
def One (n:Nat) (g:Nat→Option Value):Prop:=∀ j x,j<n→g j=some x→x.oneCell'=true
mutual
def VR (c:Ctx):V→Value→Prop
 | .bad,_=>True
 | .nil,v=>v = .slice none 0 0
 | .bool b,v=>v = .bool b
 | .int k n,v=>v = .int k n
 | .str s,v=>v = .string ⟨s.toArray⟩
 | .lst nl tight e n f,v=>∃ A cap,v = .slice A n cap∧n≤cap∧(tight = .cut true→cap=n)∧Nlr nl A∧(A=none→cap=0) ∧
   ∀ i,i<n→∃ a,A=some a∧c.I a.block∧(f i).length=e∧One e (fun j=>c.w.cell? (a.add (i*e+j)))∧VRs { c with locs:=[] } (f i) fun j=>c.w.cell? (a.add (i*e+j))
 | .own nl r e off n tight,v=>∃ A cap,v = .slice A n cap∧(n≤cap∧∀ C,tight = .exact C→cap=C)∧(tight = .cut true→cap=n)∧Nlr nl A ∧
   match c.locs[r]? with
   | some (some (b,m))=>off+cap≤m∧(0<cap→A=some ⟨b,off*e,none⟩)
   | some none=>cap=0
   | none=>False
 | .agg cs,v=>∃ us,v = .agg us∧us.size=cs.length∧One cs.length (fun j=>us[j]?)∧VRs c cs fun j=>us[j]?
 | .tup cs,v=>∃ us,v = .tuple us∧us.size=cs.length∧VRs c cs fun j=>us[j]?
 | .ptr r off,v=>match c.locs[r]? with
   | some (some (b,_))=>v = .pointer (some ⟨b,off,none⟩)
   | _=>False
 | .eptr r e i off,v=>match c.locs[r]? with
   | some (some (b,_))=>v = .pointer (some ⟨b,i*e+off,none⟩)
   | _=>False
 | .mp r,v=>match c.locs[r]? with
   | some (some (b,_))=>v = .map (some b)
   | _=>False
 | .iptr cs off,v=>∃ b o,v = .pointer (some ⟨b,o+off,none⟩)∧c.I b∧One cs.length (fun j=>c.w.cell? ⟨b,o+j,none⟩)∧VRs { c with locs:=[] } cs fun j=>c.w.cell? ⟨b,o+j,none⟩
 | .fn f first caps,v=>∃ us ws,v = .func (.func f) us ws∧us.size=first.length∧ws.size=caps.length∧(VRs c first fun j=>us[j]?)∧VRs c caps fun j=>ws[j]?
def VRs (c:Ctx):List V→(Nat→Option Value)→Prop
 | [],_=>True
 | v::vs,g=>(∃ u,g 0=some u∧VR c v u)∧VRs c vs fun j=>g (j+1)
end
abbrev Path:=List (Nat × Bool × Bool)
structure Ent where
 t:Nat
 s:Nat
 p:Path
 v:V
abbrev Env:=List Ent
def get:Env→Nat→Nat × Path × V
 | [],_=>(0,[],.bad)
 | e::r,t=>bif Nat.beq e.t t then (e.s,e.p,e.v) else get r t
def beqB:Bool→Bool→Bool
 | true,true=>true
 | false,false=>true
 | _,_=>false
def band:Bool→Bool→Bool
 | true,b=>b
 | false,_=>false
def ppre:Path→Path→Bool
 | [],_=>true
 | (a,x,_)::p,(b,y,_)::q=>band (Nat.beq a b) (band (beqB x y) (ppre p q))
 | _::_,[]=>false
def evt (E:Env) (p:Path) (t:Nat):V :=
 match get E t with
 | (_,q,v)=>bif ppre q p then v else .bad
def ofV:Value→V
 | .bool b=>.bool b
 | .int k n=>.int k n
 | .string s=>.str s.data.toList
 | .slice none 0 0=>.nil
 | _=>.bad
def ev (E:Env) (p:Path):Operand→V
 | .tmp t=>evt E p t
 | .const v=>ofV v
 | .func f=>.fn f [] []
 | .global _=>.bad
def evs (E:Env) (p:Path):List Operand→List V
 | []=>[]
 | x::r=>ev E p x::evs E p r
def pc:Path→Prop
 | []=>True
 | (_,b,x)::p=>x=b∧pc p
def padd:Path→Nat × Bool × Bool→Path
 | [],x=>[x]
 | y::p,x=>y::padd p x
def put (E:Env) (d:Option Nat) (s:Nat) (p:Path) (v:V):Env :=
 match d with
 | some t=>⟨t,s,p,v⟩::E
 | none=>E
def gl:Env→Env
 | []=>[]
 | ⟨t,_,[],v⟩::r=>⟨t,0,[],v⟩::gl r
 | ⟨t,_,_::_,_⟩::r=>⟨t,0,[],.bad⟩::gl r
def al (P:Program) (t:Nat):Nat:=match P.info? t with|some i=>i.size|none=>0
def co (P:Program) (t:Nat):Nat:=match P.info? t with|some i=>i.bytes|none=>0
def tagg (P:Program) (t:Nat):Option Bool:=match P.underlying t with|some (.struct _)|some (.array _ _)=>some true|some _=>some false|none=>none
def da (P:Program) (t:Nat):Option Nat:=match P.underlying t with|some (.slice e)=>if al P e=0 then none else some e|_=>none
def bg (P:Program) (t k:Nat):Option (Nat × Nat):=match P.underlying t with|some (.struct fs)=>(match fs[k]? with|some f=>if al P f.type=0 then none else some (f.offset,f.type)|none=>none)|_=>none
def dy (P:Program) (t:Nat):Option (List (Nat × Nat)):=match P.underlying t with|some (.struct fs)=>fs.toList.mapM (fun f=>(P.info? f.type).map fun i=>(f.offset,i.size))|_=>none
def pnth:List (Nat × Nat)→Nat→Option (Nat × Nat)
 | [],_=>none
 | x::_,0=>some x
 | _::l,n+1=>pnth l n
def ofVs:List Value→List V
 | []=>[]
 | v::r=>ofV v::ofVs r
def cq (P:Program) (t:Nat):Option (List V):=match P.info? t with|some i=>(match i.zero with|some z=>if z.cells.toList.all (·.oneCell') && z.cells.size == i.size then some (ofVs z.cells.toList) else none|none=>none)|none=>none
def tmap (P:Program) (t:Nat):Option Nat:=match P.underlying t with|some (.map k e)=>(match P.underlying k with|some .string=>some e|_=>none)|_=>none
def tzv (P:Program) (t:Nat):Option V:=match P.info? t with|some i=>(match i.zero with|some (.agg us)=>if us.toList.all (·.oneCell') then some (.agg (ofVs us.toList)) else none|some v=>some (ofV v)|none=>none)|none=>none
def tint (P:Program) (t:Nat):Bool:=match P.underlying t with|some (.int _)=>true|_=>false
inductive TK where
 | bool|int (k:IntKind)|str|slice|flat (ks:List Nat)|other
def tj (P:Program):List Field→Nat→Option (List Nat)
 | [],_=>some []
 | f::fs,i=>if f.name != "_" && f.offset == i then
   (match P.underlying f.type,tj P fs (i+1) with
   | some .bool,some ks=>some (0::ks)
   | some (.int _),some ks=>some (1::ks)
   | some .string,some ks=>some (2::ks)
   | _,_=>none) else none
def bp (P:Program) (t:Nat):TK :=
 match P.underlying t with
 | some .bool=>.bool
 | some (.int k)=>.int k
 | some .string=>.str
 | some (.slice _)=>.slice
 | some (.struct fs)=>(match tj P fs.toList 0 with
   | some ks=>if !P.stoodInHeld t && !P.eqGuardType P.depth t then .flat ks else .other
   | none=>.other)
 | _=>.other
structure TI where
 size:Nat
 bytes:Nat
 agg:Option Bool
 elem:Option Nat
 kind:TK
 zero:Option (List V)
def ti (P:Program) (t:Nat):TI:=⟨al P t,co P t,tagg P t,da P t,bp P t,cq P t⟩
def keq:List UInt8→List UInt8→Bool:=fun a b=>decide (a=b)
def mGet:List (List UInt8 × V)→List UInt8→Option V
 | [],_=>none
 | x::es,k=>bif keq x.1 k then some x.2 else mGet es k
def mSet:List (List UInt8 × V)→List UInt8→V→List (List UInt8 × V)
 | [],k,v=>[(k,v)]
 | x::es,k,v=>bif keq x.1 k then (k,v)::es else x::mSet es k v
def mDel:List (List UInt8 × V)→List UInt8→List (List UInt8 × V)
 | [],_=>[]
 | x::es,k=>bif keq x.1 k then es else x::mDel es k
def mVal (z:V) (es:List (List UInt8 × V)) (k:List UInt8):V:=match mGet es k with|some v=>v|none=>z
def mHas (es:List (List UInt8 × V)) (k:List UInt8):Bool:=match mGet es k with|some _=>true|none=>false
def zbz (b:Bool) (z:V) (es:List (List UInt8 × V)) (k:List UInt8):V:=match b with|true=>.tup [mVal z es k,.bool (mHas es k)]|false=>mVal z es k
inductive R where
 | no
 | ok (v:V)
 | chk (p:Prop) (v:V)
def ikn:IntKind→Nat
 | .i8=>0 | .i16=>1 | .i32=>2 | .i64=>3 | .u8=>4 | .u16=>5 | .u32=>6 | .u64=>7
def eq1:Nat→V→V→Option Bool
 | 0,.bool a,.bool b=>some (decide (a=b))
 | 1,.int k a,.int l b=>bif Nat.beq (ikn k) (ikn l) then some (decide (a=b)) else none
 | 2,.str a,.str b=>some (decide (a=b))
 | _,_,_=>none
def eqs:List Nat→List V→List V→Option Bool
 | [],[],[]=>some true
 | k::ks,x::xs,y::ys=>(match ks with
   | []=>(match xs,ys with | [],[]=>eq1 k x y|_,_=>none)
   | _=>(match eq1 k x y,eqs ks xs ys with
     | some a,some b=>some (a && b)
     | _,_=>none))
 | _,_,_=>none
def blt (a b:List UInt8):Bool:=Op.bytesLess a b
def bin (op:BinOp) (K:TK) (x y:V):R :=
 match x,y with
 | .int k a,.int l b =>
   bif Nat.beq (ikn k) (ikn l) then
   (match op with
   | .add=>.ok (.int k (k.wrap (a+b)))
   | .sub=>.ok (.int k (k.wrap (a-b)))
   | .mul=>.ok (.int k (k.wrap (a*b)))
   | .quo=>.chk (b≠0) (.int k (k.wrap (a.tdiv b)))
   | .rem=>.chk (b≠0) (.int k (a.tmod b))
   | .shr=>.chk (0≤b∧b≤8) (.int k (a.fdiv (2 ^ b.toNat)))
   | .eql=>.ok (.bool (decide (a=b)))
   | .neq=>.ok (.bool (!decide (a=b)))
   | .lss=>.ok (.bool (decide (a<b)))
   | .leq=>.ok (.bool (decide (a≤b)))
   | .gtr=>.ok (.bool (decide (b<a)))
   | .geq=>.ok (.bool (decide (b≤a)))
   | _=>.no)
   else .no
 | .str a,.str b =>
   (match op with
   | .add=>.chk (a.length+b.length≤9223372036854775807) (.str (a++b))
   | .eql=>.ok (.bool (decide (a=b)))
   | .neq=>.ok (.bool (!decide (a=b)))
   | .lss=>.ok (.bool (blt a b))
   | .leq=>.ok (.bool (blt a b || decide (a=b)))
   | .gtr=>.ok (.bool (!(blt a b || decide (a=b))))
   | .geq=>.ok (.bool (!blt a b))
   | _=>.no)
 | .bool a,.bool b =>
   (match op,K with
   | .eql,.bool=>.ok (.bool (decide (a=b)))
   | .neq,.bool=>.ok (.bool (!decide (a=b)))
   | _,_=>.no)
 | .lst nl _ _ _ _,.nil | .own nl _ _ _ _ _,.nil =>
   (match op,K with
   | .eql,.slice=>(match nl with|some b=>.ok (.bool b)|none=>.no)
   | .neq,.slice=>(match nl with|some b=>.ok (.bool (!b))|none=>.no)
   | _,_=>.no)
 | .nil,.nil =>
   (match op,K with
   | .eql,.slice=>.ok (.bool true)
   | .neq,.slice=>.ok (.bool false)
   | _,_=>.no)
 | .agg xs,.agg ys =>
   (match K with
   | .flat ks=>(match op,eqs ks xs ys with
     | .eql,some b=>.ok (.bool b)
     | .neq,some b=>.ok (.bool (!b))
     | _,_=>.no)
   | _=>.no)
 | _,_=>.no
def un (op:UnOp) (x:V):R :=
 match op,x with
 | .not,.bool b=>.ok (.bool (!b))
 | .neg,.int k n=>.ok (.int k (k.wrap (0-n)))
 | _,_=>.no
def vlen (K:TK) (x:V):R :=
 match K,x with
 | .str,.str s=>.ok (.int .i64 (s.length:Int))
 | .slice,.lst _ _ _ n _ | .slice,.own _ _ _ _ n _=>.ok (.int .i64 (n:Int))
 | .slice,.nil=>.ok (.int .i64 0)
 | _,_=>.no
@[irreducible] def bsel (c a b:Bool):Bool:=bif c then a else b
def zfs (c a b:V):R :=
 match c with
 | .bool c=>(match a,b with
   | .bool a,.bool b=>.ok (.bool (bsel c a b))
   | _,_=>.ok .bad)
 | _=>.no
def nth:List V→Nat→V
 | [],_=>.bad
 | v::_,0=>v
 | _::vs,n+1=>nth vs n
def dr:Nat→List V→List V
 | 0,l=>l
 | _+1,[]=>[]
 | n+1,_::l=>dr n l
def tk:Nat→List V→List V
 | 0,_=>[]
 | _+1,[]=>[]
 | n+1,v::l=>v::tk n l
def spl:List V→Nat→List V→List V
 | [],_,_=>[]
 | c::cs,0,[]=>c::cs
 | _::cs,0,v::vs=>v::spl cs 0 vs
 | c::cs,n+1,vs=>c::spl cs n vs
def len:List V→Nat
 | []=>0
 | _::l=>len l+1
def cellsOf:V→Option (List V)
 | .agg cs=>some cs
 | .bad | .tup _=>none
 | v=>some [v]
def vn (T:TI) (cs:List V) (off:Nat):R :=
 match T.agg with
 | some true=>bif Nat.ble (off+T.size) (len cs) then .ok (.agg (tk T.size (dr off cs))) else .no
 | some false=>bif Nat.blt off (len cs) then .ok (nth cs off) else .no
 | none=>.no
def hget:Heap→Nat→Blk
 | [],_=>.dead
 | b::_,0=>b
 | _::h,n+1=>hget h n
def hset:Heap→Nat→Blk→Heap
 | [],_,_=>[]
 | _::h,0,b=>b::h
 | c::h,n+1,b=>c::hset h n b
def hlen:Heap→Nat
 | []=>0
 | _::h=>hlen h+1
def hadd:Heap→Blk→Heap
 | [],b=>[b]
 | c::h,b=>c::hadd h b
def load (T:TI) (H:Heap) (a:V):R :=
 match a with
 | .ptr r off=>(match hget H r with | .box cs=>vn T cs off|_=>.no)
 | .eptr r e i off=>(match hget H r with
   | .arr e' n f=>bif Nat.beq e e' then (match vn T (f i) off with | .ok v=>.chk (i<n) v|_=>.no) else .no
   | _=>.no)
 | .iptr cs off=>vn T cs off
 | _=>.no
def fieldAddr (o:Option (Nat × Nat)) (a:V):R :=
 match o with
 | some (k,_)=>(match a with
   | .ptr r off=>.ok (.ptr r (off+k))
   | .eptr r e i off=>.ok (.eptr r e i (off+k))
   | .iptr cs off=>.ok (.iptr cs (off+k))
   | _=>.no)
 | none=>.no
def vi (o:Option (Nat × Nat)) (T:TI) (x:V):R :=
 match o,x with
 | some (k,_),.agg cs=>vn T cs k
 | _,_=>.no
def indexAddr (e:Nat) (x i:V):R :=
 match x,i with
 | .lst _ _ e' n f,.int _ i=>bif Nat.beq e e' then .chk (0≤i∧i<(n:Int)) (.iptr (f i.toNat) 0) else .no
 | .own _ r e' off n _,.int _ i=>bif Nat.beq e e' then .chk (0≤i∧i<(n:Int)) (.eptr r e (off+i.toNat) 0) else .no
 | _,_=>.no
def wi (K:TK) (x i:V):R :=
 match K,x,i with
 | .str,.str s,.int _ i=>.chk (0≤i∧i<(s.length:Int)) (.int .u8 ((s.getD i.toNat 0).toNat:Int))
 | _,_,_=>.no
def yl (s:List UInt8) (lo hi:Option V):R :=
 match lo,hi with
 | none,none=>.ok (.str s)
 | some (.int _ l),none=>.chk (0≤l∧l≤(s.length:Int)) (.str (s.drop l.toNat))
 | none,some (.int _ h)=>.chk (0≤h∧h≤(s.length:Int)) (.str (s.take h.toNat))
 | some (.int _ l),some (.int _ h)=>.chk (0≤l∧l≤h∧h≤(s.length:Int)) (.str ((s.take h.toNat).drop l.toNat))
 | _,_=>.no
inductive Cut where
 | no
 | cut (l h:Nat) (t:Tg) (q:Prop)
def unx:Tg→Tg
 | .exact _=>.loose
 | t=>t
def shT:Tg→Nat→Tg
 | .exact C,l=>.exact (C-l)
 | t,_=>t
def hiT:Tg→Nat→Tg
 | .exact C,l=>.exact (C-l)
 | _,_=>.loose
def cpT:Tg→Nat→Nat
 | .exact C,_=>C
 | _,n=>n
def cutV (n cp:Nat) (t:Tg) (lo hi mx:Option V):Cut :=
 match lo,hi,mx with
 | none,none,none=>.cut 0 n t True
 | some (.int _ l),none,none=>.cut l.toNat n (shT t l.toNat) (0≤l∧l≤(n:Int))
 | none,some (.int _ h),none=>.cut 0 h.toNat (hiT t 0) (0≤h∧h≤(cp:Int))
 | some (.int _ l),some (.int _ h),none=>.cut l.toNat h.toNat (hiT t l.toNat) (0≤l∧l≤h∧h≤(cp:Int))
 | none,some (.int _ h),some (.int _ m)=>.cut 0 h.toNat (.cut (decide (m=h))) (0≤h∧h≤m∧m≤(n:Int))
 | some (.int _ l),some (.int _ h),some (.int _ m)=>.cut l.toNat h.toNat (.cut (decide (m=h))) (0≤l∧l≤h∧h≤m∧m≤(n:Int))
 | _,_,_=>.no
def pj (K:TK) (e:Nat) (x:V) (lo hi mx:Option V):R :=
 match (match K with | .slice=>bif Nat.beq e 0 then TK.other else K|_=>K),x,mx with
 | .str,.str s,none=>yl s lo hi
 | .slice,.lst nl t e' n f,_=>bif Nat.beq e e' then
   (match cutV n n (unx t) lo hi mx with
   | .cut l h t q=>.chk q (.lst nl t e (h-l) fun i=>f (l+i))
   | .no=>.no) else .no
 | .slice,.own nl r e' off n t,_=>bif Nat.beq e e' then
   (match cutV n (cpT t n) t lo hi mx with
   | .cut l h t q=>.chk q (.own nl r e (off+l) (h-l) t)
   | .no=>.no) else .no
 | _,_,_=>.no
def nn (x:V) (i:Nat):R :=
 match x with
 | .tup vs=>bif Nat.blt i (len vs) then .ok (nth vs i) else .no
 | _=>.no
def rr (pl:Nat→Option (Nat × Nat)):List V→List (Nat × V)→Option (List V)
 | cs,[]=>some cs
 | cs,(i,v)::rest=>(match pl i,cellsOf v with
   | some (off,n),some vs=>bif band (Nat.beq (len vs) n) (Nat.ble (off+n) (len cs)) then rr pl (spl cs off vs) rest else none
   | _,_=>none)
def zef (S D:TK) (x:V):R :=
 match x,S,D with
 | .int _ n,.int _,.int k=>.ok (.int k (k.wrap n))
 | .str s,.str,.str=>.ok (.str s)
 | _,_,_=>.no
end Go.VM
end
section
namespace Go.VM
structure Le (c c':Ctx):Prop where
 locs:∀ (r:Nat) (x:Option (Nat × Nat)),c.locs[r]? = some x→c'.locs[r]? = some x
 I:∀ b,c.I b→c'.I b
 heap:∀ b,c.I b→c'.w.heap[b]? = c.w.heap[b]?
theorem Le.refl (c:Ctx):Le c c:=⟨fun _ _ h=>h,fun _ h=>h,fun _ _=>rfl⟩
theorem Le.trans {a b c:Ctx} (h:Le a b) (k:Le b c):Le a c :=
 ⟨fun r x e=>k.locs r x (h.locs r x e),fun b i=>k.I b (h.I b i),fun x i=>(k.heap x (h.I x i)).trans (h.heap x i)⟩
theorem Le.bare {c c':Ctx} (h:Le c c'):Le c.bare c'.bare:=⟨fun r x e=>by simp at e,h.I,h.heap⟩
theorem Le.cell {c c':Ctx} (h:Le c c') {a:Addr} (hi:c.I a.block):c'.w.cell? a=c.w.cell? a:=by
 unfold World.cell?;rw[h.heap _ hi]
mutual
theorem qo {c c':Ctx} (h:Le c c'):∀ (v:V) (u:Value),VR c v u→VR c' v u
 | .bad,_,_=>by simp only[VR]
 | .nil,_,H=>by simpa only [VR] using H
 | .bool _,_,H=>by simpa only [VR] using H
 | .int _ _,_,H=>by simpa only [VR] using H
 | .str _,_,H=>by simpa only [VR] using H
 | .lst nl t e n f,u,H=>by
   simp only[VR] at H ⊢
   obtain⟨A,cap,e1,e2,e3,e4,e5,e6⟩:=H
   refine⟨A,cap,e1,e2,e3,e4,e5,fun i hi=>?_⟩
   obtain⟨a,ea,ia,el,ho,hs⟩:=e6 i hi
   have hb:∀ (k:Nat),(a.add k).block=a.block:=fun k=>by unfold Addr.add;split<;>rfl
   have hc:∀ k,c'.w.cell? (a.add k)=c.w.cell? (a.add k):=fun k=>h.cell (by rw[hb];exact ia)
   refine⟨a,ea,h.I _ ia,el,fun j x hj hx=>ho j x hj ((hc _).symm.trans hx), ?_⟩
   exact fa h.bare (f i) _ _ (fun j x hx=>(hc _).trans hx) hs
 | .own nl r e off n t,u,H=>by
   simp only[VR] at H ⊢
   obtain⟨A,cap,e1,e2,e3,e4,e5⟩:=H
   refine⟨A,cap,e1,e2,e3,e4, ?_⟩
   cases hr:c.locs[r]? with
   | none=>rw[hr] at e5;exact e5.elim
   | some x=>rw[h.locs r x hr];rw[hr] at e5;exact e5
 | .agg cs,u,H=>by
   simp only[VR] at H ⊢
   obtain⟨us,e1,e2,e0,e3⟩:=H
   exact⟨us,e1,e2,e0,fa h cs _ _ (fun _ _ hx=>hx) e3⟩
 | .tup cs,u,H=>by
   simp only[VR] at H ⊢
   obtain⟨us,e1,e2,e3⟩:=H
   exact⟨us,e1,e2,fa h cs _ _ (fun _ _ hx=>hx) e3⟩
 | .ptr r off,u,H=>by
   simp only[VR] at H ⊢
   cases hr:c.locs[r]? with
   | none=>rw[hr] at H;exact H.elim
   | some x=>rw[h.locs r x hr];rw[hr] at H;exact H
 | .mp r,u,H=>by
   simp only[VR] at H ⊢
   cases hr:c.locs[r]? with
   | none=>rw[hr] at H;exact H.elim
   | some x=>rw[h.locs r x hr];rw[hr] at H;exact H
 | .eptr r e i off,u,H=>by
   simp only[VR] at H ⊢
   cases hr:c.locs[r]? with
   | none=>rw[hr] at H;exact H.elim
   | some x=>rw[h.locs r x hr];rw[hr] at H;exact H
 | .iptr cs off,u,H=>by
   simp only[VR] at H ⊢
   obtain⟨b,o,e1,e2,e0,e3⟩:=H
   have hc:∀ k,c'.w.cell? ⟨b,o+k,none⟩=c.w.cell? ⟨b,o+k,none⟩:=fun k=>h.cell (a:=⟨b,o+k,none⟩) e2
   exact⟨b,o,e1,h.I _ e2,fun j x hj hx=>e0 j x hj ((hc _).symm.trans hx),fa h.bare cs _ _ (fun j x hx=>(hc _).trans hx) e3⟩
 | .fn f first caps,u,H=>by
   simp only[VR] at H ⊢
   obtain⟨us,ws,e1,e2,e3,e4,e5⟩:=H
   exact⟨us,ws,e1,e2,e3,fa h first _ _ (fun _ _ hx=>hx) e4,fa h caps _ _ (fun _ _ hx=>hx) e5⟩
theorem fa {c c':Ctx} (h:Le c c'):∀ (vs:List V) (g g':Nat→Option Value),(∀ j x,g j=some x→g' j=some x)→VRs c vs g→VRs c' vs g'
 | [],_,_,_,_=>by simp only[VRs]
 | v::vs,g,g',hg,H=>by
   simp only[VRs] at H ⊢
   obtain⟨⟨u,e1,e2⟩,e3⟩:=H
   exact⟨⟨u,hg 0 u e1,qo h v u e2⟩,fa h vs _ _ (fun j x hx=>hg (j+1) x hx) e3⟩
end
theorem de {c:Ctx} {vs:List V} {g:Nat→Option Value} (H:VRs c vs g) {i:Nat} {v:V} (h:vs[i]? = some v):∃ u,g i=some u∧VR c v u:=by
 induction vs generalizing g i with
 | nil=>simp at h
 | cons x xs ih =>
   simp only[VRs] at H
   cases i with
   | zero=>simp at h;subst h;exact H.1
   | succ i=>simp at h;exact ih H.2 h
theorem kz {c:Ctx} {vs:List V} {g:Nat→Option Value} (H:∀ i v,vs[i]? = some v→∃ u,g i=some u∧VR c v u):VRs c vs g:=by
 induction vs generalizing g with
 | nil=>simp only[VRs]
 | cons x xs ih =>
   simp only[VRs]
   exact⟨H 0 x rfl,ih fun i v h=>H (i+1) v (by simpa using h)⟩
theorem br {c:Ctx} {vs:List V} {g g':Nat→Option Value} (H:VRs c vs g) (h:∀ j,j<vs.length→g' j=g j):VRs c vs g' :=
 kz fun i v hi=>by
  obtain⟨u,e,hu⟩:=de H hi
  exact⟨u,(h i (List.getElem?_eq_some_iff.1 hi).1).trans e,hu⟩
theorem jm (l:List V):len l=l.length:=by induction l<;>simp_all [len]
theorem qu (l:List V) (i:Nat) (h:i<l.length):l[i]? = some (nth l i):=by
 induction l generalizing i with
 | nil=>simp at h
 | cons x xs ih=>cases i with
   | zero=>simp[nth]
   | succ i=>simp[nth];exact ih i (by simpa using h)
theorem zqw (n:Nat) (l:List V):dr n l=l.drop n:=by
 induction n generalizing l with
 | zero=>cases l<;>simp[dr]
 | succ n ih=>cases l<;>simp[dr,ih]
theorem zql (n:Nat) (l:List V):tk n l=l.take n:=by
 induction n generalizing l with
 | zero=>cases l<;>simp[tk]
 | succ n ih=>cases l<;>simp[tk,ih]
theorem fu (l:List V) (n:Nat) (vs:List V):(spl l n vs).length=l.length:=by
 induction l generalizing n vs with
 | nil=>simp[spl]
 | cons c cs ih=>cases n with
   | zero=>cases vs<;>simp[spl,ih]
   | succ n=>simp[spl,ih]
theorem zfi (l:List V) (n:Nat) (vs:List V) (i:Nat) (h:i<l.length):(spl l n vs)[i]? = if n≤i∧i-n<vs.length then vs[i-n]? else l[i]?:=by
 induction l generalizing n vs i with
 | nil=>simp at h
 | cons c cs ih =>
   cases n with
   | zero =>
     cases vs with
     | nil=>simp[spl]
     | cons v vs =>
       cases i with
       | zero=>simp[spl]
       | succ i=>simp only[spl,List.getElem?_cons_succ];rw[ih 0 vs i (by simpa using h)];simp
   | succ n =>
     cases i with
     | zero=>simp[spl]
     | succ i=>simp only[spl,List.getElem?_cons_succ];rw[ih n vs i (by simpa using h)];simp[Nat.succ_le_succ_iff]
theorem bt (H:Heap):hlen H=H.length:=by induction H<;>simp_all [hlen]
theorem ex (H:Heap) (b:Blk):hadd H b=H++[b]:=by induction H<;>simp_all [hadd]
theorem zni (H:Heap) (r:Nat) (h:r<H.length):H[r]? = some (hget H r):=by
 induction H generalizing r with
 | nil=>simp at h
 | cons x xs ih=>cases r with
   | zero=>simp[hget]
   | succ r=>simp[hget];exact ih r (by simpa using h)
theorem zsx (H:Heap) (r:Nat) (h:¬ r<H.length):hget H r = .dead:=by
 induction H generalizing r with
 | nil=>simp[hget]
 | cons x xs ih=>cases r with
   | zero=>simp at h
   | succ r=>simp[hget];exact ih r (by simpa using h)
theorem dw (H:Heap) (r:Nat) (b:Blk):(hset H r b).length=H.length:=by
 induction H generalizing r with
 | nil=>simp[hset]
 | cons x xs ih=>cases r<;>simp[hset,ih]
theorem ju (H:Heap) (r:Nat) (b:Blk) (i:Nat):(hset H r b)[i]? = if i=r∧r<H.length then some b else H[i]?:=by
 induction H generalizing r i with
 | nil=>simp[hset]
 | cons x xs ih=>cases r with
   | zero=>cases i<;>simp[hset]
   | succ r=>cases i with
     | zero=>simp[hset]
     | succ i=>simp only[hset,List.getElem?_cons_succ];rw[ih r i];simp
theorem be {a b:Nat} (h:Nat.beq a b=true):a=b:=Nat.eq_of_beq_eq_true h
theorem zpx {k l:IntKind} (h:Nat.beq (ikn k) (ikn l)=true):k=l:=by
 have:=be h
 cases k<;>cases l<;>simp_all [ikn]
theorem ax {a b:Bool} (h:band a b=true):a=true∧b=true:=by cases a<;>simp_all [band]
theorem zpb {a b:Bool} (h:beqB a b=true):a=b:=by cases a<;>cases b<;>simp_all [beqB]
theorem zgd (p:Path) (x:Nat × Bool × Bool):padd p x=p++[x]:=by induction p<;>simp_all [padd]
theorem xk (E:Env) (p:Path) (l:List Operand):evs E p l=l.map (ev E p):=by induction l<;>simp_all [evs]
theorem ta (l:List Value):ofVs l=l.map ofV:=by induction l<;>simp_all [ofVs]
theorem zhx (c:Ctx) (v:Value):VR c (ofV v) v:=by
 unfold ofV
 split<;>simp[VR]
end Go.VM
end
section
namespace Go.VM
structure Fr where
 c0:Ctx
 X:Nat→Prop
 nt:Nat
 ro:Option Nat:=none
 ds:List Deferred:=[]
abbrev fR (ro:Option Nat):Fence:={ Fence.wide with round:=ro }
def zgb (D:Nat):Deferred:={ target:=.collected D,args:=#[] }
def Wr (F:Fr) (b:Nat):Prop:=F.c0.w.heap.size≤b∨F.X b
structure FR (F:Fr) (w:World):Prop where
 os:w.os=F.c0.w.os
 tape:w.tape=F.c0.w.tape
 output:w.output=F.c0.w.output
 size:F.c0.w.heap.size≤w.heap.size
 block:∀ k,k<F.c0.w.heap.size→¬ F.X k→w.heap[k]? = F.c0.w.heap[k]?
theorem tq (w:World) (o:Obj) (i:Nat) (h:i<w.heap.size):(w.alloc o).heap[i]? = w.heap[i]?:=by
 show (w.heap.push o)[i]? = w.heap[i]?
 rw[Array.getElem?_push,if_neg (Nat.ne_of_lt h)]
def Live:Blk→Prop
 | .dead=>False
 | _=>True
def MR (c:Ctx):List (List UInt8 × V)→List MapEntry→Prop
 | [],[]=>True
 | (k,v)::es,x::A=>x.key = .string ⟨k.toArray⟩∧VR c v x.val∧MR c es A
 | _,_=>False
def Cont (c:Ctx) (O:Obj) (cap:Nat):Blk→Prop
 | .box cs=>∃ C el,O = .cells C el∧C.size=cs.length∧One cs.length (fun j=>C[j]?)∧VRs c cs fun j=>C[j]?
 | .arr e n f=>∃ C el,O = .cells C el∧C.size=cap*e∧n≤cap∧∀ i,i<n→(f i).length=e∧One e (fun j=>C[i*e+j]?)∧VRs c (f i) fun j=>C[i*e+j]?
 | .mp es=>∃ A k,O = .map A k∧MR c es A.toList
 | .dead=>True
def BlkOk (F:Fr) (c:Ctx) (x:Blk):Option (Nat × Nat)→Prop
 | some (b,cap)=>Live x→∃ O,c.w.heap[b]? = some O∧Cont c O cap x∧¬ c.I b∧Wr F b
 | none=>match x with
   | .arr _ n _=>n=0
   | .box _=>False
   | .mp _=>False
   | .dead=>True
structure SR (F:Fr) (c:Ctx) (H:Heap):Prop where
 fr:FR F c.w
 le:Le F.c0 c
 len:c.locs.length=H.length
 blk:∀ (r:Nat) (b:Blk) (l:Option (Nat × Nat)),H[r]? = some b→c.locs[r]? = some l→BlkOk F c b l
 inj:∀ (r r':Nat) (x x':Blk) (b m m':Nat),H[r]? = some x→H[r']? = some x'→Live x→Live x'→c.locs[r]? = some (some (b,m))→c.locs[r']? = some (some (b,m'))→r=r'
 imm:∀ b,c.I b→b<c.w.heap.size
 old:∀ b,c.I b→F.c0.I b∨F.c0.w.heap.size≤b
abbrev km (a:Act) (t:Nat):Value:=a.tmps.getD t undef
def ER (c:Ctx) (E:Env) (a:Act):Prop :=
 ∀ t,(pc (get E t).2.1→VR c (get E t).2.2 (km a t))∧(¬ pc (get E t).2.1→km a t=undef)
def zfo:Op→Bool
 | .defer _=>false
 | _=>true
def okq (n:Nat) (r:Bool):Code→Bool
 | .region _ ops _=>ops.toList.all fun o=>(match o.dst with|some d=>Nat.blt d n|none=>true) && zfo o.op
 | .seq a b=>okq n r a && okq n r b
 | .cond _ a b=>okq n r a && okq n r b
 | .block _ b=>okq n r b
 | .loop b=>okq n r b
 | .scope b=>okq n r b
 | .rangeFunc _ ps a b=>(!r) && ((ps.toList.all fun t=>Nat.blt t n) && (okq n true a && okq n true b))
 | _=>true
abbrev okc (n:Nat) (c:Code):Bool:=okq n false c
structure AO (F:Fr) (a:Act):Prop where
 defers:a.defers=F.ds
 size:a.tmps.size=F.nt
structure Fx (F F':Fr):Prop where
 nt:F'.nt=F.nt
 ro:F'.ro=F.ro
 locs:F'.c0.locs=F.c0.locs
 size:F.c0.w.heap.size≤F'.c0.w.heap.size
 sr:∀ c H,SR F' c H→SR F c H
 ds:∃ ms:List Nat,F'.ds=ms.map zgb++F.ds∧ms.Nodup∧∀ D,D∈ms→F.c0.w.heap.size≤D∧D<F'.c0.w.heap.size ∧
  ∀ c H,SR F' c H→c.w.heap[D]? = some (.deferred (some []))∧¬ c.I D∧∀ (r m:Nat) x,H[r]? = some x→Live x→c.locs[r]?≠some (some (D,m))
theorem Fx.refl (F:Fr):Fx F F:=⟨rfl,rfl,rfl,Nat.le_refl _,fun _ _ h=>h,[],rfl,.nil,fun D h=>by cases h⟩
theorem Fx.trans {F F' F'':Fr} (h:Fx F F') (k:Fx F' F''):Fx F F'':=by
 obtain⟨ms,e1,n1,d1⟩:=h.ds
 obtain⟨ms',e2,n2,d2⟩:=k.ds
 refine⟨k.nt.trans h.nt,k.ro.trans h.ro,k.locs.trans h.locs,Nat.le_trans h.size k.size,fun c H hs=>h.sr c H (k.sr c H hs),ms'++ms,by rw[e2,e1,List.map_append,List.append_assoc], ?_, ?_⟩
 ·refine List.nodup_append.2 ⟨n2,n1,fun a ha b hb=>?_⟩
  have h1:=(d2 a ha).1
  have h2:=(d1 b hb).2.1
  omega
 ·intro D hD
  rcases List.mem_append.1 hD with hD|hD
  ·obtain⟨g1,g2,g3⟩:=d2 D hD
   exact⟨Nat.le_trans h.size g1,g2,g3⟩
  ·obtain⟨g1,g2,g3⟩:=d1 D hD
   exact⟨g1,Nat.lt_of_lt_of_le g2 k.size,fun c H hs=>g3 c H (k.sr c H hs)⟩
inductive X where
 | normal
 | exit (n:Nat)
 | ret
def df (F:Fr) (K:X→Env→Heap→Prop):Exit→Act→World→Prop
 | .normal,a,w=>∃ c E H,c.w=w∧SR F c H∧ER c E a∧AO F a∧K .normal E H
 | .exit i,a,w=>∃ c E H,c.w=w∧SR F c H∧ER c E a∧AO F a∧K (.exit i) E H
 | .ret,a,w=>∃ c E H,c.w=w∧SR F c H∧ER c E a∧AO F a∧K .ret E H
 | _,_,_=>False
def lift (F:Fr) (K:X→Env→Heap→Prop) (e:Exit) (a:Act) (w:World):Prop:=∃ F',Fx F F'∧df F' K e a w
theorem ou {F:Fr} {K:X→Env→Heap→Prop} {e:Exit} {a:Act} {w:World} (h:df F K e a w):lift F K e a w:=⟨F,.refl F,h⟩
theorem zzi {F F':Fr} {K:X→Env→Heap→Prop} (fx:Fx F F') {e:Exit} {a:Act} {w:World} (h:lift F' K e a w):lift F K e a w:=by
 obtain⟨F2,fx2,h⟩:=h
 exact⟨F2,fx.trans fx2,h⟩
def aw (P:Program) (f:Nat):Bool:=match P.funcs[f]? with|some fn=>fn.body.isSome && fn.name != "runtime.NumGoroutine" | none=>false
def CX (P:Program) (f:Nat) (us:Array Value) (w:World) (Q:Ending→World→Prop):Prop :=
 (aw P f=true∧Calls P f us w Q)∨∃ r w',(callFunc f us).run P w = .ok (.value r) w'∧Q (.returned r) w'
theorem CX.mono {P:Program} {f:Nat} {us:Array Value} {w:World} {Q Q':Ending→World→Prop} (h:CX P f us w Q) (hq:∀ e w,Q e w→Q' e w):CX P f us w Q':=by
 rcases h with ⟨h1,h2⟩ | ⟨r,w',h1,h2⟩
 ·exact .inl ⟨h1,Calls.mono h2 hq⟩
 ·exact .inr ⟨r,w',h1,hq _ _ h2⟩
def GV (n:String) (cs:Array Value):Prop :=
 (n = "internal/strconv.uint64pow10"∧cs=(Lib.pow10Tab.map fun z=>Value.int .u64 z).toArray)∨((n = "strconv.ErrSyntax"∨n = "strconv.ErrRange")∧∃ tp p,cs = #[.iface tp p])
def GN:List String:=["internal/strconv.uint64pow10","strconv.ErrSyntax","strconv.ErrRange"]
def GT (P:Program) (w:World):Prop:=∀ n,n∈GN→∀ g,P.globalNamed n=some g→∃ cs,w.var? P n=some cs∧GV n cs
def GF (P:Program) (F:Fr):Prop:=∀ c H,SR F c H→GT P c.w
structure FN (P:Program) (n:Nat) (F:Fr):Prop where
 le:F.c0.locs.length≤n
 gt:GF P F
theorem FN.fx {P:Program} {n:Nat} {F F':Fr} (h:FN P n F) (fx:Fx F F'):FN P n F':=⟨by rw[fx.locs];exact h.le,fun c H hs=>h.gt c H (fx.sr c H hs)⟩
theorem FN.mono {P:Program} {n m:Nat} {F:Fr} (h:FN P n F) (hm:n≤m):FN P m F:=⟨Nat.le_trans h.le hm,h.gt⟩
theorem GT.fr {P:Program} {w w':World} (h:GT P w) (hs:∀ k,k<w.heap.size→w'.heap[k]? = w.heap[k]?):GT P w':=by
 intro n hn g hg
 obtain⟨cs,h1,h2⟩:=h n hn g hg
 refine⟨cs, ?_,h2⟩
 unfold World.var? at h1 ⊢
 rw[hg] at h1 ⊢
 simp only[Option.bind_some] at h1 ⊢
 have hlt:g<w.heap.size:=by
  rcases Nat.lt_or_ge g w.heap.size with h' | h'
  ·exact h'
  ·rw[Array.getElem?_eq_none h'] at h1;cases h1
 rw[hs g hlt]
 exact h1
theorem FN.start {P:Program} {w:World} (h:GT P w) {I:Nat→Prop} {nt:Nat} {ro:Option Nat} {ds:List Deferred}:FN P 0 ⟨⟨w,I,[]⟩,fun _=>False,nt,ro,ds⟩ :=
 ⟨Nat.le_refl _,fun c H hs=>h.fr fun k hk=>hs.fr.block k hk fun h=>h⟩
def cw (P:Program) (f:Nat) (args:List V) (H:Heap) (K:V→Heap→Prop):Prop :=
 ∀ (F:Fr) (c:Ctx),GF P F→SR F c H→∀ us:Array Value,us.size=args.length→(VRs c args fun j=>us[j]?) →
  CX P f us c.w fun e w'=>∃ c' u v H',e = .returned u∧c'.w=w'∧Le c c'∧SR F c' H'∧VR c' v u∧K v H'
def cg (P:Program) (f:Nat) (args:List V) (H:Heap) (p:Path) (K:V→Prop):Prop :=
 ∃ v,(pc p→cw P f args H fun v' H'=>v'=v∧H'=H)∧K v
@[congr] theorem cw_congr {P:Program} {f:Nat} {args args':List V} {H H':Heap} {K:V→Heap→Prop} (h1:args=args') (h2:H=H'):cw P f args H K=cw P f args' H' K:=by rw[h1,h2]
@[congr] theorem cg_congr {P:Program} {f:Nat} {args args':List V} {H H':Heap} {p:Path} {K:V→Prop} (h1:args=args') (h2:H=H'):cg P f args H p K=cg P f args' H' p K:=by rw[h1,h2]
def cx (P:Program) (n:Nat) (code:Code) (E:Env) (H:Heap) (K:X→Env→Heap→Prop):Prop :=
 ∀ (F:Fr) (c:Ctx) (a:Act),FN P n F→SR F c H→ER c E a→AO F a→okq F.nt F.ro.isSome code=true→code.wpIn (fR F.ro) 0 P (lift F K) a c.w
theorem cx.go {P:Program} {n:Nat} {code:Code} {E:Env} {H:Heap} {K:X→Env→Heap→Prop} (h:cx P n code E H K) {F F':Fr} (fx:Fx F F') {c:Ctx} {a:Act}
  (hn:FN P n F) (hs:SR F' c H) (he:ER c E a) (ha:AO F' a) (hok:okq F.nt F.ro.isSome code=true):code.wpIn (fR F.ro) 0 P (lift F K) a c.w:=by
 have:=h F' c a (hn.fx fx) hs he ha (by rw[fx.nt,fx.ro];exact hok)
 rw[fx.ro] at this
 exact wpIn_mono this fun _ _ _ hq=>zzi fx hq
def onth:List Oper→Nat→Option Oper
 | [],_=>none
 | o::_,0=>some o
 | _::os,n+1=>onth os n
def gp (ops:List Oper) (E:Env) (g:Option (Nat × Bool)):Option Path :=
 match g with
 | none=>some []
 | some (i,b)=>(match onth ops i with
   | some o=>(match o.dst with
     | some t=>(match get E t with
       | (s,q,.bool x)=>bif Nat.beq s (i+1) then some (padd q (i,b,x)) else none
       | _=>none)
     | none=>none)
   | none=>none)
def Sd (p:Path) (q:Prop):Prop:=pc p→q
def Sq (q:Prop):Prop:=q
theorem Sd.of {p:Path} {q:Prop} (h:pc p→q):Sd p q:=h
theorem Sd.mk {p:Path} {q:Prop} (h:q):Sd p q:=fun _=>h
theorem Sq.mk {q:Prop} (h:q):Sq q:=h
def rk (p:Path) (r:R) (K:V→Prop):Prop :=
 match r with
 | .no=>False
 | .ok v=>K v
 | .chk q v=>Sd p q∧K v
def rv (v:V) (K:V→Prop):Prop :=
 match v with
 | .bool b=>∀ x,x=b→K (.bool x)
 | .int k n=>∀ x,x=n→K (.int k x)
 | v=>K v
def rkv (p:Path) (r:R) (K:V→Prop):Prop :=
 match r with
 | .no=>False
 | .ok v=>rv v K
 | .chk q v=>Sd p q∧rv v K
theorem zxc {v:V} {K:V→Prop} (h:rv v K):K v:=by
 unfold rv at h
 split at h
 ·exact h _ rfl
 ·exact h _ rfl
 ·exact h
theorem kg {p:Path} {r:R} {K:V→Prop} (h:rkv p r K):rk p r K:=by
 cases r with
 | no=>exact h
 | ok v=>exact zxc h
 | chk q v=>exact⟨h.1,zxc h.2⟩
def boxV (T:TI) (x:V):Option (List V) :=
 match T.agg with
 | some true=>(match x with | .agg cs=>bif Nat.beq (len cs) T.size then some cs else none|_=>none)
 | some false=>bif Nat.beq T.size 1 then (match x with | .bad | .agg _ | .tup _=>none|x=>some [x]) else none
 | none=>none
def xm (T:TI) (H:Heap) (a x:V) (K:Heap→Prop):Prop :=
 match boxV T x with
 | some vs=>(match a with
   | .ptr r off=>(match hget H r with
     | .box cs=>bif Nat.ble (off+len vs) (len cs) then K (hset H r (.box (spl cs off vs))) else False
     | _=>False)
   | .eptr r e i off=>(match hget H r with
     | .arr e' n f=>bif band (Nat.beq e e') (Nat.ble (off+len vs) e) then Sq (i<n)∧K (hset H r (.arr e n fun j=>bif Nat.beq j i then spl (f j) off vs else f j)) else False
     | _=>False)
   | _=>False)
 | none=>False
def view (e:Nat) (H:Heap) (x:V):Option (Prop × Nat × (Nat→List V)) :=
 match x with
 | .nil=>some (True,0,fun _=>[])
 | .lst _ _ e' n f=>bif Nat.beq e e' then some (True,n,f) else none
 | .own _ r e' off n _=>(match hget H r with
   | .arr e'' m f=>bif band (Nat.beq e e') (Nat.beq e e'') then some (off+n≤m,n,fun i=>f (off+i)) else none
   | _=>none)
 | _=>none
def join (n:Nat) (f g:Nat→List V):Nat→List V:=fun i=>bif Nat.blt i n then f i else g (i-n)
def over (i m:Nat) (g f:Nat→List V):Nat→List V:=fun q=>if i≤q∧q<i+m then g (q-i) else f q
def kc (e bytes:Nat) (H:Heap) (s x:V) (K:V→Heap→Prop):Prop :=
 match view e H x with
 | some (q,m,g)=>(match s with
   | .nil=>Sq (q∧m*bytes≤140737488355328)∧K (.own (napp (some true) m) (hlen H) e 0 m .loose) (hadd H (.arr e m g))
   | .lst nl (.cut b) e' n f=>bif Nat.beq e e' then
     Sq (q∧b=true∧(n=0∨0<m)∧(n+m)*bytes≤140737488355328)∧K (.own (napp nl m) (hlen H) e 0 (n+m) .loose) (hadd H (.arr e (n+m) (join n f g))) else False
   | .own nl r e' off n (.cut b)=>(match view e H s with
     | some (q',_,f)=>Sq (q∧q'∧b=true∧(n=0∨0<m)∧(n+m)*bytes≤140737488355328)∧K (.own (napp nl m) (hlen H) e 0 (n+m) .loose) (hadd H (.arr e (n+m) (join n f g)))
     | none=>False)
   | .own nl r e' off n .loose=>(match hget H r with
     | .arr e'' n' f=>bif band (Nat.beq e e') (Nat.beq e e'') then
       Sq (q∧off=0∧n=n'∧(n+m)*bytes≤140737488355328)∧K (.own (napp nl m) (hlen H) e 0 (n+m) .loose) (hadd (hset H r .dead) (.arr e (n+m) (join n f g))) else False
     | _=>False)
   | .own nl r e' off n (.exact C)=>(match hget H r with
     | .arr e'' n' f=>bif band (Nat.beq e e') (Nat.beq e e'') then
       Sq (q∧off+n≤n'∧(n+m)*bytes≤140737488355328) ∧
       (n+m≤C→K (.own nl r e off (n+m) (.exact C)) (hset H r (.arr e (max n' (off+n+m)) (over (off+n) m g f)))) ∧
       (C<n+m→K (.own (napp nl m) (hlen H) e 0 (n+m) .loose) (hadd H (.arr e (n+m) (join n (fun i=>f (off+i)) g)))) else False
     | _=>False)
   | _=>False)
 | none=>False
def ln (e bytes:Nat) (z:List V) (H:Heap) (s x:V) (K:V→Heap→Prop):Prop :=
 match s,x with
 | .own nl r e' off n (.exact C),.int _ k=>(match hget H r with
   | .arr e'' n' f=>bif band (Nat.beq e e') (Nat.beq e e'') then
     Sq (0≤k∧off+n≤n'∧C<n+k.toNat∧(n+k.toNat)*bytes≤140737488355328) ∧
     K (.own (napp nl k.toNat) (hlen H) e 0 (n+k.toNat) .loose) (hadd H (.arr e (n+k.toNat) (join n (fun i=>f (off+i)) fun _=>z))) else False
   | _=>False)
 | _,_=>False
def rep:Nat→List V→List V
 | 0,_=>[]
 | n+1,z=>aps z (rep n z)
where
 aps:List V→List V→List V
  | [],l=>l
  | v::r,l=>v::aps r l
def mb (e n:Nat) (cs:List V):Nat→List V :=
 match n with
 | 1=>fun _=>cs
 | _=>fun i=>tk e (dr (i*e) cs)
def ct (e:Nat) (z:Option (List V)) (n:Nat) (parts:List (Nat × V)) (H:Heap) (K:V→Heap→Prop):Prop :=
 match z with
 | some z=>(match rr (fun i=>some (i*e,e)) (rep n z) parts with
   | some cs=>bif Nat.ble (n*e) 16777216 then K (.own (some false) (hlen H) e 0 n (bif Nat.beq n 0 then .cut true else .exact n)) (hadd H (.arr e n (mb e n cs))) else False
   | none=>False)
 | none=>False
def tw (e:Nat) (z:List V) (H:Heap) (x:V) (K:Heap→Prop):Prop :=
 match x with
 | .nil=>K H
 | .own nl r e' off n t=>(match hget H r with
   | .arr e'' n' f=>bif band (Nat.beq e e') (Nat.beq e e'') then Sq (off≤n')∧K (hset H r (.arr e (max n' (off+n)) (over off n (fun _=>z) f))) else False
   | _=>False)
 | _=>False
def zfg (e:Nat) (H:Heap) (x:V):Option ((Nat→Prop) × Nat × (Nat→List V)) :=
 match x with
 | .nil=>some (fun _=>True,0,fun _=>[])
 | .lst _ _ e' n f=>bif Nat.beq e e' then some (fun _=>True,n,f) else none
 | .own _ r e' off n _=>(match hget H r with
   | .arr e'' m f=>bif band (Nat.beq e e') (Nat.beq e e'') then some (fun k=>off+k≤m,n,fun i=>f (off+i)) else none
   | _=>none)
 | _=>none
def zcw (e:Nat) (H:Heap) (d x:V) (K:Nat→Heap→Prop):Prop :=
 match zfg e H x with
 | some (q,m,g)=>(match d with
   | .nil=>Sq (q 0)∧K 0 H
   | .own nl r e' off n t=>(match hget H r with
     | .arr e'' n' f=>bif band (Nat.beq e e') (Nat.beq e e'') then Sq (q (min m n)∧off≤n')∧K (min m n) (hset H r (.arr e (max n' (off+min m n)) (over off (min m n) g f))) else False
     | _=>False)
   | _=>False)
 | none=>False
def capV (K:TK) (x:V):R :=
 match K,x with
 | .slice,.own _ _ _ _ _ (.exact C)=>.ok (.int .i64 (C:Int))
 | .slice,.own _ _ _ _ n (.cut true)=>.ok (.int .i64 (n:Int))
 | .slice,.nil=>.ok (.int .i64 0)
 | _,_=>.no
def maxV (x y:V):R :=
 match x,y with
 | .int k a,.int l b=>bif Nat.beq (ikn k) (ikn l) then .ok (.int k (if b > a then b else a)) else .no
 | _,_=>.no
def minV (x y:V):R :=
 match x,y with
 | .int k a,.int l b=>bif Nat.beq (ikn k) (ikn l) then .ok (.int k (if b<a then b else a)) else .no
 | _,_=>.no
def lenV (T:TK) (tm:Option Nat) (H:Heap) (x:V):R :=
 match x with
 | .mp r=>(match tm,hget H r with
   | some _,.mp es=>.ok (.int .i64 (es.length:Int))
   | _,_=>.no)
 | x=>vlen T x
def xb (P:Program) (b:Builtin) (ts:List Nat) (xs:List V) (p:Path) (H:Heap) (K:V→Heap→Prop):Prop :=
 match b,ts,xs with
 | .len,[t],[x]=>rk p (lenV (bp P t) (tmap P t) H x) fun v=>K v H
 | .delete,t::_,[.mp r,.str s]=>(match p,tmap P t,hget H r with
   | [],some _,.mp es=>K (.tup []) (hset H r (.mp (mDel es s)))
   | _,_,_=>False)
 | .append,t::u::[],[s,x]=>(match p with
   | []=>bif Nat.beq t u then (match da P t with
     | some e=>(match cq P e with
       | some _=>bif Nat.beq (co P e) 0 then False else kc (al P e) (co P e) H s x K
       | none=>False)
     | none=>False) else (match tint P u,da P t with
     | true,some e=>(match cq P e with
       | some z=>bif Nat.beq (co P e) 0 then False else ln (al P e) (co P e) z H s x K
       | none=>False)
     | _,_=>False)
   | _=>False)
 | .clear,[t],[x]=>(match p with
   | []=>(match da P t with
     | some e=>(match cq P e with
       | some z=>tw (al P e) z H x (K (.tup []))
       | none=>False)
     | none=>False)
   | _=>False)
 | .copy,[t,_],[d,s]=>(match p with
   | []=>(match da P t with
     | some e=>zcw (al P e) H d s fun k H=>K (.int .i64 (k:Int)) H
     | none=>False)
   | _=>False)
 | .cap,[t],[x]=>rk p (capV (bp P t) x) fun v=>K v H
 | .max,_,[x,y]=>rk p (maxV x y) fun v=>K v H
 | .min,_,[x,y]=>rk p (minV x y) fun v=>K v H
 | _,_,_=>False
def chV (cs:List V):UInt8:=match cs with | [.int _ n]=>UInt8.ofNat n.toNat|_=>0
def isCh (cs:List V):Prop:=∃ n,cs=[.int .u8 n]
def uh (P:Program) (t:Nat):Bool:=match da P t with|some e=>(match P.underlying e with|some (.int .u8)=>Nat.beq (al P e) 1|_=>false)|none=>false
def zwa (H:Heap) (x:V):R:=match view 1 H x with
 | some (q,n,f)=>.chk (q∧∀ i,i<n→isCh (f i)) (.str ((List.range n).map fun i=>chV (f i)))
 | none=>.no
def zkq (b:Bool) (S D:TK) (H:Heap) (x:V):R:=match b,D with
 | true,.str=>zwa H x
 | _,_=>zef S D x
def zk (P:Program) (T:Nat):Nat:=match da P T with|some e=>al P e|none=>0
def evp (E:Env) (p:Path):List (Nat × Operand)→List (Nat × V)
 | []=>[]
 | (i,x)::r=>(i,ev E p x)::evp E p r
def evo (E:Env) (p:Path):Option Operand→Option V
 | none=>none
 | some x=>some (ev E p x)
def pk (E:Env) (p:Path) (c:Operand) (b:Bool):Path :=
 match c with
 | .tmp t=>(match get E t with
   | (i+1,_,_)=>padd p (i,b,b)
   | _=>p)
 | _=>p
def app:List V→List V→List V
 | [],l=>l
 | v::r,l=>v::app r l
def kp (K:Env→Heap→Prop) (E:Env) (d:Option Nat) (k:Nat) (p:Path) (v:V) (H:Heap):Prop:=K (put E d (k+1) p v) H
def kq (K:Env→Heap→Prop) (E:Env) (d:Option Nat) (k:Nat) (p:Path) (H:Heap) (v:V):Prop:=K (put E d (k+1) p v) H
def xo (P:Program) (k:Nat) (o:Oper) (p:Path) (E:Env) (H:Heap) (K:Env→Heap→Prop):Prop :=
 match o.op with
 | .move x | .assign x=>K (put E o.dst (k+1) p (ev E p x)) H
 | .pick c a b=>rkv p (zfs (ev E p c) (ev E (pk E p c true) a) (ev E (pk E p c false) b)) fun v=>K (put E o.dst (k+1) p v) H
 | .binOp op T x y _=>rkv p (bin op (bp P T) (ev E p x) (ev E p y)) fun v=>K (put E o.dst (k+1) p v) H
 | .unOp op _ x=>rkv p (un op (ev E p x)) fun v=>K (put E o.dst (k+1) p v) H
 | .extract x i=>rk p (nn (ev E p x) i) fun v=>K (put E o.dst (k+1) p v) H
 | .nilCheck x=>(match ev E p x with
   | .ptr r off=>K (put E o.dst (k+1) p (.ptr r off)) H
   | .eptr r e i off=>K (put E o.dst (k+1) p (.eptr r e i off)) H
   | .iptr cs off=>K (put E o.dst (k+1) p (.iptr cs off)) H
   | _=>False)
 | .fieldAddr T x f=>rk p (fieldAddr (bg P T f) (ev E p x)) fun v=>K (put E o.dst (k+1) p v) H
 | .index T x i=>rkv p (wi (bp P T) (ev E p x) (ev E p i)) fun v=>K (put E o.dst (k+1) p v) H
 | .indexAddr T x i=>(match da P T with
   | some e=>rk p (indexAddr (al P e) (ev E p x) (ev E p i)) fun v=>K (put E o.dst (k+1) p v) H
   | none=>False)
 | .load T x=>rk p (load (ti P T) H (ev E p x)) fun v=>K (put E o.dst (k+1) p v) H
 | .slice T x lo hi mx=>rk p (pj (bp P T) (zk P T) (ev E p x) (evo E p lo) (evo E p hi) (evo E p mx)) fun v=>K (put E o.dst (k+1) p v) H
 | .convert S D x=>rkv p (zkq (uh P S) (bp P S) (bp P D) H (ev E p x)) fun v=>K (put E o.dst (k+1) p v) H
 | .field T x f=>(match bg P T f with
   | some (k',t)=>rk p (vi (some (k',t)) (ti P t) (ev E p x)) fun v=>K (put E o.dst (k+1) p v) H
   | none=>False)
 | .makeFunc (.func f) first caps=>K (put E o.dst (k+1) p (.fn f (evs E p first.toList) (evs E p caps.toList))) H
 | .alloc T=>(match p,cq P T with
   | [],some z=>K (put E o.dst (k+1) p (.ptr (hlen H) 0)) (hadd H (.box z))
   | _,_=>False)
 | .box T x=>(match p,boxV (ti P T) (ev E p x) with
   | [],some cs=>K (put E o.dst (k+1) p (.ptr (hlen H) 0)) (hadd H (.box cs))
   | _,_=>False)
 | .store T a x=>(match p with
   | []=>xm (ti P T) H (ev E p a) (ev E p x) fun H=>K (put E o.dst (k+1) p .bad) H
   | _=>False)
 | .makeMap _ none=>(match p with
   | []=>K (put E o.dst (k+1) p (.mp (hlen H))) (hadd H (.mp []))
   | _=>False)
 | .mapUpdate T m x y | .insert T m x y=>(match p,tmap P T,ev E p m,ev E p x with
   | [],some _,.mp r,.str s=>(match hget H r with
     | .mp es=>K (put E o.dst (k+1) p .bad) (hset H r (.mp (mSet es s (ev E p y))))
     | _=>False)
   | _,_,_,_=>False)
 | .lookup T m x b=>(match tmap P T,ev E p m,ev E p x with
   | some e,.mp r,.str s=>(match hget H r,tzv P e with
     | .mp es,some z=>K (put E o.dst (k+1) p (zbz b z es s)) H
     | _,_=>False)
   | _,_,_=>False)
 | .buildSlice T n parts=>(match p,da P T with
   | [],some e=>ct (al P e) (cq P e) n (evp E p parts.toList) H fun v H=>K (put E o.dst (k+1) p v) H
   | _,_=>False)
 | .build T parts=>(match cq P T,dy P T with
   | some z,some pl=>(match rr (pnth pl) z (evp E p parts.toList) with
     | some cs=>K (put E o.dst (k+1) p (.agg cs)) H
     | none=>False)
   | _,_=>False)
 | .call c=>(match c.callee with
   | .builtin b=>xb P b c.argTypes.toList (evs E p c.args.toList) p H fun v H=>K (put E o.dst (k+1) p v) H
   | .value f=>(match ev E p f with
     | .fn g first caps=>(match p with
       | []=>cw P g (app first (app (evs E p c.args.toList) caps)) H (kp K E o.dst k [])
       | y::q=>cg P g (app first (app (evs E (y::q) c.args.toList) caps)) H (y::q) (kq K E o.dst k (y::q) H))
     | _=>False)
   | _=>False)
 | _=>False
def xs (P:Program) (ops:List Oper):Nat→List Oper→(Env→Heap→Prop)→Env→Heap→Prop
 | _,[],K,E,H=>K E H
 | k,o::os,K,E,H=>(match gp ops E o.guard with
   | some p=>xo P k o p E H (xs P ops (k+1) os K)
   | none=>False)
def xc (P:Program) (n:Nat):Code→Env→Heap→(X→Env→Heap→Prop)→Prop
 | .skip,E,H,K=>K .normal E H
 | .region id ops d,E,H,K=>(match d with
   | false=>xs P ops.toList 0 ops.toList (K .normal) (gl E) H
   | true=>cx P n (.region id ops true) E H K)
 | .seq a b,E,H,K=>xc P n a E H fun x E H=>(match x with | .normal=>xc P n b E H K | .exit i=>K (.exit i) E H | .ret=>K .ret E H)
 | .cond c t e,E,H,K=>(match ev (gl E) [] c with
   | .bool b=>(b=true→xc P n t E H K)∧(b=false→xc P n e E H K)
   | _=>False)
 | .block id b,E,H,K=>xc P n b E H fun x E H=>(match x with | .normal=>K .normal E H | .exit i=>(bif Nat.beq i id then K .normal E H else K (.exit i) E H) | .ret=>K .ret E H)
 | .loop b,E,H,K=>cx P n (.loop b) E H K
 | .exit i,E,H,K=>K (.exit i) E H
 | .ret,E,H,K=>K .ret E H
 | _,_,_,_=>False
end Go.VM
end
section
namespace Go.VM
def KP (X:Nat→Bool) (k:Nat) (p:Path):Prop:=∀ i b x,(i,b,x)∈p→x=X i∧i<k
def KI (X:Nat→Bool) (k:Nat) (E:Env):Prop:=∀ t,KP X k (get E t).2.1∧∀ i,(get E t).1=i+1→i<k∧∀ x,(get E t).2.2 = .bool x→x=X i
theorem yn (p:Path):pc p↔∀ i b x,(i,b,x)∈p→x=b:=by
 induction p with
 | nil=>simp[pc]
 | cons y p ih =>
   obtain⟨i,b,x⟩:=y
   simp only[pc,ih,List.mem_cons]
   constructor
   ·rintro⟨h1,h2⟩ i' b' x' (h|h)
    ·cases h;exact h1
    ·exact h2 i' b' x' h
   ·intro h
    exact⟨h i b x (.inl rfl),fun i' b' x' hm=>h i' b' x' (.inr hm)⟩
theorem zsv {X:Nat→Bool} {k k':Nat} {q p:Path} (hq:KP X k q) (hp:KP X k' p) (h:ppre q p=true) (hpc:pc p):pc q:=by
 induction q generalizing p with
 | nil=>trivial
 | cons y q ih =>
   obtain⟨i,b,x⟩:=y
   cases p with
   | nil=>simp[ppre] at h
   | cons z p =>
     obtain⟨j,d,z⟩:=z
     simp only[ppre] at h
     obtain⟨h1,h2⟩:=ax h
     obtain⟨h2,h3⟩:=ax h2
     have e1:=be h1
     have e2:=zpb h2
     subst e1 e2
     simp only[pc] at hpc ⊢
     refine⟨?_,ih (fun i b x hm=>hq i b x (.tail _ hm)) (fun i b x hm=>hp i b x (.tail _ hm)) h3 hpc.2⟩
     rw[(hq i b x (.head _)).1,← (hp i b z (.head _)).1]
     exact hpc.1
theorem evt_ok {c:Ctx} {E:Env} {a:Act} {X:Nat→Bool} {k:Nat} {p:Path} (hE:ER c E a) (hK:KI X k E) (hp:KP X k p) (hpc:pc p) (t:Nat) :
  VR c (evt E p t) (km a t):=by
 unfold evt
 have h1:=hE t
 have h2:=hK t
 generalize get E t=g at *
 obtain⟨s,q,v⟩:=g
 dsimp only at *
 cases hpre:ppre q p with
 | false=>simp[VR]
 | true=>exact h1.1 (zsv h2.1 hp hpre hpc)
theorem pf {c:Ctx} {E:Env} {a:Act} {X:Nat→Bool} {k:Nat} {p:Path} (hE:ER c E a) (hK:KI X k E) (hp:KP X k p) (hpc:pc p) (x:Operand) :
  VR c (ev E p x) (a.eval x):=by
 cases x with
 | tmp t=>exact evt_ok hE hK hp hpc t
 | const v=>exact zhx c v
 | global g=>simp[ev,VR]
 | func f=>simp[ev,VR,Act.eval,VRs]
theorem zif {c:Ctx} {E:Env} {a:Act} {X:Nat→Bool} {k:Nat} {p:Path} (hE:ER c E a) (hK:KI X k E) (hp:KP X k p) (hpc:pc p) (l:Array Operand) :
  VRs c (evs E p l.toList) fun j=>(l.map a.eval)[j]?:=by
 refine kz fun i v hi=>?_
 rw[xk] at hi
 simp only[List.getElem?_map,Option.map_eq_some_iff] at hi
 obtain⟨x,hx,rfl⟩:=hi
 exact⟨a.eval x,by simp[Array.getElem?_map];exact⟨x,by simpa using hx,rfl⟩,pf hE hK hp hpc x⟩
theorem znu (E:Env) (d:Option Nat) (s:Nat) (p:Path) (v:V) (t:Nat):get (put E d s p v) t=if d=some t then (s,p,v) else get E t:=by
 cases d with
 | none=>simp[put]
 | some d =>
   simp only[put,get,Option.some.injEq]
   by_cases h:d=t
   ·subst h;simp
   ·rw[if_neg h]
    have:Nat.beq d t=false:=by
     cases hb:Nat.beq d t with
     | false=>rfl
     | true=>exact absurd (be hb) h
    simp[this]
theorem zpv (a:Act) (d:Option Nat) (u:Value) (t:Nat) (hd:∀ x,d=some x→x<a.tmps.size):km (a.put d u) t=if d=some t then u else km a t:=by
 cases d with
 | none=>simp[Act.put]
 | some d =>
   simp only[Act.put,km,Option.some.injEq]
   have:=hd d rfl
   by_cases h:d=t
   ·subst h;simp[Array.getD,this]
   ·rw[if_neg h]
    simp only[Array.getD_eq_getD_getElem?,Array.getElem?_setIfInBounds_ne h]
theorem zxk {c:Ctx} {E:Env} {a:Act} (hE:ER c E a) {d:Option Nat} (hd:∀ x,d=some x→x<a.tmps.size) {s:Nat} {p:Path} {v:V} {u:Value}
  (h1:pc p→VR c v u) (h2:¬ pc p→u=undef):ER c (put E d s p v) (a.put d u):=by
 intro t
 rw[znu,zpv a d u t hd]
 by_cases h:d=some t
 ·simp only[h,if_true];exact⟨h1,h2⟩
 ·simp only[h,if_false];exact hE t
theorem zxt {X:Nat→Bool} {k:Nat} {E:Env} (hK:KI X k E) {d:Option Nat} {p:Path} {v:V} (hp:KP X k p) :
  ∃ X',KI X' (k+1) (put E d (k+1) p v):=by
 refine⟨fun i=>if i=k then (match v with | .bool x=>x|_=>false) else X i,fun t=>?_⟩
 have mono:∀ q,KP X k q→KP (fun i=>if i=k then (match v with | .bool x=>x|_=>false) else X i) (k+1) q:=by
  intro q hq i b x hm
  obtain⟨e,hl⟩:=hq i b x hm
  exact⟨by show x=if i=k then _ else X i;rw[if_neg (by omega)];exact e,by omega⟩
 rw[znu]
 by_cases h:d=some t
 ·simp only[h,if_true]
  refine⟨mono p hp,fun i hi=>?_⟩
  obtain rfl:k=i:=by omega
  exact⟨by omega,fun x hx=>by simp[hx]⟩
 ·simp only[h,if_false]
  refine⟨mono _ (hK t).1,fun i hi=>?_⟩
  obtain⟨h1,h2⟩:=(hK t).2 i hi
  exact⟨by omega,fun x hx=>by show x=if i=k then _ else X i;rw[if_neg (by omega)];exact h2 x hx⟩
theorem AO.put {F:Fr} {a:Act} (h:AO F a) (d:Option Nat) (u:Value):AO F (a.put d u):=by
 cases d with
 | none=>exact h
 | some d=>exact⟨h.defers,by simp[Act.put,h.size]⟩
theorem gr (e:Ent) (r:Env) (t:Nat):get (e::r) t=if e.t=t then (e.s,e.p,e.v) else get r t:=by
 simp only[get]
 by_cases h:e.t=t
 ·subst h;simp
 ·rw[if_neg h]
  have:Nat.beq e.t t=false:=by
   cases hb:Nat.beq e.t t with
   | false=>rfl
   | true=>exact absurd (be hb) h
  simp[this]
theorem zee (E:Env) (t:Nat):(get (gl E) t).1=0∧(get (gl E) t).2.1=[]∧((get E t).2.1=[]→(get (gl E) t).2.2=(get E t).2.2)∧((get E t).2.1≠[]→(get (gl E) t).2.2 = .bad):=by
 induction E with
 | nil=>simp[gl,get]
 | cons e r ih =>
   obtain⟨t',s,p,v⟩:=e
   cases p with
   | nil =>
     simp only[gl,gr]
     by_cases hb:t'=t
     ·simp[hb]
     ·simpa [hb] using ih
   | cons y p =>
     simp only[gl,gr]
     by_cases hb:t'=t
     ·simp[hb]
     ·simpa [hb] using ih
theorem lh {c:Ctx} {E:Env} {a:Act} (hE:ER c E a):ER c (gl E) a:=by
 intro t
 obtain⟨h0,h1,h2,h3⟩:=zee E t
 rw[h1]
 refine⟨fun _=>?_,fun h=>absurd trivial h⟩
 by_cases h:(get E t).2.1=[]
 ·rw[h2 h]
  exact (hE t).1 (by rw[h];trivial)
 ·rw[h3 h];simp[VR]
theorem lc (E:Env):KI (fun _=>false) 0 (gl E):=by
 intro t
 obtain⟨h0,h1,h2,h3⟩:=zee E t
 rw[h1,h0]
 exact⟨fun i b x h=>by simp at h,fun i h=>by simp at h⟩
end Go.VM
end
section
namespace Go.VM
def R.has (r:R) (v:V):Prop :=
 match r with
 | .no=>False
 | .ok z=>v=z
 | .chk q z=>q∧v=z
structure St (F:Fr) (c:Ctx) (E:Env) (H:Heap) (a:Act) (X:Nat→Bool) (k:Nat):Prop where
 sr:SR F c H
 er:ER c E a
 ki:KI X k E
 ao:AO F a
def Nx (F:Fr) (k:Nat) (K:Env→Heap→Prop) (a:Act) (w:World):Prop:=∃ c E H X,c.w=w∧St F c E H a X k∧K E H
def OpOk (P:Program) (F:Fr) (Q:Exit→Act→World→Prop) (o:Oper) (k:Nat) (p:Path) (a:Act) (c:Ctx) (K:Env→Heap→Prop):Prop :=
 (pc p→o.wp P a c.w (Nx F (k+1) K) Q)∧(¬ pc p→Nx F (k+1) K (a.put o.dst undef) c.w)
section
variable {P:Program} {F:Fr} {c:Ctx} {E:Env} {H:Heap} {a:Act} {X:Nat→Bool} {k:Nat} {p:Path} {o:Oper} {Q:Exit→Act→World→Prop} {K:Env→Heap→Prop}
theorem ox (hs:St F c E H a X k) (hd:∀ x,o.dst=some x→x<F.nt) (hp:KP X k p) {v:V} {u:Value} (h1:pc p→VR c v u) (h2:¬ pc p→u=undef)
  (h:K (put E o.dst (k+1) p v) H):Nx F (k+1) K (a.put o.dst u) c.w:=by
 obtain⟨X',hX⟩:=zxt (v:=v) hs.ki (d:=o.dst) hp
 exact⟨c,_,H,X',rfl,⟨hs.sr,zxk hs.er (fun x hx=>by rw[hs.ao.size];exact hd x hx) h1 h2,hX,hs.ao.put _ _⟩,h⟩
theorem jl (hs:St F c E H a X k) (hd:∀ x,o.dst=some x→x<F.nt) (hp:KP X k p) {r:R}
  (hrun:pc p→∀ v,r.has v→∃ u,(execOp a.eval o).run P c.w = .ok (.value u) c.w∧VR c v u)
  (h:rk p r fun v=>K (put E o.dst (k+1) p v) H):OpOk P F Q o k p a c K:=by
 have key:∃ v,(pc p→r.has v)∧K (put E o.dst (k+1) p v) H:=by
  cases r with
  | no=>exact h.elim
  | ok v=>exact⟨v,fun _=>rfl,h⟩
  | chk q v=>exact⟨v,fun hpc=>⟨h.1 hpc,rfl⟩,h.2⟩
 obtain⟨v,hv,hK⟩:=key
 refine⟨fun hpc=>?_,fun hn=>ox hs hd hp (fun h=>absurd h hn) (fun _=>rfl) hK⟩
 obtain⟨u,hu,hvu⟩:=hrun hpc v (hv hpc)
 simp only[Oper.wp,hu,Oper.upon]
 exact ox hs hd hp (fun _=>hvu) (fun h=>absurd hpc h) hK
end
section
variable {P:Program} {c:Ctx} {w:World}
theorem mo {s:Sem Value} {u:Value} {w':World} (h:s.run P w = .ok u w'):(do pure (Next.value (← s)):Sem Next).run P w = .ok (.value u) w':=by
 simp[Sem.run_bind,h]
theorem zqt {cv av bv z:V} {cu au bu:Value} (h:(zfs cv av bv).has z) (hc:VR c cv cu)
  (ha:cv = .bool true→VR c av au) (hb:cv = .bool false→VR c bv bu) :
  ∃ u,(do pure (Next.value (if ← asBool cu then au else bu)):Sem Next).run P w = .ok (.value u) w∧VR c z u:=by
 unfold zfs at h
 split at h
 ·rename_i b
  simp only[VR] at hc
  subst hc
  refine⟨if b then au else bu,by simp[asBool,Sem.run_bind], ?_⟩
  split at h
  ·rename_i x y
   simp only[R.has] at h
   subst h
   cases b with
   | true=>have:=ha rfl;simp only[VR] at this;simp[this,bsel,VR]
   | false=>have:=hb rfl;simp only[VR] at this;simp[this,bsel,VR]
  ·simp only[R.has] at h
   subst h
   simp[VR]
 ·exact h.elim
theorem sz (l:List UInt8):(⟨l.toArray⟩:ByteArray).toList=l:=by
 rw[ByteArray.toList_eq]
theorem zea {t:Nat} (h:bp P t = .bool):P.underlying t=some .bool:=by
 unfold bp at h
 split at h<;>first|assumption|(split at h<;>first|(split at h<;>cases h)|cases h)|cases h
theorem zgr {t:Nat} {k:IntKind} (h:bp P t = .int k):P.underlying t=some (.int k):=by
 unfold bp at h
 split at h<;>first|(cases h;assumption)|(split at h<;>first|(split at h<;>cases h)|cases h)|cases h
theorem nm {t:Nat} (h:bp P t = .str):P.underlying t=some .string:=by
 unfold bp at h
 split at h<;>first|assumption|(split at h<;>first|(split at h<;>cases h)|cases h)|cases h
theorem ee {t:Nat} (h:bp P t = .slice):∃ e,P.underlying t=some (.slice e):=by
 unfold bp at h
 split at h<;>first|exact⟨_,by assumption⟩|(split at h<;>first|(split at h<;>cases h)|cases h)|cases h
theorem io {α:Type} [DecidableEq α] [BEq α] [LawfulBEq α] (a b:α):(a == b)=decide (a=b):=by
 by_cases h:a=b<;>simp[h]
theorem z0l {op:BinOp} {T:Nat} {k l:IntKind} {m n:Int} {z:V} {x y:Operand} (h:(bin op (bp P T) (.int k m) (.int l n)).has z) :
  ∃ r,(do eqGuard op T x y (.int k m) (.int l n);binOp op T (.int k m) (.int l n):Sem Value).run P w = .ok r w∧VR c z r:=by
 unfold bin at h
 dsimp only at h
 cases hk:Nat.beq (ikn k) (ikn l) with
 | false=>rw[hk] at h;exact h.elim
 | true =>
   rw[hk] at h
   obtain rfl:=zpx hk
   dsimp only [cond] at h
   rw[eqGuard_at_int]
   cases op<;>simp only[R.has] at h<;>first
    | exact h.elim
    | (subst h;simp[binOp,Op.intArith,Op.intCmp,VR,Sem.run_bind,io,bne];done)
    | (obtain⟨h0,rfl⟩:=h;simp[binOp,Op.intDiv,VR,Sem.run_bind,h0];done)
    | (obtain⟨⟨h0,h1⟩,rfl⟩:=h
       have hn:¬ n<0:=by omega
       have hb:min n.toNat k.bits=n.toNat:=by cases k<;>simp[IntKind.bits]<;>omega
       simp[binOp,Op.shift,VR,Sem.run_bind,hn,hb])
theorem z2q {op:BinOp} {T:Nat} {m n:List UInt8} {z:V} {x y:Operand} (h:(bin op (bp P T) (.str m) (.str n)).has z) :
  ∃ r,(do eqGuard op T x y (.string ⟨m.toArray⟩) (.string ⟨n.toArray⟩);binOp op T (.string ⟨m.toArray⟩) (.string ⟨n.toArray⟩):Sem Value).run P w = .ok r w∧VR c z r:=by
 unfold bin at h
 dsimp only at h
 rw[eqGuard_at_string]
 have e1:=sz m
 have e2:=sz n
 cases op<;>simp only[R.has] at h<;>first
   | exact h.elim
   | (subst h;simp[binOp,Op.stringOp,VR,Sem.run_bind,io,bne,e1,e2,blt];done)
   | (obtain⟨h0,rfl⟩:=h
      have:¬ (9223372036854775807<((m.length:Int)+(n.length:Int))):=by omega
      simp[binOp,Op.stringOp,VR,Sem.run_bind,ByteArray.size,this]
      rfl)
theorem zuq {op:BinOp} {T:Nat} {m n:Bool} {z:V} {x y:Operand} (h:(bin op (bp P T) (.bool m) (.bool n)).has z) :
  ∃ r,(do eqGuard op T x y (.bool m) (.bool n);binOp op T (.bool m) (.bool n):Sem Value).run P w = .ok r w∧VR c z r:=by
 unfold bin at h
 dsimp only at h
 rw[eqGuard_at_bool]
 have key:∀ d,P.underlying T=some .bool→(Op.equalIn (d+1) T (.bool m) (.bool n)).run P w = .ok (m == n) w:=fun d hT=>run_equalIn_bool' w d T m n hT
 split at h
 ·rename_i hk
  simp only[R.has] at h;subst h
  refine⟨.bool (decide (m=n)), ?_,by simp[VR]⟩
  simp only[binOp,Sem.run_bind,Sem.run_pure,Result.andThen_ok,Op.equal,Op.maxDepth]
  rw[key 9999 (zea hk)]
  simp[io]
 ·rename_i hk
  simp only[R.has] at h;subst h
  refine⟨.bool (!decide (m=n)), ?_,by simp[VR]⟩
  simp only[binOp,Sem.run_bind,Sem.run_pure,Result.andThen_ok,Op.equal,Op.maxDepth]
  rw[key 9999 (zea hk)]
  simp[io]
 ·exact h.elim
theorem zi {T e:Nat} (hT:P.underlying T=some (.slice e)) (d:Nat) (A:Option Addr) (n m:Nat) :
  (Op.equalIn (d+1) T (.slice A n m) (.slice none 0 0)).run P w = .ok A.isNone w:=by
 cases A<;>simp[Op.equalIn,Sem.run_bind,run_underlying hT]
theorem zev {op:BinOp} {T:Nat} {A:Option Addr} {n m:Nat} {nl:Bool} (hA:nl=true↔A=none) {x y:Operand}
  {z:V} (h:(match op,bp P T with | .eql,.slice=>R.ok (.bool nl) | .neq,.slice=>.ok (.bool (!nl))|_,_=>.no).has z) :
  ∃ r,(do eqGuard op T x y (.slice A n m) (.slice none 0 0);binOp op T (.slice A n m) (.slice none 0 0):Sem Value).run P w = .ok r w∧VR c z r:=by
 rw[eqGuard_at_slice]
 have hn:A.isNone=nl:=by cases A<;>cases nl<;>simp_all
 split at h
 ·rename_i hk
  obtain⟨e,hT⟩:=ee hk
  simp only[R.has] at h;subst h
  refine⟨.bool nl, ?_,by simp[VR]⟩
  simp only[binOp,Sem.run_bind,Sem.run_pure,Result.andThen_ok,Op.equal,Op.maxDepth]
  rw[zi hT 9999]
  simp[hn]
 ·rename_i hk
  obtain⟨e,hT⟩:=ee hk
  simp only[R.has] at h;subst h
  refine⟨.bool (!nl), ?_,by simp[VR]⟩
  simp only[binOp,Sem.run_bind,Sem.run_pure,Result.andThen_ok,Op.equal,Op.maxDepth]
  rw[zi hT 9999]
  simp[hn]
 ·exact h.elim
theorem nj {t:Nat} (hT:tagg P t=some false) (cs:Array Value) (i:Nat) {u:Value} (h:cs[i]? = some u):(part t cs i).run P w = .ok u w:=by
 have:P.underlying t≠none∧∀ d,P.underlying t=some d→(match d with | .struct _ | .array _ _=>true|_=>false)=false:=by
  unfold tagg at hT
  split at hT
  ·cases hT
  ·cases hT
  ·rename_i d h1 h2 h3
   rw[h3]
   refine⟨by simp,fun d' hd=>?_⟩
   cases hd
   cases d<;>simp_all
  ·cases hT
 obtain⟨h1,h2⟩:=this
 obtain⟨d,hd⟩:=Option.ne_none_iff_exists'.1 h1
 have h3:=h2 d hd
 unfold part
 simp only[Sem.run_bind,isAgg,run_underlying hd,Result.andThen_ok]
 cases d<;>simp_all
theorem wv {f:Field} {fs:List Field} {i:Nat} {ks:List Nat} (h:tj P (f::fs) i=some ks) :
  ∃ q ks',ks=q::ks'∧f.name≠"_"∧f.offset=i∧tj P fs (i+1)=some ks' ∧
   ((q=0∧P.underlying f.type=some .bool)∨(q=1∧∃ k,P.underlying f.type=some (.int k))∨(q=2∧P.underlying f.type=some .string)):=by
 simp only[tj] at h
 split at h
 ·rename_i hc
  simp only[Bool.and_eq_true,bne_iff_ne,ne_eq,beq_iff_eq] at hc
  split at h
  ·rename_i ks' h1 h2;cases h;exact⟨0,ks',rfl,hc.1,hc.2,h2,.inl ⟨rfl,h1⟩⟩
  ·rename_i k ks' h1 h2;cases h;exact⟨1,ks',rfl,hc.1,hc.2,h2,.inr (.inl ⟨rfl,k,h1⟩)⟩
  ·rename_i ks' h1 h2;cases h;exact⟨2,ks',rfl,hc.1,hc.2,h2,.inr (.inr ⟨rfl,h1⟩)⟩
  ·cases h
 ·cases h
theorem eq1_ok {q t:Nat} {x y:V} {b:Bool} (h:eq1 q x y=some b) {u v:Value} (hx:VR c x u) (hy:VR c y v) (d:Nat)
  (ht:(q=0∧P.underlying t=some .bool)∨(q=1∧∃ k,P.underlying t=some (.int k))∨(q=2∧P.underlying t=some .string)) :
  (Op.equalIn (d+1) t u v).run P w = .ok b w:=by
 unfold eq1 at h
 split at h
 ·cases h
  simp only[VR] at hx hy
  subst hx hy
  rcases ht with ⟨_,h⟩ | ⟨h,_⟩ | ⟨h,_⟩
  ·rw[run_equalIn_bool' w d t _ _ h];simp[io]
  ·cases h
  ·cases h
 ·rename_i k m l n
  cases hb:Nat.beq (ikn k) (ikn l) with
  | false=>rw[hb] at h;cases h
  | true =>
    rw[hb] at h
    obtain rfl:=zpx hb
    cases h
    simp only[VR] at hx hy
    subst hx hy
    rcases ht with ⟨h,_⟩ | ⟨_,k',h⟩ | ⟨h,_⟩
    ·cases h
    ·rw[run_equalIn_int w d t k k' m n h];simp[io]
    ·cases h
 ·cases h
  simp only[VR] at hx hy
  subst hx hy
  rcases ht with ⟨h,_⟩ | ⟨h,_⟩ | ⟨_,h⟩
  ·cases h
  ·cases h
  ·rw[run_equalIn_string w d t _ _ h];simp[io,sz]
 ·cases h
theorem eqs_ok {ks:List Nat} {xs ys:List V} {b:Bool} (h:eqs ks xs ys=some b) {us vs:Array Value} (d:Nat) :
  ∀ (fs:List Field) (i:Nat),tj P fs i=some ks →
   (VRs c xs fun j=>us[i+j]?)→(VRs c ys fun j=>vs[i+j]?)→(Op.eqFields (d+1) us vs fs).run P w = .ok b w:=by
 induction ks generalizing xs ys b with
 | nil =>
   intro fs i hf _ _
   cases fs with
   | nil=>cases xs<;>cases ys<;>simp[eqs] at h;subst h;simp[Op.eqFields]
   | cons f fs=>obtain⟨_,_,h,_⟩:=wv hf;cases h
 | cons q ks ih =>
   intro fs i hf hx hy
   cases fs with
   | nil=>simp[tj] at hf
   | cons f fs =>
     obtain⟨q',ks',hq,hn,ho,hf',ht⟩:=wv hf
     cases hq
     have hagg:tagg P f.type=some false:=by
      unfold tagg;rcases ht with ⟨_,h⟩ | ⟨_,k,h⟩ | ⟨_,h⟩<;>rw[h]
     cases xs with
     | nil=>simp[eqs] at h
     | cons x xs =>
       cases ys with
       | nil=>simp[eqs] at h
       | cons y ys =>
         simp only[VRs] at hx hy
         obtain⟨⟨u,hu,hxu⟩,hx'⟩:=hx
         obtain⟨⟨v,hv,hyv⟩,hy'⟩:=hy
         simp only[Nat.add_zero] at hu hv
         have hgo:∃ r r':Bool,b=(r && r')∧eq1 q x y=some r∧eqs ks xs ys=some r':=by
          cases ks with
          | nil =>
            simp only[eqs] at h
            cases xs<;>cases ys<;>simp at h
            exact⟨b,true,by simp,h,by simp[eqs]⟩
          | cons k2 ks =>
            simp only[eqs] at h
            split at h
            ·rename_i r r' h1 h2;cases h;exact⟨r,r',rfl,h1,by simpa only [eqs] using h2⟩
            ·cases h
         obtain⟨r,r',rfl,hr,hr'⟩:=hgo
         have hrun:=eq1_ok (P:=P) (w:=w) hr hxu hyv d ht
         have ihh:=ih hr' fs (i+1) hf' (by simpa [Nat.add_assoc,Nat.add_comm 1] using hx') (by simpa [Nat.add_assoc,Nat.add_comm 1] using hy')
         simp only[Op.eqFields,hn,ne_eq,not_false_eq_true,if_true,Sem.run_bind,ho,nj hagg us i hu,nj hagg vs i hv,Result.andThen_ok,hrun]
         cases r<;>simp[ihh]
theorem zme {t:Nat} {ks:List Nat} (h:bp P t = .flat ks):∃ fs,P.underlying t=some (.struct fs)∧tj P fs.toList 0=some ks∧P.stoodInHeld t=false∧P.eqGuardType P.depth t=false:=by
 unfold bp at h
 split at h
 ·cases h
 ·cases h
 ·cases h
 ·cases h
 ·rename_i fs hfs
  split at h
  ·rename_i ks' hk
   split at h
   ·rename_i hc
    cases h
    simp only[Bool.and_eq_true,Bool.not_eq_true'] at hc
    exact⟨fs,hfs,hk,hc.1,hc.2⟩
   ·cases h
  ·cases h
 ·cases h
theorem wx {t:Nat} {fs:Array Field} (h:P.underlying t=some (.struct fs)):P.fieldsOf t=fs:=by
 simp[Program.fieldsOf,h]
theorem zru {op:BinOp} {T:Nat} {ks:List Nat} (hk:bp P T = .flat ks) {xs ys:List V} {us vs:Array Value} (hx:VRs c xs fun j=>us[j]?) (hy:VRs c ys fun j=>vs[j]?) {x y:Operand}
  {z:V} (h:(match op,eqs ks xs ys with | .eql,some b=>R.ok (.bool b) | .neq,some b=>.ok (.bool (!b))|_,_=>.no).has z) :
  ∃ r,(do eqGuard op T x y (.agg us) (.agg vs);binOp op T (.agg us) (.agg vs):Sem Value).run P w = .ok r w∧VR c z r:=by
 obtain⟨fs,hT,hf,hs,hg⟩:=zme hk
 have hT':P.underlying T=some (.struct (P.fieldsOf T)):=by rw[wx hT];exact hT
 have key:∀ b,eqs ks xs ys=some b→(Op.equalIn 10000 T (.agg us) (.agg vs)).run P w = .ok b w:=fun b hb=>by
  rw[run_equalIn_agg w 9999 T us vs hT' hs,wx hT]
  exact eqs_ok hb 9998 fs.toList 0 hf (by simpa using hx) (by simpa using hy)
 split at h
 ·rename_i b hb
  simp only[R.has] at h;subst h
  refine⟨.bool b, ?_,by simp[VR]⟩
  simp only[Sem.run_bind,run_eqGuard_agg w .eql T x y us vs hg,Result.andThen_ok,run_eql_struct w T us vs,key b hb]
 ·rename_i b hb
  simp only[R.has] at h;subst h
  refine⟨.bool (!b), ?_,by simp[VR]⟩
  simp only[Sem.run_bind,run_eqGuard_agg w .neq T x y us vs hg,Result.andThen_ok,run_neq_struct w T us vs,key b hb]
 ·exact h.elim
theorem zqe {op:BinOp} {T:Nat} {u v:V} {m n:Value} (hu:VR c u m) (hv:VR c v n) {z:V} {x y:Operand} (h:(bin op (bp P T) u v).has z) :
  ∃ r,(do eqGuard op T x y m n;binOp op T m n:Sem Value).run P w = .ok r w∧VR c z r:=by
 cases u<;>cases v<;>first
  | (simp only[VR] at hu hv;subst hu hv;exact z0l h)
  | (simp only[VR] at hu hv;subst hu hv;exact z2q h)
  | (simp only[VR] at hu hv;subst hu hv;exact zuq h)
  | (unfold bin at h;exact h.elim)
  | skip
 ·simp only[VR] at hu hv;subst hu hv
  exact zev (nl:=true) (by simp) h
 ·rename_i nl _ _ _ _
  simp only[VR] at hu hv;subst hv
  obtain⟨A,cap,rfl,_,_,hA,_⟩:=hu
  cases nl with
  | none=>unfold bin at h;dsimp only at h;split at h<;>exact h.elim
  | some b=>exact zev (hA b rfl) h
 ·rename_i nl _ _ _ _ _
  simp only[VR] at hu hv;subst hv
  obtain⟨A,cap,rfl,_,_,hA,_⟩:=hu
  cases nl with
  | none=>unfold bin at h;dsimp only at h;split at h<;>exact h.elim
  | some b=>exact zev (hA b rfl) h
 ·simp only[VR] at hu hv
  obtain⟨us,rfl,_,_,hx⟩:=hu
  obtain⟨vs,rfl,_,_,hy⟩:=hv
  unfold bin at h
  dsimp only at h
  split at h
  ·rename_i ks hk
   exact zru hk hx hy h
  ·exact h.elim
end
end Go.VM
end
section
namespace Go.VM
section
variable {P:Program} {c:Ctx} {w:World}
theorem z3q {op:UnOp} {x z:V} {u:Value} (hx:VR c x u) (h:(un op x).has z):∃ r,(Op.unary op u).run P w = .ok r w∧VR c z r:=by
 unfold un at h
 split at h
 ·simp only[R.has] at h;subst h;simp only[VR] at hx;subst hx;exact⟨_,by simp[Op.unary];rfl,by simp[VR]⟩
 ·simp only[R.has] at h;subst h;simp only[VR] at hx;subst hx;exact⟨_,by simp[Op.unary,Op.intArith];rfl,by simp[VR]⟩
 ·exact h.elim
theorem zjr {i:Nat} {x z:V} {u:Value} (hx:VR c x u) (h:(nn x i).has z):∃ r,(Instr.extract u i).run P w = .ok r w∧VR c z r:=by
 unfold nn at h
 split at h
 ·rename_i vs
  simp only[VR] at hx
  obtain⟨us,rfl,hl,hs⟩:=hx
  cases hb:Nat.blt i (len vs) with
  | false=>rw[hb] at h;exact h.elim
  | true =>
    rw[hb] at h
    simp only[cond,R.has] at h
    subst h
    have hi:i<vs.length:=by rw[← jm];exact Nat.blt_eq ▸ hb
    obtain⟨r,hr,hv⟩:=de hs (qu vs i hi)
    exact⟨r,by simp[Instr.extract,hr],hv⟩
 ·exact h.elim
theorem qi {t:Nat} {d:TypeDesc} (h:P.underlying t=some d):∃ i,P.info? t=some i:=by
 unfold Program.underlying at h
 cases hi:P.info? t with
 | none=>rw[hi] at h;cases h
 | some i=>exact⟨i,rfl⟩
theorem cf {t:Nat} {i:TypeInfo} (h:P.info? t=some i):(sizeOf t).run P w = .ok (al P t) w:=by
 simp[sizeOf,typeInfo,h,al]
theorem ny {T f k t:Nat} (h:bg P T f=some (k,t)):∃ fs fld,P.underlying T=some (.struct fs)∧fs[f]? = some fld∧fld.offset=k∧fld.type=t∧al P t≠0:=by
 unfold bg at h
 split at h
 ·rename_i fs hfs
  split at h
  ·rename_i fld hf
   split at h
   ·cases h
   ·rename_i h0
    cases h
    exact⟨fs,fld,hfs,hf,rfl,rfl,h0⟩
  ·cases h
 ·cases h
theorem bx {t:Nat} (h:al P t≠0):∃ i,P.info? t=some i:=by
 unfold al at h
 cases hi:P.info? t with
 | none=>rw[hi] at h;exact absurd rfl h
 | some i=>exact⟨i,rfl⟩
theorem zde {T f:Nat} {x z:V} {u:Value} (hx:VR c x u) (h:(fieldAddr (bg P T f) x).has z):∃ r,(Instr.fieldAt T u f).run P w = .ok r w∧VR c z r:=by
 cases ho:bg P T f with
 | none=>rw[ho] at h;exact h.elim
 | some o =>
   obtain⟨k,t⟩:=o
   obtain⟨fs,fld,hT,hf,rfl,rfl,h0⟩:=ny ho
   obtain⟨i,hi⟩:=bx h0
   have key:∀ b o,(Instr.fieldAt T (.pointer (some ⟨b,o,none⟩)) f).run P w = .ok (.pointer (some ⟨b,o+fld.offset,none⟩)) w:=fun b o=>by
    simp[Instr.fieldAt,run_underlying hT,hf,Instr.sureAddr,fieldPlace,cf hi,h0,Addr.add_lit]
   rw[ho] at h
   unfold fieldAddr at h
   dsimp only at h
   split at h
   ·rename_i r off
    simp only[R.has] at h;subst h
    simp only[VR] at hx
    split at hx
    ·rename_i b m hr
     subst hx
     exact⟨_,key b off,by simp only[VR];rw[hr]⟩
    ·exact hx.elim
   ·rename_i r e i off
    simp only[R.has] at h;subst h
    simp only[VR] at hx
    split at hx
    ·rename_i b m hr
     subst hx
     exact⟨_,key b _,by simp only[VR];rw[hr];simp[Nat.add_assoc]⟩
    ·exact hx.elim
   ·rename_i cs off
    simp only[R.has] at h;subst h
    simp only[VR] at hx
    obtain⟨b,o,rfl,h1,h2,h3⟩:=hx
    refine⟨_,key b _, ?_⟩
    simp only[VR]
    exact⟨b,o,by simp[Nat.add_assoc],h1,h2,h3⟩
   ·exact h.elim
theorem wu {T:Nat} {x i z:V} {u v:Value} (hx:VR c x u) (hi:VR c i v) (h:(wi (bp P T) x i).has z):∃ r,(Instr.index T u v).run P w = .ok r w∧VR c z r:=by
 unfold wi at h
 split at h
 ·rename_i s k n hk
  obtain⟨⟨h0,h1⟩,rfl⟩:=h
  simp only[VR] at hx hi
  subst hx hi
  have hs:(⟨s.toArray⟩:ByteArray).size=s.length:=by simp[ByteArray.size]
  have h2:0≤n∧n<(((⟨s.toArray⟩:ByteArray).size:Nat):Int):=by rw[hs];exact⟨h0,h1⟩
  refine⟨_,by rw[run_index_string w T _ k n (nm hk),dif_pos h2], ?_⟩
  simp only[VR]
  congr 2
  have h3:n.toNat<s.length:=by omega
  have h4:(⟨s.toArray⟩:ByteArray)[n.toNat]'(by rw[hs];exact h3)=s[n.toNat]:=by
   show s.toArray[n.toNat]=_
   simp
  rw[h4];simp[List.getD,h3]
 ·exact h.elim
theorem cr {T e:Nat} (h:da P T=some e):P.underlying T=some (.slice e)∧al P e≠0:=by
 unfold da at h
 split at h
 ·split at h
  ·cases h
  ·cases h;exact⟨by assumption,by assumption⟩
 ·cases h
theorem mq {T e:Nat} (h:da P T=some e):P.underlying T=some (.slice e):=(cr h).1
theorem qq {T e:Nat} (h:P.underlying T=some (.slice e)):P.elem T=e:=by simp[Program.elem,h]
theorem du {T e:Nat} (h:P.underlying T=some (.slice e)):P.underlying T=some (.slice (P.elem T)):=by rw[qq h];exact h
theorem sn (a:Addr) (m n:Nat):(a.add m).add n=a.add (m+n):=by
 by_cases hm:m=0
 ·subst hm;simp[Addr.add]
 ·by_cases hn:n=0
  ·subst hn;simp[Addr.add]
  ·simp[Addr.add,hm,hn,Nat.add_assoc]
theorem zec (a:Addr) (k:Nat):(a.add k).block=a.block:=by unfold Addr.add;split<;>rfl
theorem zbj {w:World} {a:Addr} {x:Value} (h:w.cell? a=some x):a.spot=none:=by
 unfold World.cell? at h
 split at h
 ·split at h
  ·cases h
  ·rename_i hs;simpa using hs
 ·cases h
theorem zig {a:Addr} (h:a.spot=none) (k:Nat):a.add k=⟨a.block,a.off+k,none⟩:=by
 obtain⟨b,o,s⟩:=a
 dsimp only at h
 subst h
 exact Addr.add_lit b o k
theorem zbh {T e:Nat} (hT:da P T=some e) {x i z:V} {u v:Value} (hx:VR c x u) (hi:VR c i v) (h:(indexAddr (al P e) x i).has z):∃ r,(Instr.indexAt T u v).run P w = .ok r w∧VR c z r:=by
 obtain⟨hT',he⟩:=cr hT
 obtain⟨ie,hie⟩:=bx he
 have key:∀ a len cap k (n:Int),0≤n→n<(len:Nat)→(Instr.indexAt T (.slice (some a) len cap) (.int k n)).run P w = .ok (.pointer (some (a.add (n.toNat*al P e)))) w:=fun a len cap k n h0 h1=>by
  rw[run_indexAt_slice w T a len cap k n (du hT'),if_pos ⟨h0,h1⟩,qq hT',cf hie]
  simp
 unfold indexAddr at h
 split at h
 ·rename_i nl t e' n f k m
  cases hb:Nat.beq (al P e) e' with
  | false=>rw[hb] at h;exact h.elim
  | true =>
    rw[hb] at h
    obtain rfl:=be hb
    obtain⟨⟨h0,h1⟩,rfl⟩:=h
    simp only[VR] at hx hi
    subst hi
    obtain⟨A,cap,rfl,h2,h3,h4,h5,h6⟩:=hx
    obtain⟨a,rfl,ia,el,ho,hs⟩:=h6 m.toNat (by omega)
    refine⟨_,key a n cap k m h0 h1, ?_⟩
    have hsp:a.spot=none∨0<m.toNat*al P e:=by
     rcases Nat.eq_zero_or_pos (m.toNat*al P e) with h|h
     ·left
      have:∃ u,c.w.cell? (a.add (m.toNat*al P e+0))=some u:=by
       have h0:0<(f m.toNat).length:=by omega
       obtain⟨u,hu,_⟩:=de hs (qu _ 0 h0)
       exact⟨u,hu⟩
      obtain⟨u,hu⟩:=this
      rw[h] at hu
      exact zbj (a:=a) (by simpa [Addr.add] using hu)
     ·exact .inr h
    have hadd:a.add (m.toNat*al P e)=⟨a.block,a.off+m.toNat*al P e,none⟩:=by
     rcases hsp with h|h
     ·exact zig h _
     ·unfold Addr.add;rw[if_neg (by omega)]
    have hadd2:∀ j,a.add (m.toNat*al P e+j)=⟨a.block,a.off+m.toNat*al P e+j,none⟩:=fun j=>by
     rw[← sn,hadd,Addr.add_lit]
    simp only[VR]
    refine⟨a.block,a.off+m.toNat*al P e,by rw[hadd];simp,ia, ?_, ?_⟩
    ·rw[el];intro j x hj hx;exact ho j x hj ((congrArg c.w.cell? (hadd2 j)).trans hx)
    ·exact br hs fun j _=>(congrArg c.w.cell? (hadd2 j)).symm
 ·rename_i nl r e' off n t k m
  cases hb:Nat.beq (al P e) e' with
  | false=>rw[hb] at h;exact h.elim
  | true =>
    rw[hb] at h
    obtain rfl:=be hb
    obtain⟨⟨h0,h1⟩,rfl⟩:=h
    simp only[VR] at hx hi
    subst hi
    obtain⟨A,cap,rfl,h2,h3,h4,h5⟩:=hx
    split at h5
    ·rename_i b mm hr
     obtain⟨h5,h6⟩:=h5
     obtain rfl:=h6 (by omega)
     refine⟨_,key _ n cap k m h0 h1, ?_⟩
     simp only[VR]
     rw[hr]
     simp[Addr.add_lit,Nat.add_mul]
    ·omega
    ·exact h5.elim
 ·exact h.elim
theorem zic {cs:List V} {g:Nat→Option Value} (H:VRs c cs g):∃ us:List Value,us.length=cs.length∧(∀ j:Nat,j<cs.length→us[j]? = g j)∧VRs c cs fun j=>us[j]?:=by
 induction cs generalizing g with
 | nil=>exact⟨[],rfl,fun j hj=>by simp at hj,by simp only[VRs]⟩
 | cons x xs ih =>
   simp only[VRs] at H
   obtain⟨⟨u,hu,hx⟩,hs⟩:=H
   obtain⟨us,h1,h2,h3⟩:=ih hs
   refine⟨u::us,by simp[h1],fun j hj=>?_, ?_⟩
   ·cases j with
    | zero=>simp[hu]
    | succ j=>simpa using h2 j (by simpa using hj)
   ·simp only[VRs]
    exact⟨⟨u,by simp,hx⟩,by simpa using h3⟩
theorem sa {cs:List V} {g:Nat→Option Value} (H:VRs c cs g) (k:Nat):VRs c (cs.drop k) fun j=>g (k+j) :=
 kz fun i v hi=>de H (by simpa using hi)
theorem rn {cs:List V} {g:Nat→Option Value} (H:VRs c cs g) (k:Nat):VRs c (cs.take k) g :=
 kz fun i v hi=>de H (by
  rw[List.getElem?_take] at hi
  split at hi
  ·exact hi
  ·cases hi)
theorem pp {T:Nat} {b:Bool} (h:tagg P T=some b):(isAgg T).run P w = .ok b w:=by
 unfold tagg at h
 split at h
 ·rename_i hT;cases h;simp[isAgg,run_underlying hT]
 ·rename_i hT;cases h;simp[isAgg,run_underlying hT]
 ·rename_i d h1 h2 hT
  cases h
  simp only[isAgg,Sem.run_bind,run_underlying hT,Result.andThen_ok]
  cases d<;>simp_all
 ·cases h
theorem ma {T:Nat} {b:Bool} (h:tagg P T=some b):∃ i,P.info? T=some i:=by
 unfold tagg at h
 split at h
 ·exact qi (by assumption)
 ·exact qi (by assumption)
 ·exact qi (by assumption)
 ·cases h
theorem zae {T:Nat} {cs:List V} {off:Nat} {z:V} {g:Nat→Option Value} {b o:Nat} (H:VRs c cs g) (ho:One cs.length g) (hg:∀ j x,j<cs.length→g j=some x→w.cell? ⟨b,o+j,none⟩=some x)
  (h:(vn (ti P T) cs off).has z):∃ r,(loadVar T ⟨b,o+off,none⟩).run P w = .ok r w∧VR c z r:=by
 unfold vn at h
 dsimp only [ti] at h
 split at h
 ·rename_i hT
  cases hb:Nat.ble (off+al P T) (len cs) with
  | false=>rw[hb] at h;exact h.elim
  | true =>
    rw[hb] at h
    simp only[cond,R.has] at h
    subst h
    have hle:off+al P T≤cs.length:=by rw[← jm];exact Nat.le_of_ble_eq_true hb
    obtain⟨i,hi⟩:=ma hT
    have H2:=rn (sa H off) (al P T)
    obtain⟨us,h1,h2,h3⟩:=zic H2
    have hul:us.length=al P T:=by rw[h1];simp;omega
    have hrun:(loadCells ⟨b,o+off,none⟩ (al P T)).run P w = .ok us.toArray w:=by
     rw[← hul]
     refine run_loadCells_list w _ us fun j v hj=>?_
     rw[Addr.add_lit]
     have hjl:j<us.length:=(List.getElem?_eq_some_iff.1 hj).1
     have:=h2 j (by simp;omega)
     rw[this] at hj
     have:=hg (off+j) v (by omega) hj
     rw[Nat.add_assoc];exact this
    refine⟨.agg us.toArray,by simp[loadVar,pp hT,cf hi,hrun], ?_⟩
    simp only[VR]
    rw[zqw,zql]
    refine⟨us.toArray,rfl,by simp[h1], ?_,by simpa using h3⟩
    intro j x hj hx
    have:=h2 j hj
    simp only[List.getElem?_toArray] at hx
    rw[this] at hx
    refine ho (off+j) x ?_ hx
    simp at hj;omega
 ·rename_i hT
  cases hb:Nat.blt off (len cs) with
  | false=>rw[hb] at h;exact h.elim
  | true =>
    rw[hb] at h
    simp only[cond,R.has] at h
    subst h
    have hlt:off<cs.length:=by rw[← jm];exact Nat.blt_eq ▸ hb
    obtain⟨u,hu,hv⟩:=de H (qu cs off hlt)
    refine⟨u, ?_,hv⟩
    have hc:=hg off u hlt hu
    simp[loadVar,pp hT,Go.load,Sem.run,hc]
 ·exact h.elim
theorem zco {T:Nat} (hT:P.underlying T=some .string) {s:List UInt8} {lo hi:Option V} {z:V} {lo' hi':Option Value}
  (hl:match lo,lo' with|none,none=>True|some x,some u=>VR c x u|_,_=>False) (hh:match hi,hi' with|none,none=>True|some x,some u=>VR c x u|_,_=>False)
  (h:(yl s lo hi).has z):∃ r,(Instr.sliceAt T (.string ⟨s.toArray⟩) lo' hi' none).run P w = .ok r w∧VR c z r:=by
 have hs:(⟨s.toArray⟩:ByteArray).size=s.length:=by simp[ByteArray.size]
 have hex:∀ a b,(⟨s.toArray⟩:ByteArray).extract a b=⟨((s.take b).drop a).toArray⟩:=fun a b=>by
  apply ByteArray.ext
  rw[ByteArray.data_extract]
  apply Array.ext'
  simp[List.extract_eq_take_drop,List.drop_take]
 rw[run_sliceAt_string w T _ lo' hi' none hT]
 unfold yl at h
 split at h
 ·cases lo'<;>cases hi'<;>simp at hl hh
  simp only[R.has] at h;subst h
  rw[run_slice_string_all w T _ hT,hex,hs]
  exact⟨_,rfl,by simp[VR]⟩
 ·cases lo'<;>cases hi'<;>simp at hl hh
  obtain⟨⟨h0,h1⟩,rfl⟩:=h
  simp only[VR] at hl;subst hl
  rw[run_slice_string_l w T _ hT _ _ h0 (by rw[hs];exact h1),hex,hs]
  exact⟨_,rfl,by simp[VR]⟩
 ·cases lo'<;>cases hi'<;>simp at hl hh
  obtain⟨⟨h0,h1⟩,rfl⟩:=h
  simp only[VR] at hh;subst hh
  rw[run_slice_string_h w T _ hT _ _ h0 (by rw[hs];exact h1),hex]
  exact⟨_,rfl,by simp[VR]⟩
 ·cases lo'<;>cases hi'<;>simp at hl hh
  obtain⟨⟨h0,h1,h2⟩,rfl⟩:=h
  simp only[VR] at hl hh;subst hl hh
  rename_i _ l _ h
  refine⟨.string ⟨((s.take h.toNat).drop l.toNat).toArray⟩, ?_,by simp only[VR]⟩
  have e1:(h.toNat:Int)=h:=Int.toNat_of_nonneg (by omega)
  simp[Instr.slice,run_underlying hT,Instr.sliceBounds,run_sliceBound,h0,h1,h2,hs,hex,e1,(by omega:0≤h)]
 ·exact h.elim
def OR (c:Ctx):Option V→Option Value→Prop
 | none,none=>True
 | some x,some u=>VR c x u
 | _,_=>False
theorem zds {n cap:Nat} {t t':Tg} {l h:Nat} {q:Prop} {lo hi mx:Option V} {lo' hi' mx':Option Value} (hl:OR c lo lo') (hh:OR c hi hi') (hm:OR c mx mx')
  (hn:n≤cap) (ht:t = .cut true→cap=n) {cp:Nat} (hcp:cp≤cap) (hx:∀ C,t = .exact C→cap=C) (hc:cutV n cp t lo hi mx = .cut l h t' q) (hq:q) :
  ∃ m,(Instr.sliceBounds true n cap lo' hi' mx').run P w = .ok (l,h,m) w∧l≤h∧h≤m∧m≤cap∧(h≤n∨h≤cp)∧((t' = .cut true→m=h)∧∀ C,t' = .exact C→m-l=C):=by
 have sh1:∀ l,shT t l = .cut true→t = .cut true:=fun l h=>by cases t<;>simp_all [shT]
 have sh2:∀ l C,shT t l = .exact C→cap-l=C:=fun l C h=>by
  cases t with
  | exact D=>have:=hx D rfl;simp only[shT,Tg.exact.injEq] at h;omega
  | _=>simp[shT] at h
 have hi1:∀ l,hiT t l = .cut true→False:=fun l h=>by cases t<;>simp[hiT] at h
 have hi2:∀ l C,hiT t l = .exact C→cap-l=C:=fun l C h=>by
  cases t with
  | exact D=>have:=hx D rfl;simp only[hiT,Tg.exact.injEq] at h;omega
  | _=>simp[hiT] at h
 unfold cutV at hc
 split at hc
 ·cases lo'<;>cases hi'<;>cases mx'<;>simp[OR] at hl hh hm
  cases hc
  exact⟨cap,by simp[Instr.sliceBounds],by omega,hn,by omega,.inl (by omega),ht,fun C h=>by rw[← hx C h];omega⟩
 ·cases lo'<;>cases hi'<;>cases mx'<;>simp[OR] at hl hh hm
  cases hc
  simp only[VR] at hl;subst hl
  obtain⟨h0,h1⟩:=hq
  exact⟨cap,by simp[Instr.sliceBounds,run_sliceBound,h0,h1],by omega,hn,by omega,.inl (by omega),fun h=>ht (sh1 _ h),fun C h=>sh2 _ C h⟩
 ·cases lo'<;>cases hi'<;>cases mx'<;>simp[OR] at hl hh hm
  cases hc
  simp only[VR] at hh;subst hh
  obtain⟨h0,h1⟩:=hq
  have h2:∀ x:Int,x≤cp→x≤cap:=fun x hx=>by omega
  exact⟨cap,by simp[Instr.sliceBounds,run_sliceBound,h0,h2 _ h1],by omega,by omega,by omega,.inr (by omega),fun h=>(hi1 _ h).elim,fun C h=>hi2 _ C h⟩
 ·cases lo'<;>cases hi'<;>cases mx'<;>simp[OR] at hl hh hm
  cases hc
  simp only[VR] at hl hh;subst hl hh
  rename_i _ l _ h
  obtain⟨h0,h1,h2⟩:=hq
  have e1:(h.toNat:Int)=h:=Int.toNat_of_nonneg (by omega)
  have h3:h≤cap:=by omega
  exact⟨cap,by simp[Instr.sliceBounds,run_sliceBound,h0,h1,h3,e1,(by omega:0≤h)],by omega,by omega,by omega,.inr (by omega),fun h=>(hi1 _ h).elim,fun C h=>hi2 _ C h⟩
 ·cases lo'<;>cases hi'<;>cases mx'<;>simp[OR] at hl hh hm
  cases hc
  simp only[VR] at hm hh;subst hm hh
  rename_i _ h _ m
  obtain⟨h0,h1,h2⟩:=hq
  have e1:(m.toNat:Int)=m:=Int.toNat_of_nonneg (by omega)
  have h3:m≤cap:=by omega
  refine⟨m.toNat,by simp[Instr.sliceBounds,run_sliceBound,h0,h1,h3,e1,(by omega:0≤m)],by omega,by omega,by omega,.inl (by omega),fun e=>?_,fun C e=>by cases e⟩
  simp only[Tg.cut.injEq,decide_eq_true_eq] at e
  rw[e]
 ·cases lo'<;>cases hi'<;>cases mx'<;>simp[OR] at hl hh hm
  cases hc
  simp only[VR] at hl hm hh;subst hl hm hh
  rename_i _ l _ h _ m
  obtain⟨h00,h0,h1,h2⟩:=hq
  have e1:(m.toNat:Int)=m:=Int.toNat_of_nonneg (by omega)
  have e2:(h.toNat:Int)=h:=Int.toNat_of_nonneg (by omega)
  have h3:m≤cap:=by omega
  refine⟨m.toNat,by simp[Instr.sliceBounds,run_sliceBound,h00,h0,h1,h3,e1,e2,(by omega:0≤m),(by omega:0≤h)],by omega,by omega,by omega,.inl (by omega),fun e=>?_,fun C e=>by cases e⟩
  simp only[Tg.cut.injEq,decide_eq_true_eq] at e
  rw[e]
 ·cases hc
theorem znk {T:Nat} {x z:V} {u:Value} {lo hi mx:Option V} {lo' hi' mx':Option Value} (hx:VR c x u) (hl:OR c lo lo') (hh:OR c hi hi') (hm:OR c mx mx')
  {es:Nat} (hes:∀ e,P.underlying T=some (.slice e)→es≠0→da P T=some e∧es=al P e)
  (h:(pj (bp P T) es x lo hi mx).has z):∃ r,(Instr.sliceAt T u lo' hi' mx').run P w = .ok r w∧VR c z r:=by
 unfold pj at h
 have hkk:∀ k,(match bp P T with | .slice=>bif Nat.beq es 0 then TK.other else bp P T|_=>bp P T)=k→(k = .str→bp P T = .str)∧(k = .slice→bp P T = .slice∧es≠0):=by
  intro k hk
  split at hk
  ·rename_i h1
   cases hb:Nat.beq es 0 with
   | true=>rw[hb] at hk;subst hk;exact⟨(fun h=>by cases h),(fun h=>by cases h)⟩
   | false =>
     rw[hb] at hk
     simp only[cond] at hk
     rw[← hk]
     refine⟨fun h=>h,fun h=>⟨h, ?_⟩⟩
     rintro rfl
     simp at hb
  ·rename_i h1
   rw[← hk]
   exact⟨fun h=>h,fun h=>absurd h h1⟩
 split at h
 ·rename_i s hk
  replace hk:=(hkk _ hk).1 rfl
  cases mx'<;>simp[OR] at hm
  simp only[VR] at hx;subst hx
  refine zco (nm hk) (lo:=lo) (hi:=hi) ?_ ?_ h
  ·cases lo<;>cases lo'<;>simpa [OR] using hl
  ·cases hi<;>cases hi'<;>simpa [OR] using hh
 ·rename_i mx2 nl t e' n f hk
  obtain⟨hk,hes0⟩:=(hkk _ hk).2 rfl
  obtain⟨e,hT⟩:=ee hk
  obtain⟨he,hes⟩:=hes e hT hes0
  subst hes
  obtain⟨_,he0⟩:=cr he
  obtain⟨ie,hie⟩:=bx he0
  cases hb:Nat.beq (al P e) e' with
  | false=>rw[hb] at h;exact h.elim
  | true =>
    rw[hb] at h
    obtain rfl:=be hb
    dsimp only [cond] at h
    split at h
    ·rename_i l h' t' q hc
     obtain⟨hq,rfl⟩:=h
     simp only[VR] at hx
     obtain⟨A,cap,rfl,h2,h3,h4,h5,h6⟩:=hx
     obtain⟨m,hrun,b1,b2,b3,b4,b5,b6⟩:=zds (P:=P) (w:=w) hl hh hm h2 (fun h=>h3 (by cases t<;>simp_all [unx])) (cp:=n) h2 (fun C h=>by cases t<;>simp[unx] at h) hc hq
     refine⟨sliced A l h' m (al P e), ?_, ?_⟩
     ·rw[run_sliceAt_slice w T _ _ _ _ (du hT),run_slice_any w T A n cap (du hT),hrun,qq hT]
      simp[cf hie]
     ·simp only[VR,sliced]
      refine⟨_,_,rfl,by omega,fun e=>by rw[b5 e], ?_, ?_, ?_⟩
      ·intro b hb;rw[h4 b hb];cases A<;>simp;split<;>simp
      ·intro hA
       have:A=none:=by cases A<;>simp at hA<;>first|rfl|(split at hA<;>simp at hA)
       have:=h5 this
       omega
      ·intro i hi
       obtain⟨a,rfl,ia,el,ho,hs⟩:=h6 (l+i) (by omega)
       have hml:m≠l:=by omega
       refine⟨a.add (l*al P e),by simp[hml],by rw[zec];exact ia,el, ?_, ?_⟩
       ·intro j x hj hx
        exact ho j x hj ((congrArg c.w.cell? (by rw[sn,Nat.add_mul,Nat.add_assoc])).trans hx)
       ·exact br hs fun j _=>congrArg c.w.cell? (by rw[sn,Nat.add_mul,Nat.add_assoc])
    ·exact h.elim
 ·rename_i mx2 nl r e' off n t hk
  obtain⟨hk,hes0⟩:=(hkk _ hk).2 rfl
  obtain⟨e,hT⟩:=ee hk
  obtain⟨he,hes⟩:=hes e hT hes0
  subst hes
  obtain⟨_,he0⟩:=cr he
  obtain⟨ie,hie⟩:=bx he0
  cases hb:Nat.beq (al P e) e' with
  | false=>rw[hb] at h;exact h.elim
  | true =>
    rw[hb] at h
    obtain rfl:=be hb
    dsimp only [cond] at h
    split at h
    ·rename_i l h' t' q hc
     obtain⟨hq,rfl⟩:=h
     simp only[VR] at hx
     obtain⟨A,cap,rfl,h2,h3,h4,h5⟩:=hx
     obtain⟨m,hrun,b1,b2,b3,b4,b5,b6⟩:=zds (P:=P) (w:=w) hl hh hm h2.1 h3 (cp:=cpT t n) (by cases t<;>simp only[cpT]<;>first|exact h2.1|(have:=h2.2 _ rfl;omega)) h2.2 hc hq
     refine⟨sliced A l h' m (al P e), ?_, ?_⟩
     ·rw[run_sliceAt_slice w T _ _ _ _ (du hT),run_slice_any w T A n cap (du hT),hrun,qq hT]
      simp[cf hie]
     ·simp only[VR,sliced]
      refine⟨_,_,rfl,⟨by omega,b6⟩,fun e=>by rw[b5 e], ?_, ?_⟩
      ·intro b hb;rw[h4 b hb];cases A<;>simp;split<;>simp
      ·split at h5
       ·obtain⟨h5,h6⟩:=h5
        refine⟨by omega,fun hp=>?_⟩
        have hml:m≠l:=by omega
        rw[h6 (by omega)]
        simp[hml,Addr.add_lit,Nat.add_mul]
       ·omega
       ·exact h5
    ·exact h.elim
 ·exact h.elim
theorem zc {T ty:Nat} {x z:V} {u:Value} (hx:VR c x u) (h:(vlen (bp P T) x).has z):∃ r,(Builtin.len_ #[T] ty #[u]).run P w = .ok r w∧VR c z r:=by
 unfold vlen at h
 split at h
 ·rename_i s hk
  simp only[R.has] at h;subst h
  simp only[VR] at hx;subst hx
  exact⟨_,run_len_string w T ty _ (nm hk),by simp[VR,goInt,ByteArray.size]⟩
 ·rename_i nl t e n f hk
  obtain⟨e,hT⟩:=ee hk
  simp only[R.has] at h;subst h
  simp only[VR] at hx
  obtain⟨A,cap,rfl,_⟩:=hx
  exact⟨_,run_len_slice w T ty A n cap (du hT),by simp[VR,goInt]⟩
 ·rename_i nl r e off n t hk
  obtain⟨e,hT⟩:=ee hk
  simp only[R.has] at h;subst h
  simp only[VR] at hx
  obtain⟨A,cap,rfl,_⟩:=hx
  exact⟨_,run_len_slice w T ty A n cap (du hT),by simp[VR,goInt]⟩
 ·rename_i hk
  obtain⟨e,hT⟩:=ee hk
  simp only[R.has] at h;subst h
  simp only[VR] at hx;subst hx
  exact⟨_,run_len_slice w T ty none 0 0 (du hT),by simp[VR,goInt]⟩
 ·exact h.elim
end
end Go.VM
end
section
namespace Go.VM
theorem One.mono {n:Nat} {g g':Nat→Option Value} (h:One n g) (hg:∀ j,j<n→g' j=g j):One n g' :=
 fun j x hj hx=>h j x hj ((hg j hj).symm.trans hx)
theorem MR.mono {c c':Ctx} (h:Le c c'):∀ {es:List (List UInt8 × V)} {A:List MapEntry},MR c es A→MR c' es A
 | [],[],_=>trivial
 | (k,v)::es,x::A,H=>⟨H.1,qo h v _ H.2.1,MR.mono h H.2.2⟩
 | [],_::_,H=>H.elim
 | _::_,[],H=>H.elim
theorem Cont.mono {c c':Ctx} (h:Le c c') {O:Obj} {cap:Nat} {x:Blk} (H:Cont c O cap x):Cont c' O cap x:=by
 cases x with
 | box cs=>obtain⟨C,el,rfl,H⟩:=H;exact⟨C,el,rfl,H.1,H.2.1,fa h _ _ _ (fun _ _ h=>h) H.2.2⟩
 | arr e n f=>obtain⟨C,el,rfl,H⟩:=H;exact⟨C,el,rfl,H.1,H.2.1,fun i hi=>⟨(H.2.2 i hi).1,(H.2.2 i hi).2.1,fa h _ _ _ (fun _ _ h=>h) (H.2.2 i hi).2.2⟩⟩
 | mp es=>obtain⟨A,k,rfl,H⟩:=H;exact⟨A,k,rfl,H.mono h⟩
 | dead=>trivial
theorem BlkOk.mono {F:Fr} {c c':Ctx} (h:Le c c') {x:Blk} {l:Option (Nat × Nat)} (H:BlkOk F c x l) (hw:∀ b m,l=some (b,m)→Live x→c'.w.heap[b]? = c.w.heap[b]?∧¬ c'.I b):BlkOk F c' x l:=by
 cases l with
 | none=>exact H
 | some l =>
   obtain⟨b,m⟩:=l
   intro hl
   obtain⟨O,h1,h2,h3,h4⟩:=H hl
   obtain⟨e1,e2⟩:=hw b m rfl hl
   exact⟨O,e1.trans h1,h2.mono h,e2,h4⟩
section
variable {P:Program} {F:Fr} {c:Ctx} {H:Heap}
theorem SR.lt {r:Nat} (h:SR F c H) {x:Option (Nat × Nat)} (hr:c.locs[r]? = some x):r<H.length:=by
 rw[← h.len];exact (List.getElem?_eq_some_iff.1 hr).1
theorem SR.get {r:Nat} (h:SR F c H) {l:Option (Nat × Nat)} (hr:c.locs[r]? = some l):H[r]? = some (hget H r)∧BlkOk F c (hget H r) l:=by
 have h1:=zni H r (h.lt hr)
 exact⟨h1,h.blk r _ l h1 hr⟩
theorem Wr.new {b:Nat} (h:FR F c.w) (hb:c.w.heap.size≤b):Wr F b:=.inl (Nat.le_trans h.size hb)
theorem SR.newO (h:SR F c H) (x:Blk) (O:Obj) (cap:Nat) (hC:Cont c O cap x) :
  SR F ⟨c.w.alloc O,c.I,c.locs++[some (c.w.heap.size,cap)]⟩ (H++[x])∧Le c ⟨c.w.alloc O,c.I,c.locs++[some (c.w.heap.size,cap)]⟩:=by
 have hle:Le c ⟨c.w.alloc O,c.I,c.locs++[some (c.w.heap.size,cap)]⟩ :=
  ⟨fun r x e=>by rw[List.getElem?_append_left (List.getElem?_eq_some_iff.1 e).1];exact e,fun _ h=>h,fun b hb=>tq _ _ _ (h.imm b hb)⟩
 refine⟨⟨?_,h.le.trans hle,by simp[h.len], ?_, ?_,(fun b hb=>by have:=h.imm b hb;simp;omega),h.old⟩,hle⟩
 ·exact⟨h.fr.os,h.fr.tape,h.fr.output,by have:=h.fr.size;simp;omega,fun k hk hx=>by
   show (c.w.alloc _).heap[k]? = _
   rw[tq _ _ _ (by have:=h.fr.size;omega)];exact h.fr.block k hk hx⟩
 ·intro r y l hr hl
  by_cases hlt:r<H.length
  ·rw[List.getElem?_append_left hlt] at hr
   rw[List.getElem?_append_left (by rw[h.len];exact hlt)] at hl
   refine (h.blk r y l hr hl).mono hle fun b m e hlive=>?_
   subst e
   obtain⟨O',h1,_,h3,_⟩:=h.blk r y _ hr hl hlive
   exact⟨tq _ _ _ (Array.getElem?_eq_some_iff.1 h1).1,h3⟩
  ·have hlen:=h.len
   have:r=H.length:=by
    have:=(List.getElem?_eq_some_iff.1 hr).1
    simp at this;omega
   subst this
   simp at hr
   rw[List.getElem?_append_right (by omega)] at hl
   simp[hlen] at hl
   subst hr hl
   intro _
   refine⟨O,heap_alloc_new _ _,hC.mono hle,fun hi=>?_,.inl h.fr.size⟩
   have:=h.imm _ hi
   omega
 ·intro r r' y y' b m m' hr hr' hy hy' hl hl'
  have hlen:=h.len
  have key:∀ (r:Nat) (y:Blk) (b m:Nat),(H++[x])[r]? = some y→(c.locs++[some (c.w.heap.size,cap)])[r]? = some (some (b,m))→(H[r]? = some y∧c.locs[r]? = some (some (b,m)))∨(r=H.length∧b=c.w.heap.size):=by
   intro r y b m hr hl
   by_cases hlt:r<H.length
   ·rw[List.getElem?_append_left hlt] at hr
    rw[List.getElem?_append_left (by omega)] at hl
    exact .inl ⟨hr,hl⟩
   ·have:r=H.length:=by
     have:=(List.getElem?_eq_some_iff.1 hr).1
     simp at this;omega
    subst this
    rw[List.getElem?_append_right (by omega)] at hl
    simp[hlen] at hl
    exact .inr ⟨rfl,hl.1.symm⟩
  have hlt:∀ (r:Nat) (y:Blk) (b m:Nat),H[r]? = some y→Live y→c.locs[r]? = some (some (b,m))→b<c.w.heap.size:=by
   intro r y b m hr hy hl
   obtain⟨O',h1,_⟩:=h.blk r y _ hr hl hy
   exact (Array.getElem?_eq_some_iff.1 h1).1
  rcases key r y b m hr hl with ⟨a1,a2⟩ | ⟨a1,a2⟩<;>rcases key r' y' b m' hr' hl' with ⟨b1,b2⟩ | ⟨b1,b2⟩
  ·exact h.inj r r' y y' b m m' a1 b1 hy hy' a2 b2
  ·have:=hlt r y b m a1 hy a2;omega
  ·have:=hlt r' y' b m' b1 hy' b2;omega
  ·omega
theorem SR.new (h:SR F c H) (x:Blk) (C:Array Value) (el:TypeId) (cap:Nat) (hC:Cont c (.cells C el) cap x) :
  SR F ⟨c.w.alloc (.cells C el),c.I,c.locs++[some (c.w.heap.size,cap)]⟩ (H++[x])∧Le c ⟨c.w.alloc (.cells C el),c.I,c.locs++[some (c.w.heap.size,cap)]⟩:=h.newO x _ cap hC
theorem SR.drew (h:SR F c H):SR F { c with w:=c.w.drew } H∧Le c { c with w:=c.w.drew }:=by
 have hle:Le c { c with w:=c.w.drew }:=⟨fun _ _ e=>e,fun _ h=>h,fun _ _=>rfl⟩
 refine⟨⟨⟨h.fr.os,h.fr.tape,h.fr.output,h.fr.size,h.fr.block⟩,h.le.trans hle,h.len,fun r y l hr hl=>(h.blk r y l hr hl).mono hle fun b m e hlive=>?_,h.inj,h.imm,h.old⟩,hle⟩
 subst e
 obtain⟨O',h1,_,h3,_⟩:=h.blk r y _ hr hl hlive
 exact⟨rfl,h3⟩
theorem SR.virt (h:SR F c H) (e:Nat) (f:Nat→List V):SR F { c with locs:=c.locs++[none] } (H++[.arr e 0 f])∧Le c { c with locs:=c.locs++[none] }:=by
 have hle:Le c { c with locs:=c.locs++[none] }:=⟨fun r x e=>by rw[List.getElem?_append_left (List.getElem?_eq_some_iff.1 e).1];exact e,fun _ h=>h,fun _ _=>rfl⟩
 have hlen:=h.len
 have key:∀ (r:Nat) (y:Blk) (l:Option (Nat × Nat)),(H++[Blk.arr e 0 f])[r]? = some y→(c.locs++[none])[r]? = some l→(H[r]? = some y∧c.locs[r]? = some l)∨(y=Blk.arr e 0 f∧l=none):=by
  intro r y l hr hl
  by_cases hlt:r<H.length
  ·rw[List.getElem?_append_left hlt] at hr
   rw[List.getElem?_append_left (by omega)] at hl
   exact .inl ⟨hr,hl⟩
  ·have:r=H.length:=by
    have:=(List.getElem?_eq_some_iff.1 hr).1
    simp at this;omega
   subst this
   rw[List.getElem?_append_right (by omega)] at hl
   simp[hlen] at hl hr
   exact .inr ⟨hr.symm,hl.symm⟩
 refine⟨⟨h.fr,h.le.trans hle,by simp[hlen], ?_, ?_,h.imm,h.old⟩,hle⟩
 ·intro r y l hr hl
  rcases key r y l hr hl with ⟨a1,a2⟩ | ⟨rfl,rfl⟩
  ·refine (h.blk r y l a1 a2).mono hle fun b m e hlive=>?_
   subst e
   obtain⟨O',h1,_,h3,_⟩:=h.blk r y _ a1 a2 hlive
   exact⟨rfl,h3⟩
  ·rfl
 ·intro r r' y y' b m m' hr hr' hy hy' hl hl'
  rcases key r y _ hr hl with ⟨a1,a2⟩ | ⟨_,a2⟩
  ·rcases key r' y' _ hr' hl' with ⟨b1,b2⟩ | ⟨_,b2⟩
   ·exact h.inj r r' y y' b m m' a1 b1 hy hy' a2 b2
   ·cases b2
  ·cases a2
theorem SR.dead (h:SR F c H) (r:Nat):SR F c (hset H r .dead):=by
 refine⟨h.fr,h.le,by rw[dw];exact h.len,fun i y l hi hl=>?_,fun i i' y y' b m m' hi hi' hy hy' hl hl'=>?_,h.imm,h.old⟩
 ·rw[ju] at hi
  split at hi
  ·cases hi
   cases l with
   | none=>trivial
   | some l=>exact fun hl=>hl.elim
  ·exact h.blk i y l hi hl
 ·rw[ju] at hi hi'
  split at hi
  ·cases hi;exact hy.elim
  ·split at hi'
   ·cases hi';exact hy'.elim
   ·exact h.inj i i' y y' b m m' hi hi' hy hy' hl hl'
theorem SR.setW (h:SR F c H) {r b cap:Nat} {x:Blk} (hr:H[r]? = some x) (hx:Live x) (hl:c.locs[r]? = some (some (b,cap))) (x':Blk) (O':Obj) (hC:Cont c O' cap x') (w':World)
  (hw1:w'.os=c.w.os) (hw2:w'.tape=c.w.tape) (hw3:w'.output=c.w.output) (hw4:w'.heap.size=c.w.heap.size) (hw5:∀ k,k≠b→w'.heap[k]? = c.w.heap[k]?) (hw6:w'.heap[b]? = some O') :
  SR F { c with w:=w' } (hset H r x')∧Le c { c with w:=w' }:=by
 obtain⟨O,h1,h2,h3,h4⟩:=h.blk r x _ hr hl hx
 have hle:Le c { c with w:=w' }:=⟨fun _ _ e=>e,fun _ h=>h,fun k hk=>hw5 k fun e=>h3 (e ▸ hk)⟩
 have hrl:r<H.length:=(List.getElem?_eq_some_iff.1 hr).1
 refine⟨⟨?_,h.le.trans hle,by rw[dw];exact h.len, ?_, ?_,(fun k hk=>by have:=h.imm k hk;show k<w'.heap.size;omega),h.old⟩,hle⟩
 ·refine⟨hw1.trans h.fr.os,hw2.trans h.fr.tape,hw3.trans h.fr.output,by have:=h.fr.size;show _≤w'.heap.size;omega,fun k hk hk'=>?_⟩
  show w'.heap[k]? = _
  rw[hw5 k ?_]
  ·exact h.fr.block k hk hk'
  ·rintro rfl
   rcases h4 with h4|h4
   ·omega
   ·exact hk' h4
 ·intro i y l hi hli
  rw[ju] at hi
  split at hi
  ·rename_i hc
   cases hi
   obtain⟨rfl,_⟩:=hc
   rw[hl] at hli
   cases hli
   intro _
   exact⟨O',hw6,hC.mono hle,h3,h4⟩
  ·rename_i hc
   refine (h.blk i y l hi hli).mono hle fun b' m e hlive=>?_
   subst e
   obtain⟨O2,g1,_,g3,_⟩:=h.blk i y _ hi hli hlive
   refine⟨hw5 _ ?_,g3⟩
   rintro rfl
   exact hc ⟨h.inj i r y x b' m cap hi hr hlive hx hli hl,hrl⟩
 ·intro i i' y y' b1 m m' hi hi' hy hy' hli hli'
  rw[ju] at hi hi'
  have key:∀ (i:Nat) (y:Blk),(if i=r∧r<H.length then some x' else H[i]?)=some y→Live y→∃ z,H[i]? = some z∧Live z:=by
   intro i y hi hy
   split at hi
   ·rename_i hc;exact⟨x,by rw[hc.1];exact hr,hx⟩
   ·exact⟨y,hi,hy⟩
  obtain⟨z,a1,a2⟩:=key i y hi hy
  obtain⟨z',b1',b2⟩:=key i' y' hi' hy'
  exact h.inj i i' z z' b1 m m' a1 b1' a2 b2 hli hli'
theorem SR.set (h:SR F c H) {r b cap:Nat} {x:Blk} (hr:H[r]? = some x) (hx:Live x) (hl:c.locs[r]? = some (some (b,cap))) (x':Blk) (C' C:Array Value) (el:TypeId) (h0:c.w.heap[b]? = some (.cells C el)) (hC:Cont c (.cells C' el) cap x') :
  SR F { c with w:=c.w.setRow b C' } (hset H r x')∧Le c { c with w:=c.w.setRow b C' } :=
 h.setW hr hx hl x' _ hC _ rfl rfl rfl (by simp) (fun k hk=>setRow_other _ _ _ _ hk) (setRow_heap _ _ _ _ _ _ h0)
def _root_.Go.World.pobj (w:World) (b:Nat) (O:Obj):World:={ w with heap:=w.heap.setIfInBounds b O }
theorem zfp {w:World} {b:Nat} {O O':Obj} (h:w.heap[b]? = some O):(w.pobj b O').heap[b]? = some O':=by
 have:=(Array.getElem?_eq_some_iff.1 h).1
 simp[World.pobj,this]
theorem SR.setO (h:SR F c H) {r b cap:Nat} {x:Blk} (hr:H[r]? = some x) (hx:Live x) (hl:c.locs[r]? = some (some (b,cap))) (x':Blk) (O O':Obj) (h0:c.w.heap[b]? = some O) (hC:Cont c O' cap x') :
  SR F { c with w:=c.w.pobj b O' } (hset H r x')∧Le c { c with w:=c.w.pobj b O' } :=
 h.setW hr hx hl x' _ hC _ rfl rfl rfl (by simp[World.pobj]) (fun k hk=>by simp[World.pobj,Array.getElem?_setIfInBounds,Ne.symm hk]) (zfp h0)
theorem SR.move (h:SR F c H) {r:Nat} {l:Option (Nat × Nat)} (hl:c.locs[r]? = some l) :
  SR F { c with locs:=c.locs++[l] } (hset H r .dead++[hget H r])∧Le c { c with locs:=c.locs++[l] }:=by
 obtain⟨hr,hb⟩:=h.get hl
 have hrl:=h.lt hl
 have hle:Le c { c with locs:=c.locs++[l] }:=⟨fun r x e=>by rw[List.getElem?_append_left (List.getElem?_eq_some_iff.1 e).1];exact e,fun _ h=>h,fun _ _=>rfl⟩
 have hlen:=h.len
 have key:∀ (i:Nat) (y:Blk) (l':Option (Nat × Nat)),(hset H r .dead++[hget H r])[i]? = some y→(c.locs++[l])[i]? = some l' →
   (i<H.length∧i=r∧y = .dead)∨(i≠r∧i<H.length∧H[i]? = some y∧c.locs[i]? = some l')∨(i=H.length∧y=hget H r∧l'=l):=by
  intro i y l' hi hl'
  by_cases hlt:i<H.length
  ·rw[List.getElem?_append_left (by rw[dw];exact hlt),ju] at hi
   rw[List.getElem?_append_left (by omega)] at hl'
   split at hi
   ·rename_i hc;cases hi;exact .inl ⟨hlt,hc.1,rfl⟩
   ·rename_i hc;exact .inr (.inl ⟨fun e=>hc ⟨e,hrl⟩,hlt,hi,hl'⟩)
  ·have:i=H.length:=by
    have:=(List.getElem?_eq_some_iff.1 hi).1
    simp[dw] at this;omega
   subst this
   rw[List.getElem?_append_right (by rw[dw];omega)] at hi
   rw[List.getElem?_append_right (by omega)] at hl'
   simp[hlen,dw] at hi hl'
   exact .inr (.inr ⟨rfl,hi.symm,hl'.symm⟩)
 have same:∀ y l',BlkOk F c y l'→BlkOk F { c with locs:=c.locs++[l] } y l':=by
  intro y l' hy
  refine hy.mono hle fun b m e hlive=>?_
  subst e
  obtain⟨O',h1,_,h3,_⟩:=hy hlive
  exact⟨rfl,h3⟩
 refine⟨⟨h.fr,h.le.trans hle,by simp[dw,hlen], ?_, ?_,h.imm,h.old⟩,hle⟩
 ·intro i y l' hi hl'
  rcases key i y l' hi hl' with ⟨_,_,rfl⟩ | ⟨_,_,a1,a2⟩ | ⟨_,rfl,rfl⟩
  ·cases l' with
   | none=>trivial
   | some l=>exact fun hl=>hl.elim
  ·exact same _ _ (h.blk i y l' a1 a2)
  ·exact same _ _ hb
 ·intro i i' y y' b m m' hi hi' hy hy' hl1 hl2
  rcases key i y _ hi hl1 with ⟨_,_,rfl⟩ | ⟨n1,c1,a1,a2⟩ | ⟨c1,rfl,e1⟩
  ·exact hy.elim
  ·rcases key i' y' _ hi' hl2 with ⟨_,_,rfl⟩ | ⟨n2,c2,b1,b2⟩ | ⟨c2,rfl,e2⟩
   ·exact hy'.elim
   ·exact h.inj i i' y y' b m m' a1 b1 hy hy' a2 b2
   ·exact absurd (h.inj i r y _ b m m' a1 hr hy hy' a2 (by rw[hl,← e2])) n1
  ·rcases key i' y' _ hi' hl2 with ⟨_,_,rfl⟩ | ⟨n2,c2,b1,b2⟩ | ⟨c2,rfl,e2⟩
   ·exact hy'.elim
   ·exact absurd (h.inj i' r y' _ b m' m b1 hr hy' hy b2 (by rw[hl,← e1])) n2
   ·omega
end
end Go.VM
end
section
namespace Go.VM
theorem Le.ofBare (c:Ctx):Le c.bare c:=⟨fun r x e=>by simp at e,fun _ h=>h,fun _ _=>rfl⟩
theorem VRs.ofBare {c:Ctx} {vs:List V} {g:Nat→Option Value} (h:VRs { c with locs:=[] } vs g):VRs c vs g :=
 fa (Le.ofBare c) vs g g (fun _ _ h=>h) h
theorem ez {w:World} {b o:Nat} {C:Array Value} {el:TypeId} {fr:Nat × Nat} (h:w.heap[b]? = some (.cells C el fr)):w.cell? ⟨b,o,none⟩=C[o]?:=by
 simp[World.cell?,h]
theorem eh {H:Heap} {r:Nat} {x:Blk} (h:hget H r=x) (hx:Live x):H[r]? = some x:=by
 by_cases hr:r<H.length
 ·rw[zni H r hr,h]
 ·rw[zsx H r hr] at h;subst h;exact hx.elim
section
variable {P:Program} {F:Fr} {c:Ctx} {H:Heap}
theorem zpd (hs:SR F c H) {T:Nat} {x z:V} {u:Value} (hx:VR c x u) (h:(load (ti P T) H x).has z):∃ r,(Instr.loadAt T u).run P c.w = .ok r c.w∧VR c z r:=by
 unfold load at h
 split at h
 ·rename_i r off
  simp only[VR] at hx
  split at hx
  ·rename_i b m hr
   subst hx
   split at h
   ·rename_i cs hb
    obtain⟨h1,h2⟩:=hs.get hr
    rw[hb] at h2
    obtain⟨_,g1,⟨C,el,rfl,g2,g3,g4⟩,_⟩:=h2 trivial
    have:=zae (P:=P) (w:=c.w) (b:=b) (o:=0) g4 g3 (fun j x _ hj=>by rw[Nat.zero_add,ez g1];exact hj) h
    obtain⟨u,hu,hv⟩:=this
    exact⟨u,by simpa [Instr.loadAt,Instr.sureAddr] using hu,hv⟩
   ·exact h.elim
  ·exact hx.elim
 ·rename_i r e i off
  simp only[VR] at hx
  split at hx
  ·rename_i b m hr
   subst hx
   split at h
   ·rename_i e' n f hb
    obtain⟨h1,h2⟩:=hs.get hr
    rw[hb] at h2
    obtain⟨_,g1,⟨C,el,rfl,g2,g3,g4⟩,_⟩:=h2 trivial
    cases hbb:Nat.beq e e' with
    | false=>rw[hbb] at h;exact h.elim
    | true =>
      rw[hbb] at h
      obtain rfl:=be hbb
      dsimp only [cond] at h
      split at h
      ·rename_i v hv
       obtain⟨hi,rfl⟩:=h
       obtain⟨k1,k2,k3⟩:=g4 i hi
       have:=zae (P:=P) (T:=T) (off:=off) (z:=z) (w:=c.w) (b:=b) (o:=i*e) k3 (by rw[k1];exact k2) (fun j x _ hj=>by rw[ez g1];exact hj) (by rw[hv];rfl)
       obtain⟨u,hu,hv⟩:=this
       exact⟨u,by simpa [Instr.loadAt,Instr.sureAddr] using hu,hv⟩
      ·exact h.elim
   ·exact h.elim
  ·exact hx.elim
 ·rename_i cs off
  simp only[VR] at hx
  obtain⟨b,o,rfl,h1,h2,h3⟩:=hx
  have:=zae (P:=P) (w:=c.w) (b:=b) (o:=o) (VRs.ofBare h3) h2 (fun j x _ hj=>hj) h
  obtain⟨u,hu,hv⟩:=this
  exact⟨u,by simpa [Instr.loadAt,Instr.sureAddr] using hu,hv⟩
 ·exact h.elim
theorem one_ok {x:V} {u:Value} (hx:VR c x u) (ho:u.oneCell'=true) (hc:u.cells = #[u]):u.cells.size=[x].length∧One [x].length (fun j=>u.cells[j]?)∧VRs c [x] fun j=>u.cells[j]?:=by
 rw[hc]
 refine⟨rfl,fun j y hj hy=>?_, ?_⟩
 ·have:j=0:=by simp at hj;exact hj
  subst this
  simp at hy;subst hy;exact ho
 ·simp only[VRs]
  exact⟨⟨u,by simp,hx⟩,trivial⟩
theorem zlc {x:V} {u:Value} (hx:VR c x u) (h:match x with | .bad | .agg _ | .tup _=>False|_=>True):u.oneCell'=true∧u.cells = #[u]:=by
 cases x<;>first
  | exact h.elim
  | (simp only[VR] at hx;first
    | (subst hx;exact⟨rfl,rfl⟩)
    | (obtain⟨_,_,rfl,_⟩:=hx;exact⟨rfl,rfl⟩)
    | (split at hx<;>first|exact hx.elim|(subst hx;exact⟨rfl,rfl⟩)))
theorem zbc {x:V} {u:Value} {cs:List V} (hx:VR c x u) (h:cellsOf x=some cs):u.cells.size=cs.length∧One cs.length (fun j=>u.cells[j]?)∧VRs c cs fun j=>u.cells[j]?:=by
 cases x<;>simp only[cellsOf,Option.some.injEq,reduceCtorEq] at h<;>first
  | (subst h
     obtain⟨h1,h2⟩:=zlc hx trivial
     exact one_ok hx h1 h2)
  | (subst h
     simp only[VR] at hx
     obtain⟨us,rfl,h1,h2,h3⟩:=hx
     exact⟨h1,h2,h3⟩)
theorem zmq {T:Nat} {x:V} {u:Value} {cs:List V} (hx:VR c x u) (h:boxV (ti P T) x=some cs) :
  u.cells.size=cs.length∧One cs.length (fun j=>u.cells[j]?)∧(VRs c cs fun j=>u.cells[j]?)∧(∃ i,P.info? T=some i)∧cs.length=al P T:=by
 unfold boxV at h
 dsimp only [ti] at h
 split at h
 ·rename_i hT
  split at h
  ·rename_i cs'
   cases hb:Nat.beq (len cs') (al P T) with
   | false=>rw[hb] at h;cases h
   | true =>
     rw[hb] at h
     cases h
     obtain⟨a1,a2,a3⟩:=zbc hx (cs:=cs) rfl
     exact⟨a1,a2,a3,ma hT,by rw[← jm];exact be hb⟩
  ·cases h
 ·rename_i hT
  cases hb:Nat.beq (al P T) 1 with
  | false=>rw[hb] at h;cases h
  | true =>
    rw[hb] at h
    dsimp only [cond] at h
    have hc:cellsOf x=some cs:=by
     cases x<;>simp_all [cellsOf]
    have hl:cs.length=1:=by
     cases x<;>simp_all<;>(subst h;rfl)
    obtain⟨a1,a2,a3⟩:=zbc hx hc
    exact⟨a1,a2,a3,ma hT,by rw[be hb];exact hl⟩
 ·cases h
end
end Go.VM
end
section
namespace Go.VM
theorem ml (l vs:List Value) (o i:Nat) (h:o+vs.length≤l.length) :
  (l.take o++vs++l.drop (o+vs.length))[i]? = if o≤i∧i-o<vs.length then vs[i-o]? else l[i]?:=by
 have ho:(l.take o).length=o:=by simp;omega
 by_cases h1:i<o
 ·rw[if_neg (by omega),List.append_assoc,List.getElem?_append_left (by omega),List.getElem?_take,if_pos h1]
 ·by_cases h2:i-o<vs.length
  ·rw[if_pos ⟨by omega,h2⟩,List.append_assoc,List.getElem?_append_right (by omega),ho,List.getElem?_append_left h2]
  ·rw[if_neg (by omega),List.getElem?_append_right (by simp;omega),List.getElem?_drop]
   congr 1
   simp
   omega
section
variable {P:Program} {F:Fr} {c:Ctx} {H:Heap}
theorem zvc {n:Nat} {us:List Value} (h:One n fun j=>us[j]?) (hl:us.length≤n):∀ v∈us,v.oneCell'=true:=by
 intro v hv
 obtain⟨j,hj,rfl⟩:=List.getElem_of_mem hv
 exact h j _ (by omega) (by simp[hj])
theorem zcd (hs:SR F c H) {T:Nat} {u:Value} {cs:List V} (h1:u.cells.size=cs.length) (h2:One cs.length fun j=>u.cells[j]?) (h3:VRs c cs fun j=>u.cells[j]?) :
  ∃ c',(do pure (Value.pointer (some (← newVar T u))):Sem Value).run P c.w = .ok (.pointer (some ⟨c.w.heap.size,0,none⟩)) c'.w∧SR F c' (H++[.box cs])∧Le c c'∧VR c' (.ptr H.length 0) (.pointer (some ⟨c.w.heap.size,0,none⟩)):=by
 obtain⟨a,b⟩:=hs.new (.box cs) u.cells T 1 ⟨_,_,rfl,h1,h2,h3⟩
 refine⟨_, ?_,a,b, ?_⟩
 ·simp[newVar,newRow]
 ·simp only[VR]
  rw[List.getElem?_append_right (by rw[hs.len];exact Nat.le_refl _)]
  simp[hs.len]
theorem zan (l:List Value):VRs c (ofVs l) fun j=>l[j]?:=by
 rw[ta]
 refine kz fun i v hi=>?_
 simp only[List.getElem?_map,Option.map_eq_some_iff] at hi
 obtain⟨x,hx,rfl⟩:=hi
 exact⟨x,hx,zhx c x⟩
theorem my {T:Nat} {z:List V} (h:cq P T=some z):∃ i v,P.info? T=some i∧i.zero=some v∧z=ofVs v.cells.toList∧(∀ x∈v.cells.toList,x.oneCell'=true)∧v.cells.size=i.size:=by
 unfold cq at h
 split at h
 ·rename_i i hi
  split at h
  ·rename_i v hv
   split at h
   ·rename_i hc
    cases h
    simp only[Bool.and_eq_true,beq_iff_eq,List.all_eq_true] at hc
    exact⟨i,v,hi,hv,rfl,hc.1,hc.2⟩
   ·cases h
  ·cases h
 ·cases h
theorem zaj {T:Nat} {z:List V} (h:cq P T=some z):∃ u,(∀ w,(zeroValue T).run P w = .ok u w)∧u.cells.size=z.length∧One z.length (fun j=>u.cells[j]?)∧(VRs c z fun j=>u.cells[j]?)∧z.length=al P T:=by
 obtain⟨i,v,h1,h2,rfl,h3,h4⟩:=my h
 have hl:(ofVs v.cells.toList).length=v.cells.size:=by rw[ta];simp
 refine⟨v,fun w=>by simp[zeroValue,typeInfo,h1,h2],hl.symm,fun j x hj hx=>h3 x ?_,by simpa using zan (c:=c) v.cells.toList,by rw[hl,h4];simp[al,h1]⟩
 have hx':v.cells[j]? = some x:=hx
 rw[← Array.getElem?_toList] at hx'
 exact List.mem_of_getElem? hx'
theorem zab (hs:SR F c H) {T:Nat} {z:List V} (h:cq P T=some z) :
  ∃ c',(Instr.alloc T true (.tuple #[])).run P c.w = .ok (.pointer (some ⟨c.w.heap.size,0,none⟩)) c'.w∧SR F c' (H++[.box z])∧Le c c'∧VR c' (.ptr H.length 0) (.pointer (some ⟨c.w.heap.size,0,none⟩)):=by
 obtain⟨u,hu,h1,h2,h3,_⟩:=zaj (c:=c) h
 obtain⟨c',g1,g2,g3,g4⟩:=zcd (P:=P) (T:=T) hs h1 h2 h3
 refine⟨c', ?_,g2,g3,g4⟩
 rw[← g1]
 simp[Instr.alloc,hu]
theorem zpo (hs:SR F c H) {T:Nat} {x:V} {u:Value} {cs:List V} (hx:VR c x u) (h:boxV (ti P T) x=some cs) :
  ∃ c',(Instr.box T u).run P c.w = .ok (.pointer (some ⟨c.w.heap.size,0,none⟩)) c'.w∧SR F c' (H++[.box cs])∧Le c c'∧VR c' (.ptr H.length 0) (.pointer (some ⟨c.w.heap.size,0,none⟩)):=by
 obtain⟨h1,h2,h3,_⟩:=zmq hx h
 exact zcd (P:=P) (T:=T) hs h1 h2 h3
theorem zuf (hs:SR F c H) {T:Nat} {av xv:V} {a x:Value} (ha:VR c av a) (hx:VR c xv x) {K:Heap→Prop} (h:xm (ti P T) H av xv K) :
  ∃ c' H',(Instr.storeAt T a x).run P c.w = .ok () c'.w∧SR F c' H'∧Le c c'∧K H':=by
 unfold xm at h
 split at h
 ·rename_i vs hv
  obtain⟨h1,h2,h3,⟨i,hi⟩,h5⟩:=zmq hx hv
  have hsz:x.cells.size=al P T:=by omega
  have hone:∀ v∈x.cells.toList,v.oneCell'=true:=zvc (n:=vs.length) (by simpa using h2) (by simp[h1])
  have hstore:∀ b o C el,c.w.heap[b]? = some (.cells C el)→o+vs.length≤C.size →
    (Instr.storeAt T (.pointer (some ⟨b,o,none⟩)) x).run P c.w = .ok () (c.w.setRow b (C.toList.take o++x.cells.toList++C.toList.drop (o+x.cells.toList.length)).toArray):=by
   intro b o C el hb hle
   have:=run_storeCells_at P b o el x.cells.toList 0 C c.w hb (by simp[h1];omega) hone
   simp only[Instr.storeAt,Instr.sureAddr,storeVar,Sem.run_bind,Sem.run_pure,Result.andThen_ok,cf hi,hsz,ne_eq,not_true_eq_false,if_false,this,Nat.add_zero]
  split at h
  ·rename_i r off
   simp only[VR] at ha
   split at ha
   ·rename_i b m hr
    subst ha
    split at h
    ·rename_i cs hb
     cases hbb:Nat.ble (off+len vs) (len cs) with
     | false=>rw[hbb] at h;exact h.elim
     | true =>
       rw[hbb] at h
       dsimp only [cond] at h
       have hle:off+vs.length≤cs.length:=by rw[← jm,← jm];exact Nat.le_of_ble_eq_true hbb
       have hlive:=eh hb trivial
       obtain⟨_,g1,⟨C,el,rfl,g2,g3,g4⟩,_⟩:=hs.blk r _ _ hlive hr trivial
       have HS:=hs.set hlive trivial hr (.box (spl cs off vs)) (C.toList.take off++x.cells.toList++C.toList.drop (off+x.cells.toList.length)).toArray C el g1 (cap:=m) (by
        refine⟨_,_,rfl, ?_⟩
        have hg:∀ j,(C.toList.take off++x.cells.toList++C.toList.drop (off+x.cells.toList.length)).toArray[j]? = if off≤j∧j-off<vs.length then x.cells[j-off]? else C[j]?:=fun j=>by
         rw[List.getElem?_toArray,ml _ _ _ _ (by simp[h1];omega)]
         simp[h1]
        refine⟨by simp[fu,h1,g2];omega, ?_, ?_⟩
        ·intro j y hj hy
         rw[fu] at hj
         replace hy:=(hg _).symm.trans hy
         split at hy
         ·rename_i hc;exact h2 (j-off) y hc.2 hy
         ·exact g3 j y hj hy
        ·refine kz fun j v hj=>?_
         have hjl:j<cs.length:=by
          have:=(List.getElem?_eq_some_iff.1 hj).1
          rwa [fu] at this
         rw[zfi _ _ _ _ hjl] at hj
         simp only[hg]
         split at hj
         ·rename_i hc;rw[if_pos hc];exact de h3 hj
         ·rename_i hc;rw[if_neg hc];exact de g4 hj)
       exact⟨{ c with w:=_ },_,hstore b off C el g1 (by omega),HS.1,HS.2,h⟩
    ·exact h.elim
   ·exact ha.elim
  ·rename_i r e i' off
   simp only[VR] at ha
   split at ha
   ·rename_i b m hr
    subst ha
    split at h
    ·rename_i e' n f hb
     cases hbb:band (Nat.beq e e') (Nat.ble (off+len vs) e) with
     | false=>rw[hbb] at h;exact h.elim
     | true =>
       rw[hbb] at h
       dsimp only [cond] at h
       obtain⟨hb1,hb2⟩:=ax hbb
       obtain rfl:=be hb1
       have hle:off+vs.length≤e:=by rw[← jm];exact Nat.le_of_ble_eq_true hb2
       obtain⟨hi',hK⟩:=h
       have hi':_<_:=hi'
       have hlive:=eh hb trivial
       obtain⟨_,g1,⟨C,el,rfl,g2,g3,g4⟩,_⟩:=hs.blk r _ _ hlive hr trivial
       have hCs:i'*e+e≤C.size:=by
        rw[g2]
        have:(i'+1)*e≤m*e:=Nat.mul_le_mul_right _ (by omega)
        rw[Nat.add_mul,Nat.one_mul] at this
        exact this
       have hg:∀ j,(C.toList.take (i'*e+off)++x.cells.toList++C.toList.drop (i'*e+off+x.cells.toList.length)).toArray[j]? = if i'*e+off≤j∧j-(i'*e+off)<vs.length then x.cells[j-(i'*e+off)]? else C[j]?:=fun j=>by
        rw[List.getElem?_toArray,ml _ _ _ _ (by simp[h1];omega)]
        simp[h1]
       have HS:=hs.set hlive trivial hr (.arr e n fun j=>bif Nat.beq j i' then spl (f j) off vs else f j) (C.toList.take (i'*e+off)++x.cells.toList++C.toList.drop (i'*e+off+x.cells.toList.length)).toArray C el g1 (cap:=m) (by
        refine⟨_,_,rfl, ?_⟩
        refine⟨by simp[h1];omega,g3,fun q hq=>?_⟩
        obtain⟨k1,k2,k3⟩:=g4 q hq
        by_cases hqi:q=i'
        ·subst hqi
         have hbq:Nat.beq q q=true:=Nat.beq_refl q
         simp only[hbq,cond]
         refine⟨by rw[fu];exact k1, ?_, ?_⟩
         ·intro j y hj hy
          replace hy:=(hg _).symm.trans hy
          split at hy
          ·rename_i hc;exact h2 _ y hc.2 hy
          ·exact k2 j y hj hy
         ·refine kz fun j v hj=>?_
          have hjl:j<(f q).length:=by
           have:=(List.getElem?_eq_some_iff.1 hj).1
           rwa [fu] at this
          rw[zfi _ _ _ _ hjl] at hj
          simp only[hg]
          split at hj
          ·rename_i hc
           rw[if_pos (by omega)]
           have:q*e+j-(q*e+off)=j-off:=by omega
           rw[this]
           exact de h3 hj
          ·rename_i hc
           rw[if_neg (by omega)]
           exact de k3 hj
        ·have hbq:Nat.beq q i'=false:=by
          cases hh:Nat.beq q i' with
          | false=>rfl
          | true=>exact absurd (be hh) hqi
         simp only[hbq,cond]
         have hout:∀ j,j<e→¬ (i'*e+off≤q*e+j∧q*e+j-(i'*e+off)<vs.length):=by
          intro j hj hcc
          rcases Nat.lt_or_gt_of_ne hqi with hlt|hgt
          ·have:(q+1)*e≤i'*e:=Nat.mul_le_mul_right _ hlt
           rw[Nat.add_mul,Nat.one_mul] at this
           omega
          ·have:(i'+1)*e≤q*e:=Nat.mul_le_mul_right _ hgt
           rw[Nat.add_mul,Nat.one_mul] at this
           omega
         refine⟨k1, ?_, ?_⟩
         ·intro j y hj hy
          replace hy:=(hg _).symm.trans hy
          rw[if_neg (hout j hj)] at hy
          exact k2 j y hj hy
         ·refine br k3 fun j hj=>?_
          exact (hg _).trans (if_neg (hout j (by omega))))
       exact⟨{ c with w:=_ },_,hstore b (i'*e+off) C el g1 (by omega),HS.1,HS.2,hK⟩
    ·exact h.elim
   ·exact ha.elim
  ·exact h.elim
 ·exact h.elim
end
end Go.VM
end
