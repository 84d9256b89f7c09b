import Derived.Test.YtmbnphmhaoomoaaGreatDoorAV11
set_option linter.unusedVariables false
set_option linter.unusedSimpArgs false
set_option linter.unnecessarySimpa false
set_option maxHeartbeats 4000000
namespace Go.VM
def xeS (P:Program) (k:Nat) (o:Oper) (p:Path) (E:Env) (H:Heap) (K:Env→Heap→Prop):Prop :=
 match fl o with
 | true=>xo P k o p E H K
 | false=>xe P k o p E H K
def xy (P:Program) (ops:List Oper) (late Pr:List Nat):PlanZ→Nat→(Env→Heap→Prop)→Env→Heap→Prop
 | .done,_,K,E,H=>K E H
 | .first i s,k,K,E,H=>(match onth ops i with
   | some o=>(match gpd ops E o.guard with
     | some p=>xo P k o p E H (xy P ops late Pr s (k+1) K)
     | none=>False)
   | none=>False)
 | .firstZ i s,k,K,E,H=>(match onth ops i with
   | some o=>(match gpd ops E o.guard with
     | some p=>zval P Pr o p E=true∧xo P k o p E H (xy P ops late Pr s (k+1) K)
     | none=>False)
   | none=>False)
 | .one i s,k,K,E,H=>(match onth ops i with
   | some o=>(match gpd ops E o.guard with
     | some p=>(match mem i late with
       | true=>xo P k o p E (oe Pr H) (fun _ _=>True)∧xo P k o p E H (fun E' H'=>jh Pr H'∧xy P ops late Pr s (k+1) K E' H')
       | false=>xeS P k o p E H (fun E' H'=>jh Pr H'∧xy P ops late Pr s (k+1) K E' H'))
     | none=>False)
   | none=>False)
 | .alt i s t,k,K,E,H=>(match onth ops i with
   | some o=>(match gpd ops E o.guard with
     | some p=>(match mem i late with
       | true=>xo P k o p E (oe Pr H) (fun _ _=>True)∧xo P k o p E H (fun E' H'=>jh Pr H'∧xy P ops late Pr s (k+1) K E' H')
       | false=>xeS P k o p E H (fun E' H'=>jh Pr H'∧xy P ops late Pr s (k+1) K E' H'))
     | none=>False)
   | none=>False)∧xy P ops late Pr t k K E H
section
variable {P:Program} {ops:List Oper} {k i:Nat} {o:Oper} {os:List Oper} {K:Env→Heap→Prop} {E E':Env} {H H':Heap} {p p':Path} {late Pr:List Nat} {s t:PlanZ}
@[congr] theorem xy_congr (h1:E=E') (h2:H=H'):xy P ops late Pr s k K E H=xy P ops late Pr s k K E' H':=by rw[h1,h2]
def xsS (b:Bool) (P:Program) (k:Nat) (o:Oper) (p:Path) (E:Env) (H:Heap) (K:Env→Heap→Prop):Prop :=
 match b with
 | true=>xo P k o p E H K
 | false=>xe P k o p E H K
@[congr] theorem xsS_congr {b b':Bool} {p p':Path} (h:b=b') (h':p=p'):xsS b P k o p E H K=xsS b' P k o p' E H K:=by rw[h,h']
theorem zvl:xsS true P k o p E H K=xo P k o p E H K:=nr rfl
theorem zmr:xsS false P k o p E H K=xe P k o p E H K:=nr rfl
def xpy (P:Program) (ops:List Oper) (Pr:List Nat) (late:Bool) (i k:Nat) (o:Option Oper) (E:Env) (H:Heap) (K:Env→Heap→Prop):Prop :=
 match o with
 | some o=>xg (gpd ops E o.guard) fun p=>(match late with
   | true=>xo P k o p E (oe Pr H) kT∧xo P k o p E H (kA Pr K)
   | false=>xsS (fl o) P k o p E H (kA Pr K))
 | none=>False
@[congr] theorem xpy_congr {l l':Bool} {q q':Option Oper} (h:l=l') (h':q=q'):xpy P ops Pr l i k q E H K=xpy P ops Pr l' i k q' E H K:=by rw[h,h']
theorem zvr:xpy P ops Pr true i k (some o) E H K=xg (gpd ops E o.guard) fun p=>xo P k o p E (oe Pr H) kT∧xo P k o p E H (kA Pr K):=nr rfl
theorem zny:xpy P ops Pr false i k (some o) E H K=xg (gpd ops E o.guard) fun p=>xsS (fl o) P k o p E H (kA Pr K):=nr rfl
theorem zyq:xy P ops late Pr .done k K E H=K E H:=nr rfl
theorem zvp:xy P ops late Pr (.first i s) k K E H=xp P ops true i k (onth ops i) E H (xy P ops late Pr s (k+1) K):=nr (by
 unfold xp xg;conv=>lhs;unfold xy
 all_goals (cases onth ops i<;>rfl))
theorem zrb:xy P ops late Pr (.firstZ i s) k K E H=xpf P ops Pr i k (onth ops i) E H (xy P ops late Pr s (k+1) K):=nr (by
 unfold xpf xg;conv=>lhs;unfold xy
 all_goals (cases onth ops i<;>rfl))
theorem xy_one:xy P ops late Pr (.one i s) k K E H=xpy P ops Pr (mem i late) i k (onth ops i) E H (xy P ops late Pr s (k+1) K):=nr (by
 unfold xpy xg xsS;conv=>lhs;unfold xy xeS
 all_goals (cases onth ops i<;>rfl))
theorem xy_alt:xy P ops late Pr (.alt i s t) k K E H=(xpy P ops Pr (mem i late) i k (onth ops i) E H (xy P ops late Pr s (k+1) K)∧xy P ops late Pr t k K E H):=nr (by
 unfold xpy xg xsS;conv=>lhs;unfold xy xeS
 all_goals (cases onth ops i<;>rfl))
variable {d:Option Nat} {ty:TypeId} {pos:String} {aft:Array Edge} {g:Option (Nat × Bool)}
theorem z3u {T x}:fl ⟨d,.load T x,ty,pos,aft,g⟩=true:=nq rfl
theorem zvk {T}:fl ⟨d,.alloc T,ty,pos,aft,g⟩=false:=nq rfl
theorem so_box {T x}:fl ⟨d,.box T x,ty,pos,aft,g⟩=false:=nq rfl
theorem zws {T n x}:fl ⟨d,.buildSlice T n x,ty,pos,aft,g⟩=false:=nq rfl
theorem zld {T m x b}:fl ⟨d,.lookup T m x b,ty,pos,aft,g⟩=true:=nq rfl
theorem zjl {S D x}:fl ⟨d,.convert S D x,ty,pos,aft,g⟩=true:=nq rfl
def soC (c:Callee):Bool:=match c with | .builtin .len=>true|_=>false
theorem zza {c:Call}:fl ⟨d,.call c,ty,pos,aft,g⟩=soC c.callee:=nq rfl
theorem z2g:soC (.builtin .len)=true:=nq rfl
theorem zit:soC (.builtin .append)=false:=nq rfl
theorem zpp {f}:soC (.value f)=false:=nq rfl
end
attribute [go_sem] zvl zmr zvr zny zyq zvp zrb xy_one xy_alt z3u zvk so_box zws zld zjl zza z2g zit zpp
end Go.VM
