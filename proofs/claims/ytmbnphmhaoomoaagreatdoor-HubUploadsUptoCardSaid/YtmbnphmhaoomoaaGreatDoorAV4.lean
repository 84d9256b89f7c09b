import Derived.Test.YtmbnphmhaoomoaaGreatDoorAV3
set_option linter.unusedVariables false
set_option linter.unusedSimpArgs false
set_option maxHeartbeats 4000000
section
namespace Go.VM
def wkT (t t':Tg):Prop:=t' = .loose∨t'=t
def wkN (a b:Option Bool):Prop:=b=none∨b=a
mutual
def wk:V→V→Prop
 | .bad,x=>x = .bad
 | .nil,x=>(match x with | .bad=>True | .nil=>True | .lst nl t e n f=>n=0∧wkN (some true) nl∧t = .loose|_=>False)
 | .bool b,x=>(match x with | .bad=>True | .bool b'=>b=b' | _=>False)
 | .int k b,x=>(match x with | .bad=>True | .int k' b'=>k=k'∧b=b' | _=>False)
 | .str b,x=>(match x with | .bad=>True | .str b'=>b=b' | _=>False)
 | .lst nl t e n f,x=>(match x with | .bad=>True | .lst nl' t' e' n' f'=>n=n'∧e=e'∧wkN nl nl'∧wkT t t'∧∀ i,i<n→wks (f i) (f' i)|_=>False)
 | .own nl r e off n t,x=>(match x with | .bad=>True | .own nl' r' e' off' n' t'=>r=r'∧e=e'∧off=off'∧n=n'∧wkN nl nl'∧wkT t t' | _=>False)
 | .agg cs,x=>(match x with | .bad=>True | .agg cs'=>wks cs cs' | _=>False)
 | .tup cs,x=>(match x with | .bad=>True | .tup cs'=>wks cs cs' | _=>False)
 | .ptr r off,x=>(match x with | .bad=>True | .ptr r' off'=>r=r'∧off=off' | _=>False)
 | .mp r,x=>(match x with | .bad=>True | .mp r'=>r=r' | _=>False)
 | .eptr r e i off,x=>(match x with | .bad=>True | .eptr r' e' i' off'=>r=r'∧e=e'∧i=i'∧off=off' | _=>False)
 | .iptr cs off,x=>(match x with | .bad=>True | .iptr cs' off'=>off=off'∧wks cs cs' | _=>False)
 | .fn f a b,x=>(match x with | .bad=>True | .fn f' a' b'=>f=f'∧wks a a'∧wks b b' | _=>False)
def wks:List V→List V→Prop
 | [],l=>l=[]
 | v::vs,l=>(match l with|v'::vs'=>wk v v'∧wks vs vs' | []=>False)
end
theorem di:∀ {vs vs':List V},wks vs vs'→vs'.length=vs.length
 | [],l,h=>by simp only[wks] at h;subst h;rfl
 | v::vs,[],h=>by simp only[wks] at h
 | v::vs,v'::vs',h=>by simp only[wks] at h;simp[di h.2]
mutual
theorem bf:∀ v:V,wk v v
 | .bad | .nil | .bool _ | .int _ _ | .str _ | .ptr _ _ | .mp _ | .eptr _ _ _ _=>by simp[wk]
 | .own _ _ _ _ _ _=>by simp[wk,wkN,wkT]
 | .lst nl t e n f=>by
   simp only[wk]
   exact⟨trivial,trivial,.inr rfl,.inr rfl,fun i _=>ak (f i)⟩
 | .agg cs=>by simp only[wk];exact ak cs
 | .tup cs=>by simp only[wk];exact ak cs
 | .iptr cs off=>by simp only[wk];exact⟨trivial,ak cs⟩
 | .fn f a b=>by simp only[wk];exact⟨trivial,ak a,ak b⟩
theorem ak:∀ vs:List V,wks vs vs
 | []=>by simp[wks]
 | v::vs=>by simp only[wks];exact⟨bf v,ak vs⟩
end
theorem wg {a b c:Option Bool} (h:wkN a b) (k:wkN b c):wkN a c:=by
 rcases k with rfl|rfl
 ·exact .inl rfl
 ·exact h
theorem zci {a b c:Tg} (h:wkT a b) (k:wkT b c):wkT a c:=by
 rcases k with rfl|rfl
 ·exact .inl rfl
 ·exact h
mutual
theorem zgy:∀ {a b c:V},wk a b→wk b c→wk a c
 | .bad,b,c,h,k=>by simp only[wk] at h;subst h;exact k
 | .nil,b,c,h,k=>by
   cases b<;>simp only[wk] at h<;>first|exact h.elim|skip
   ·simp only[wk] at k;subst k;simp only[wk]
   ·exact k
   ·obtain⟨rfl,h2,rfl⟩:=h
    cases c<;>simp only[wk] at k ⊢<;>first|exact k.elim|skip
    obtain⟨rfl,rfl,k1,k2,_⟩:=k
    exact⟨rfl,wg h2 k1,by rcases k2 with rfl|rfl<;>rfl⟩
 | .bool _,b,c,h,k=>by cases b<;>simp only[wk] at h<;>first|exact h.elim|(subst h;exact k)|(simp only[wk] at k;subst k;simp only[wk])
 | .int _ _,b,c,h,k=>by cases b<;>simp only[wk] at h<;>first|exact h.elim|(obtain⟨rfl,rfl⟩:=h;exact k)|(simp only[wk] at k;subst k;simp only[wk])
 | .str _,b,c,h,k=>by cases b<;>simp only[wk] at h<;>first|exact h.elim|(subst h;exact k)|(simp only[wk] at k;subst k;simp only[wk])
 | .ptr _ _,b,c,h,k=>by cases b<;>simp only[wk] at h<;>first|exact h.elim|(obtain⟨rfl,rfl⟩:=h;exact k)|(simp only[wk] at k;subst k;simp only[wk])
 | .mp _,b,c,h,k=>by cases b<;>simp only[wk] at h<;>first|exact h.elim|(subst h;exact k)|(simp only[wk] at k;subst k;simp only[wk])
 | .eptr _ _ _ _,b,c,h,k=>by cases b<;>simp only[wk] at h<;>first|exact h.elim|(obtain⟨rfl,rfl,rfl,rfl⟩:=h;exact k)|(simp only[wk] at k;subst k;simp only[wk])
 | .own _ _ _ _ _ _,b,c,h,k=>by
   cases b<;>simp only[wk] at h<;>first|exact h.elim|(simp only[wk] at k;subst k;simp only[wk];done)|skip
   obtain⟨rfl,rfl,rfl,rfl,h1,h2⟩:=h
   cases c<;>simp only[wk] at k ⊢<;>first|exact k.elim|skip
   obtain⟨rfl,rfl,rfl,rfl,k1,k2⟩:=k
   exact⟨rfl,rfl,rfl,rfl,wg h1 k1,zci h2 k2⟩
 | .lst _ _ _ _ f,b,c,h,k=>by
   cases b<;>simp only[wk] at h<;>first|exact h.elim|(simp only[wk] at k;subst k;simp only[wk];done)|skip
   obtain⟨rfl,rfl,h1,h2,h3⟩:=h
   cases c<;>simp only[wk] at k ⊢<;>first|exact k.elim|skip
   obtain⟨rfl,rfl,k1,k2,k3⟩:=k
   exact⟨rfl,rfl,wg h1 k1,zci h2 k2,fun i hi=>gy (vs:=f i) (h3 i hi) (k3 i hi)⟩
 | .agg cs,b,c,h,k=>by
   cases b<;>simp only[wk] at h<;>first|exact h.elim|(simp only[wk] at k;subst k;simp only[wk];done)|skip
   cases c<;>simp only[wk] at k ⊢<;>first|exact k.elim|exact gy (vs:=cs) h k|skip
 | .tup cs,b,c,h,k=>by
   cases b<;>simp only[wk] at h<;>first|exact h.elim|(simp only[wk] at k;subst k;simp only[wk];done)|skip
   cases c<;>simp only[wk] at k ⊢<;>first|exact k.elim|exact gy (vs:=cs) h k|skip
 | .iptr cs _,b,c,h,k=>by
   cases b<;>simp only[wk] at h<;>first|exact h.elim|(simp only[wk] at k;subst k;simp only[wk];done)|skip
   obtain⟨rfl,h⟩:=h
   cases c<;>simp only[wk] at k ⊢<;>first|exact k.elim|exact⟨k.1,gy (vs:=cs) h k.2⟩|skip
 | .fn f a b',b,c,h,k=>by
   cases b<;>simp only[wk] at h<;>first|exact h.elim|(simp only[wk] at k;subst k;simp only[wk];done)|skip
   obtain⟨rfl,h1,h2⟩:=h
   cases c<;>simp only[wk] at k ⊢<;>first|exact k.elim|exact⟨k.1,gy (vs:=a) h1 k.2.1,gy (vs:=b') h2 k.2.2⟩|skip
theorem gy:∀ {vs ws us:List V},wks vs ws→wks ws us→wks vs us
 | [],ws,us,h,k=>by simp only[wks] at h;subst h;exact k
 | v::vs,[],us,h,k=>by simp only[wks] at h
 | v::vs,w::ws,[],h,k=>by simp only[wks] at k
 | v::vs,w::ws,u::us,h,k=>by
   simp only[wks] at h k ⊢
   exact⟨zgy h.1 k.1,gy h.2 k.2⟩
end
theorem lf {c:Ctx} {u:Value}:VR c .bad u:=by simp only[VR]
theorem zmu {a b:Option Bool} {A:Option Addr} (h:wkN a b) (hA:Nlr a A):Nlr b A:=by
 rcases h with rfl|rfl
 ·intro b hb;cases hb
 ·exact hA
mutual
theorem zca {c:Ctx}:∀ (v v':V) (u:Value),wk v v'→VR c v u→VR c v' u
 | .bad,v',u,h,_=>by simp only[wk] at h;subst h;exact lf
 | .nil,v',u,h,H=>by
   cases v'<;>simp only[wk] at h<;>first|exact lf|exact H|exact h.elim|skip
   simp only[VR] at H ⊢
   subst H
   obtain⟨rfl,h2,rfl⟩:=h
   refine⟨none,0,rfl,Nat.le_refl _,(fun _=>rfl),zmu h2 (fun b hb=>by cases hb;simp),(fun _=>rfl),fun i hi=>by omega⟩
 | .bool _,v',u,h,H=>by cases v'<;>simp only[wk] at h<;>first|exact lf|(subst h;exact H)|exact h.elim
 | .int _ _,v',u,h,H=>by cases v'<;>simp only[wk] at h<;>first|exact lf|(obtain⟨rfl,rfl⟩:=h;exact H)|exact h.elim
 | .str _,v',u,h,H=>by cases v'<;>simp only[wk] at h<;>first|exact lf|(subst h;exact H)|exact h.elim
 | .ptr _ _,v',u,h,H=>by cases v'<;>simp only[wk] at h<;>first|exact lf|(obtain⟨rfl,rfl⟩:=h;exact H)|exact h.elim
 | .mp _,v',u,h,H=>by cases v'<;>simp only[wk] at h<;>first|exact lf|(subst h;exact H)|exact h.elim
 | .eptr _ _ _ _,v',u,h,H=>by cases v'<;>simp only[wk] at h<;>first|exact lf|(obtain⟨rfl,rfl,rfl,rfl⟩:=h;exact H)|exact h.elim
 | .own nl r e off n t,v',u,h,H=>by
   cases v'<;>simp only[wk] at h<;>first|exact lf|exact h.elim|skip
   obtain⟨rfl,rfl,rfl,rfl,h1,h2⟩:=h
   simp only[VR] at H ⊢
   obtain⟨A,cap,e1,⟨e2,e3⟩,e4,e5,e6⟩:=H
   refine⟨A,cap,e1,⟨e2,fun C hC=>?_⟩,fun hC=>?_,zmu h1 e5,e6⟩
   ·rcases h2 with rfl|rfl
    ·cases hC
    ·exact e3 C hC
   ·rcases h2 with rfl|rfl
    ·cases hC
    ·exact e4 hC
 | .lst nl t e n f,v',u,h,H=>by
   cases v'<;>simp only[wk] at h<;>first|exact lf|exact h.elim|skip
   rename_i nl' t' e' n' f'
   obtain⟨rfl,rfl,h1,h2,h3⟩:=h
   simp only[VR] at H ⊢
   obtain⟨A,cap,e1,e2,e3,e4,e5,e6⟩:=H
   refine⟨A,cap,e1,e2,fun hC=>?_,zmu h1 e4,e5,fun i hi=>?_⟩
   ·rcases h2 with rfl|rfl
    ·cases hC
    ·exact e3 hC
   ·obtain⟨a,g1,g2,g3,g4,g5⟩:=e6 i hi
    exact⟨a,g1,g2,(di (h3 i hi)).trans g3,g4,mz (f i) (f' i) _ (h3 i hi) g5⟩
 | .agg cs,v',u,h,H=>by
   cases v'<;>simp only[wk] at h<;>first|exact lf|exact h.elim|skip
   simp only[VR] at H ⊢
   obtain⟨us,e1,e2,e0,e3⟩:=H
   exact⟨us,e1,by rw[di h];exact e2,by rw[di h];exact e0,mz cs _ _ h e3⟩
 | .tup cs,v',u,h,H=>by
   cases v'<;>simp only[wk] at h<;>first|exact lf|exact h.elim|skip
   simp only[VR] at H ⊢
   obtain⟨us,e1,e2,e3⟩:=H
   exact⟨us,e1,by rw[di h];exact e2,mz cs _ _ h e3⟩
 | .iptr cs off,v',u,h,H=>by
   cases v'<;>simp only[wk] at h<;>first|exact lf|exact h.elim|skip
   obtain⟨rfl,h⟩:=h
   simp only[VR] at H ⊢
   obtain⟨b,o,e1,e2,e0,e3⟩:=H
   exact⟨b,o,e1,e2,by rw[di h];exact e0,mz cs _ _ h e3⟩
 | .fn f a b,v',u,h,H=>by
   cases v'<;>simp only[wk] at h<;>first|exact lf|exact h.elim|skip
   obtain⟨rfl,h1,h2⟩:=h
   simp only[VR] at H ⊢
   obtain⟨us,ws,e1,e2,e3,e4,e5⟩:=H
   exact⟨us,ws,e1,by rw[di h1];exact e2,by rw[di h2];exact e3,mz a _ _ h1 e4,mz b _ _ h2 e5⟩
theorem mz {c:Ctx}:∀ (vs vs':List V) (g:Nat→Option Value),wks vs vs'→VRs c vs g→VRs c vs' g
 | [],l,g,h,H=>by simp only[wks] at h;subst h;simp only[VRs]
 | v::vs,[],g,h,H=>by simp only[wks] at h
 | v::vs,v'::vs',g,h,H=>by
   simp only[wks] at h
   simp only[VRs] at H ⊢
   obtain⟨⟨u,e1,e2⟩,e3⟩:=H
   exact⟨⟨u,e1,zca v v' u h.1 e2⟩,mz vs vs' _ h.2 e3⟩
end
def wkB:Blk→Blk→Prop
 | .box cs,x=>(match x with | .dead=>True | .box cs'=>wks cs cs' | _=>False)
 | .arr e n f,x=>(match x with | .dead=>True | .arr e' n' f'=>e=e'∧n'≤n∧∀ i,i<n'→wks (f i) (f' i)|_=>False)
 | .mp es,x=>(match x with | .dead=>True | .mp es'=>es=es' | _=>False)
 | .dead,x=>x = .dead
def wkH:Heap→Heap→Prop
 | [],H=>H=[]
 | b::H,l=>(match l with|b'::H'=>wkB b b'∧wkH H H' | []=>False)
theorem zhh (b:Blk):wkB b b:=by
 cases b with
 | box cs=>exact ak cs
 | arr e n f=>exact⟨rfl,Nat.le_refl _,fun i _=>ak _⟩
 | mp es=>exact (rfl:es=es)
 | dead=>rfl
theorem jv:∀ H:Heap,wkH H H
 | []=>rfl
 | b::H=>⟨zhh b,jv H⟩
theorem zel:∀ {H H':Heap},wkH H H'→H'.length=H.length∧∀ (r:Nat) x',H'[r]? = some x'→∃ x,H[r]? = some x∧wkB x x'
 | [],H',h=>by simp only[wkH] at h;subst h;exact⟨rfl,fun r x h=>by simp at h⟩
 | b::H,[],h=>by simp only[wkH] at h
 | b::H,b'::H',h=>by
   simp only[wkH] at h
   obtain⟨g1,g2⟩:=zel h.2
   refine⟨by simp[g1],fun r x' hr=>?_⟩
   cases r with
   | zero=>simp at hr;subst hr;exact⟨b,rfl,h.1⟩
   | succ r=>simpa using g2 r x' (by simpa using hr)
theorem zqn {a b c:Blk} (h:wkB a b) (k:wkB b c):wkB a c:=by
 cases c with
 | dead=>cases a<;>simp[wkB]
 | box cs =>
   cases b with
   | dead=>cases k
   | arr e n f=>exact k.elim
   | mp es=>exact k.elim
   | box bs=>cases a with
     | dead=>cases h
     | arr e n f=>exact h.elim
     | mp es=>exact h.elim
     | box as=>exact gy h k
 | arr e n f =>
   cases b with
   | dead=>cases k
   | box bs=>exact k.elim
   | mp es=>exact k.elim
   | arr e' n' f'=>cases a with
     | dead=>cases h
     | box as=>exact h.elim
     | mp es=>exact h.elim
     | arr e'' n'' f'' =>
       obtain⟨rfl,h2,h3⟩:=h
       obtain⟨rfl,k2,k3⟩:=k
       exact⟨rfl,Nat.le_trans k2 h2,fun i hi=>gy (h3 i (by omega)) (k3 i hi)⟩
 | mp es =>
   cases b with
   | dead=>cases k
   | box bs=>exact k.elim
   | arr e n f=>exact k.elim
   | mp es'=>cases a with
     | dead=>cases h
     | box as=>exact h.elim
     | arr e n f=>exact h.elim
     | mp es''=>exact (Eq.trans h k:es''=es)
theorem zdx:∀ {a b c:Heap},wkH a b→wkH b c→wkH a c
 | [],b,c,h,k=>by simp only[wkH] at h;subst h;exact k
 | x::a,[],c,h,k=>by simp only[wkH] at h
 | x::a,y::b,[],h,k=>by simp only[wkH] at k
 | x::a,y::b,z::c,h,k=>by
   simp only[wkH] at h k ⊢
   exact⟨zqn h.1 k.1,zdx h.2 k.2⟩
theorem zt {x x':Blk} (h:wkB x x') (hl:Live x'):Live x:=by
 cases x<;>cases x'<;>simp_all [wkB,Live]
theorem z1n {c:Ctx} {C:Obj} {cap:Nat} {x x':Blk} (h:wkB x x') (H:Live x'→Cont c C cap x):Cont c C cap x':=by
 cases x' with
 | dead=>trivial
 | box cs' =>
   cases x with
   | dead=>cases h
   | arr e n f=>exact h.elim
   | mp es=>exact h.elim
   | box cs =>
   have h:wks cs cs':=h
   obtain⟨_,_,rfl,g1,g2,g3⟩:=H trivial
   exact⟨_,_,rfl,by rw[di h];exact g1,by rw[di h];exact g2,mz _ _ _ h g3⟩
 | arr e' n' f' =>
   cases x with
   | dead=>cases h
   | box cs=>exact h.elim
   | mp es=>exact h.elim
   | arr e n f =>
   obtain⟨rfl,h2,h3⟩:=h
   obtain⟨_,_,rfl,g1,g2,g3⟩:=H trivial
   refine⟨_,_,rfl,g1,by omega,fun i hi=>?_⟩
   obtain⟨k1,k2,k3⟩:=g3 i (by omega)
   exact⟨(di (h3 i hi)).trans k1,k2,mz _ _ _ (h3 i hi) k3⟩
 | mp es' =>
   cases x with
   | dead=>cases h
   | box cs=>exact h.elim
   | arr e n f=>exact h.elim
   | mp es =>
   have h:es=es':=h
   subst h
   exact H trivial
theorem SR.wk {F:Fr} {c:Ctx} {H H':Heap} (h:SR F c H) (hw:wkH H H'):SR F c H':=by
 obtain⟨g1,g2⟩:=zel hw
 refine⟨h.fr,h.le,by rw[h.len,g1],fun r b l hr hl=>?_,fun r r' x x' b m m' hr hr' hx hx' hl hl'=>?_,h.imm,h.old⟩
 ·obtain⟨x,k1,k2⟩:=g2 r b hr
  have hb:=h.blk r x l k1 hl
  cases l with
  | none =>
    cases b with
    | dead=>trivial
    | box cs=>cases x with
      | dead=>cases k2
      | arr e n f=>exact k2.elim
      | mp es=>exact k2.elim
      | box cs=>exact hb.elim
    | mp es=>cases x with
      | dead=>cases k2
      | arr e n f=>exact k2.elim
      | mp es=>exact hb.elim
      | box cs=>exact k2.elim
    | arr e n f =>
      cases x with
      | dead=>cases k2
      | box cs=>exact k2.elim
      | mp es=>exact k2.elim
      | arr e' m f' =>
        have h1:m=0:=hb
        have h2:n≤m:=k2.2.1
        show n=0
        omega
  | some l =>
    obtain⟨bb,m⟩:=l
    intro hlive
    obtain⟨C,e1,e2,e3⟩:=hb (zt k2 hlive)
    exact⟨C,e1,z1n k2 (fun _=>e2),e3⟩
 ·obtain⟨y,k1,k2⟩:=g2 r x hr
  obtain⟨y',k1',k2'⟩:=g2 r' x' hr'
  exact h.inj r r' y y' b m m' k1 k1' (zt k2 hx) (zt k2' hx') hl hl'
def wkE:Env→Env→Prop
 | [],_=>True
 | e::r,E=>wk (evt E [] e.t) e.v∧e.p=[]∧wkE r E
theorem ER_wk {c:Ctx} {E' E:Env} {a:Act} (hE:ER c E a) (h:wkE E' E):ER c E' a:=by
 intro t
 have key:(get E' t).2.1=[]∧VR c (get E' t).2.2 (km a t):=by
  induction E' with
  | nil=>exact⟨rfl,by simp[get,VR]⟩
  | cons e r ih =>
    obtain⟨h1,h2,h4⟩:=h
    rw[gr]
    by_cases he:e.t=t
    ·rw[if_pos he]
     subst he
     exact⟨h2,zca _ _ _ h1 (oq hE _)⟩
    ·rw[if_neg he]
     exact ih h4
 rw[key.1]
 exact⟨fun _=>key.2,fun h=>absurd trivial h⟩
section
variable {P:Program} {n:Nat} {E:Env} {H:Heap} {K:X→Env→Heap→Prop}
theorem cw_wk {f:Nat} {args:List V} {K:V→Heap→Prop} (args':List V) (H':Heap) (h1:wks args args') (h2:wkH H H') (h:cw P f args' H' K):cw P f args H K :=
 fun F c gt hs us hsz hus=>h F c gt (hs.wk h2) us (by rw[di h1];exact hsz) (mz _ _ _ h1 hus)
theorem cwE_wk {f:Nat} {args:List V} {K:V→Heap→Prop} (args':List V) (H':Heap) (h1:wks args args') (h2:wkH H H') (h:cwE P f args' H' K):cwE P f args H K :=
 ⟨h.1,fun F c gt hs us hsz hus=>h.2 F c gt (hs.wk h2) us (by rw[di h1];exact hsz) (mz _ _ _ h1 hus)⟩
theorem Meets.wk {f:Nat} {args args':List V} {v v':V} {H1 H1':Heap} (h:Meets P f args' v H1) (h1:wks args args') (h2:VM.wk v v') (h3:wkH H1 H1'):Meets P f args v' H1':=by
 refine⟨h.1,fun w I gt hI us hsz hus=>Calls.mono (h.2 w I gt hI us (by rw[di h1];exact hsz) (mz _ _ _ h1 hus)) ?_⟩
 rintro e w' ⟨c',u,e1,e2,e3,e4⟩
 exact⟨c',u,e1,e2,e3.wk h3,zca _ _ _ h2 e4⟩
def finw (d:Nat) (σ:List Nat) (v:V) (H1:Heap) (x:V) (H:Heap):Prop :=
 okσ (hlen H) σ=true∧okH d σ H σ∧okW (okD σ H d) σ H x∧wk (frV d σ H x) v∧wkH (frH d σ H σ) H1
def cm (n:Nat):Heap→Heap→Prop
 | [],_=>True
 | b'::H',l=>(match l with|b::H=>wkB b b'∧ltb n b'∧cm n H' H | []=>False)
def cn (n:Nat):Env→Env→Prop
 | [],_=>True
 | e::r,E=>wk (evt E [] e.t) e.v∧e.p=[]∧ltr n e.v=true∧cn n r E
def subw (E':Env) (H':Heap) (E:Env) (H:Heap):Prop:=cn (hlen H') E' E∧cm (hlen H') H' H
theorem vk {n:Nat}:∀ {H' H:Heap},cm n H' H→∃ H2,wkH H H2∧hpre n H' H2
 | [],H,_=>⟨H,jv H,trivial⟩
 | b'::H',[],h=>h.elim
 | b'::H',b::H,h=>by
   obtain⟨h1,h2,h3⟩:=h
   obtain⟨H2,k1,k2⟩:=vk h3
   exact⟨b'::H2,⟨h1,k1⟩,rfl,h2,k2⟩
theorem z1t {c:Ctx} {n:Nat} {E' E:Env} {a:Act} (hE:ER c E a) (h:cn n E' E):ER (c.cut n) E' a:=by
 intro t
 have key:(get E' t).2.1=[]∧VR (c.cut n) (get E' t).2.2 (km a t):=by
  induction E' with
  | nil=>exact⟨rfl,by simp[get,VR]⟩
  | cons e r ih =>
    obtain⟨h1,h2,h3,h4⟩:=h
    rw[gr]
    by_cases he:e.t=t
    ·rw[if_pos he]
     subst he
     exact⟨h2,zmx _ _ h3 (zca _ _ _ h1 (oq hE _))⟩
    ·rw[if_neg he]
     exact ih h4
 rw[key.1]
 exact⟨fun _=>key.2,fun h=>absurd trivial h⟩
theorem zs {a b:Code} (E2:Env) (H2:Heap) (h:cx P n a E H fun x E' H'=>(match x with
  | .normal=>wkE E2 E'∧wkH H' H2
  | x=>K x E' H')) (hK:cx P n b E2 H2 K):cx P n (.seq a b) E H K:=by
 refine ab ?_
 intro F c ac hn hs he ha hok
 refine wpIn_mono (h F c ac hn hs he ha hok) fun e a' w' hq=>?_
 obtain⟨F',fx,hq⟩:=hq
 cases e with
 | normal =>
   obtain⟨c',E',H',h0,h1,h2,h3,h4,h5⟩:=hq
   exact⟨F',fx,c',E2,H2,h0,h1.wk h5,ER_wk h2 h4,h3,hK⟩
 | exit i=>obtain⟨c',E',H',h0,h1,h2,h3,h4⟩:=hq;exact⟨F',fx,c',E',H',h0,h1,h2,h3,h4⟩
 | ret=>obtain⟨c',E',H',h0,h1,h2,h3,h4⟩:=hq;exact⟨F',fx,c',E',H',h0,h1,h2,h3,h4⟩
 | goto l=>exact hq.elim
 | panic ch=>exact hq.elim
 | outgrown=>exact hq.elim
theorem ah {c:Operand} {t e:Code} (b:Bool) (hb:ev (gl E) [] c = .bool b) (h1:b=true→cx P n t E H K) (h2:b=false→cx P n e E H K):cx P n (.cond c t e) E H K :=
 zzq (by rw[hb];exact⟨h1,h2⟩)
end
end Go.VM
end
section
namespace Go.VM
section
variable (g:Nat→Option Nat)
mutual
def rnV:V→V
 | .own nl r e off n t=>(match g r with|some i=>.own nl i e off n t|none=>.bad)
 | .ptr r off=>(match g r with|some i=>.ptr i off|none=>.bad)
 | .eptr r e i off=>(match g r with|some j=>.eptr j e i off|none=>.bad)
 | .mp r=>(match g r with|some i=>.mp i|none=>.bad)
 | .agg cs=>.agg (rnVs cs)
 | .tup cs=>.tup (rnVs cs)
 | .fn f a b=>.fn f (rnVs a) (rnVs b)
 | v=>v
def rnVs:List V→List V
 | []=>[]
 | v::vs=>rnV v::rnVs vs
end
def rnB:Blk→Blk
 | .box cs=>.box (rnVs g cs)
 | .arr e n f=>.arr e n fun i=>rnVs g (f i)
 | .mp es=>.mp (mMap (rnV g) es)
 | .dead=>.dead
def rnH:Heap→Heap
 | []=>[]
 | b::H=>rnB g b::rnH H
end
theorem ey (g:Nat→Option Nat) (vs:List V):(rnVs g vs).length=vs.length:=by
 induction vs with
 | nil=>simp[rnVs]
 | cons v vs ih=>simp[rnVs,ih]
theorem zlm (g:Nat→Option Nat) (H:Heap) (r:Nat):(rnH g H)[r]? = (H[r]?).map (rnB g):=by
 induction H generalizing r with
 | nil=>simp[rnH]
 | cons b H ih=>cases r<;>simp[rnH,ih]
theorem zj (g:Nat→Option Nat) (H:Heap):(rnH g H).length=H.length:=by
 induction H with
 | nil=>simp[rnH]
 | cons b H ih=>simp[rnH,ih]
theorem Live_rn {g:Nat→Option Nat} {x:Blk}:Live (rnB g x)↔Live x:=by cases x<;>simp[rnB,Live]
section
variable {c:Ctx} {g:Nat→Option Nat} {I:Nat→Prop} {L:List (Option (Nat × Nat))}
mutual
theorem zjn (hI:∀ b,c.I b→I b) (hL:∀ (r i:Nat) (l:Option (Nat × Nat)),g r=some i→c.locs[r]? = some l→L[i]? = some l):∀ (v:V) (u:Value),VR c v u→VR ⟨c.w,I,L⟩ (rnV g v) u
 | .bad,_,_=>by simp only[rnV,VR]
 | .nil,_,h=>by simpa only [rnV,VR] using h
 | .bool _,_,h=>by simpa only [rnV,VR] using h
 | .int _ _,_,h=>by simpa only [rnV,VR] using h
 | .str _,_,h=>by simpa only [rnV,VR] using h
 | .lst nl t e m f,u,h=>by
   simp only[rnV]
   exact qo (c:=⟨c.w,c.I,[]⟩) (c':=⟨c.w,I,L⟩) ⟨fun r x e=>by simp at e,hI,fun _ _=>rfl⟩ _ _ (by simpa only [VR] using h)
 | .iptr cs off,u,h=>by
   simp only[rnV]
   exact qo (c:=⟨c.w,c.I,[]⟩) (c':=⟨c.w,I,L⟩) ⟨fun r x e=>by simp at e,hI,fun _ _=>rfl⟩ _ _ (by simpa only [VR] using h)
 | .own nl r e off n t,u,h=>by
   simp only[rnV]
   cases hg:g r with
   | none=>simp only[VR]
   | some i =>
     simp only[VR] at h ⊢
     obtain⟨A,cap,e1,e2,e3,e4,e5⟩:=h
     refine⟨A,cap,e1,e2,e3,e4, ?_⟩
     cases hr:c.locs[r]? with
     | none=>rw[hr] at e5;exact e5.elim
     | some l=>rw[hL r i l hg hr];rw[hr] at e5;exact e5
 | .ptr r off,u,h=>by
   simp only[rnV]
   cases hg:g r with
   | none=>simp only[VR]
   | some i =>
     simp only[VR] at h ⊢
     cases hr:c.locs[r]? with
     | none=>rw[hr] at h;exact h.elim
     | some l=>rw[hL r i l hg hr];rw[hr] at h;exact h
 | .mp r,u,h=>by
   simp only[rnV]
   cases hg:g r with
   | none=>simp only[VR]
   | some i =>
     simp only[VR] at h ⊢
     cases hr:c.locs[r]? with
     | none=>rw[hr] at h;exact h.elim
     | some l=>rw[hL r i l hg hr];rw[hr] at h;exact h
 | .eptr r e j off,u,h=>by
   simp only[rnV]
   cases hg:g r with
   | none=>simp only[VR]
   | some i =>
     simp only[VR] at h ⊢
     cases hr:c.locs[r]? with
     | none=>rw[hr] at h;exact h.elim
     | some l=>rw[hL r i l hg hr];rw[hr] at h;exact h
 | .agg cs,u,h=>by
   simp only[rnV,VR] at h ⊢
   obtain⟨us,e1,e2,e0,e3⟩:=h
   exact⟨us,e1,by rw[ey];exact e2,by rw[ey];exact e0,tx hI hL cs _ e3⟩
 | .tup cs,u,h=>by
   simp only[rnV,VR] at h ⊢
   obtain⟨us,e1,e2,e3⟩:=h
   exact⟨us,e1,by rw[ey];exact e2,tx hI hL cs _ e3⟩
 | .fn f a b,u,h=>by
   simp only[rnV,VR] at h ⊢
   obtain⟨us,ws,e1,e2,e3,e4,e5⟩:=h
   exact⟨us,ws,e1,by rw[ey];exact e2,by rw[ey];exact e3,tx hI hL a _ e4,tx hI hL b _ e5⟩
theorem tx (hI:∀ b,c.I b→I b) (hL:∀ (r i:Nat) (l:Option (Nat × Nat)),g r=some i→c.locs[r]? = some l→L[i]? = some l):∀ (vs:List V) (gt:Nat→Option Value),VRs c vs gt→VRs ⟨c.w,I,L⟩ (rnVs g vs) gt
 | [],_,_=>by simp only[rnVs,VRs]
 | v::vs,gt,h=>by
   simp only[rnVs,VRs] at h ⊢
   obtain⟨⟨u,e1,e2⟩,e3⟩:=h
   exact⟨⟨u,e1,zjn hI hL v u e2⟩,tx hI hL vs _ e3⟩
end
theorem zfl (hI:∀ b,c.I b→I b) (hL:∀ (r i:Nat) (l:Option (Nat × Nat)),g r=some i→c.locs[r]? = some l→L[i]? = some l) {C:Obj} {cap:Nat} {x:Blk} (h:Cont c C cap x):Cont ⟨c.w,I,L⟩ C cap (rnB g x):=by
 cases x with
 | box cs=>obtain⟨_,_,rfl,h⟩:=h;exact⟨_,_,rfl,by rw[ey];exact h.1,by rw[ey];exact h.2.1,tx hI hL _ _ h.2.2⟩
 | arr e m f=>obtain⟨_,_,rfl,h⟩:=h;exact⟨_,_,rfl,h.1,h.2.1,fun i hi=>⟨by rw[ey];exact (h.2.2 i hi).1,(h.2.2 i hi).2.1,tx hI hL _ _ (h.2.2 i hi).2.2⟩⟩
 | mp es=>obtain⟨A,k,rfl,h⟩:=h;exact⟨A,k,rfl,h.mapM fun x _ u hu=>zjn hI hL x.2 u hu⟩
 | dead=>trivial
end
def selH (τ:List Nat) (H:Heap):List Nat→Heap
 | []=>[]
 | r::l=>rnB (idx τ) (hget H r)::selH τ H l
abbrev Ctx.sel (c:Ctx) (τ:List Nat):Ctx:=⟨c.w,c.I,τ.map fun r=>(match c.locs[r]? with|some l=>l|none=>none)⟩
theorem po {τ:List Nat} {H:Heap} (l:List Nat) (i:Nat):(selH τ H l)[i]? = (l[i]?).map fun r=>rnB (idx τ) (hget H r):=by
 induction l generalizing i with
 | nil=>simp[selH]
 | cons r l ih=>cases i<;>simp[selH,ih]
theorem nh {τ:List Nat} {H:Heap} (l:List Nat):(selH τ H l).length=l.length:=by
 induction l with
 | nil=>simp[selH]
 | cons r l ih=>simp[selH,ih]
theorem zzv {σ:List Nat} (hnd:σ.Nodup) {i r:Nat} (h:σ[i]? = some r):idx σ r=some i:=by
 cases hi:idx σ r with
 | none=>exact absurd (List.mem_of_getElem? h) (zq hi)
 | some j =>
   have:=zx hi
   rw[(List.getElem?_inj (List.getElem?_eq_some_iff.1 this).1 hnd).1 (this.trans h.symm)]
section
variable {F:Fr} {c:Ctx} {H:Heap} {τ:List Nat}
theorem sy (hs:SR F c H) (hτ:okσ H.length τ=true):(∀ (i:Nat) (l:Option (Nat × Nat)),(c.sel τ).locs[i]? = some l→∃ r,τ[i]? = some r∧c.locs[r]? = some l) ∧
  (∀ (r i:Nat) (l:Option (Nat × Nat)),idx τ r=some i→c.locs[r]? = some l→(c.sel τ).locs[i]? = some l):=by
 obtain⟨hnd,hlt⟩:=ru hτ
 constructor
 ·intro i l hl
  simp only[List.getElem?_map,Option.map_eq_some_iff] at hl
  obtain⟨r,hr,hl⟩:=hl
  refine⟨r,hr, ?_⟩
  have:r<c.locs.length:=by rw[hs.len];exact hlt r (List.mem_of_getElem? hr)
  rw[List.getElem?_eq_getElem this] at hl ⊢
  simp only at hl
  rw[hl]
 ·intro r i l hi hl
  simp only[List.getElem?_map,zx hi,Option.map_some,hl]
theorem SR.sel (hs:SR F c H) (hτ:okσ H.length τ=true) (h0:∀ (r:Nat) (x:Option (Nat × Nat)),F.c0.locs[r]? = some x→(c.sel τ).locs[r]? = some x):SR F (c.sel τ) (selH τ H τ):=by
 obtain⟨hnd,hlt⟩:=ru hτ
 obtain⟨hl1,hl2⟩:=sy hs hτ
 refine⟨hs.fr,⟨h0,hs.le.I,hs.le.heap⟩,by simp[nh],fun i x l hi hl=>?_,fun i i' x x' b m m' hi hi' hx hx' hl hl'=>?_,hs.imm,hs.old⟩
 ·rw[po] at hi
  obtain⟨r,hr,hlr⟩:=hl1 i l hl
  rw[hr] at hi
  simp only[Option.map_some,Option.some.injEq] at hi
  subst hi
  obtain⟨g1,g2⟩:=hs.get hlr
  cases l with
  | none =>
    cases hx:hget H r with
    | box cs=>rw[hx] at g2;exact g2.elim
    | arr e n f=>rw[hx] at g2;exact g2
    | mp es=>rw[hx] at g2;exact g2.elim
    | dead=>trivial
  | some l =>
    obtain⟨b,m⟩:=l
    intro hlive
    obtain⟨C,k1,k2,k3,k4⟩:=g2 (Live_rn.1 hlive)
    exact⟨C,k1,zfl (fun _ h=>h) hl2 k2,k3,k4⟩
 ·obtain⟨r,hr,hlr⟩:=hl1 i _ hl
  obtain⟨r',hr',hlr'⟩:=hl1 i' _ hl'
  rw[po,hr] at hi
  rw[po,hr'] at hi'
  simp only[Option.map_some,Option.some.injEq] at hi hi'
  subst hi hi'
  have:=hs.inj r r' _ _ b m m' (hs.get hlr).1 (hs.get hlr').1 (Live_rn.1 hx) (Live_rn.1 hx') hlr hlr'
  subst this
  exact (List.getElem?_inj (List.getElem?_eq_some_iff.1 hr).1 hnd).1 (hr.trans hr'.symm)
abbrev Fr.sel (c:Ctx) (H:Heap) (τ:List Nat):Fr:=⟨c.sel τ,fun b=>∃ r m x,r∈τ∧H[r]? = some x∧Live x∧c.locs[r]? = some (some (b,m)),0,none,[]⟩
theorem SR.sel_here (hs:SR F c H) (hτ:okσ H.length τ=true):SR (Fr.sel c H τ) (c.sel τ) (selH τ H τ):=by
 obtain⟨hnd,hlt⟩:=ru hτ
 obtain⟨hl1,hl2⟩:=sy hs hτ
 refine⟨⟨rfl,rfl,rfl,Nat.le_refl _,fun _ _ _=>rfl⟩,Le.refl _,by simp[nh],fun i x l hi hl=>?_,fun i i' x x' b m m' hi hi' hx hx' hl hl'=>?_,hs.imm,fun b h=>.inl h⟩
 ·rw[po] at hi
  obtain⟨r,hr,hlr⟩:=hl1 i l hl
  rw[hr] at hi
  simp only[Option.map_some,Option.some.injEq] at hi
  subst hi
  obtain⟨g1,g2⟩:=hs.get hlr
  cases l with
  | none =>
    cases hx:hget H r with
    | box cs=>rw[hx] at g2;exact g2.elim
    | arr e n f=>rw[hx] at g2;exact g2
    | mp es=>rw[hx] at g2;exact g2.elim
    | dead=>trivial
  | some l =>
    obtain⟨b,m⟩:=l
    intro hlive
    obtain⟨C,k1,k2,k3,k4⟩:=g2 (Live_rn.1 hlive)
    exact⟨C,k1,zfl (fun _ h=>h) hl2 k2,k3,.inr ⟨r,m,_,List.mem_of_getElem? hr,g1,Live_rn.1 hlive,hlr⟩⟩
 ·obtain⟨r,hr,hlr⟩:=hl1 i _ hl
  obtain⟨r',hr',hlr'⟩:=hl1 i' _ hl'
  rw[po,hr] at hi
  rw[po,hr'] at hi'
  simp only[Option.map_some,Option.some.injEq] at hi hi'
  subst hi hi'
  have:=hs.inj r r' _ _ b m m' (hs.get hlr).1 (hs.get hlr').1 (Live_rn.1 hx) (Live_rn.1 hx') hlr hlr'
  subst this
  exact (List.getElem?_inj (List.getElem?_eq_some_iff.1 hr).1 hnd).1 (hr.trans hr'.symm)
end
def bkf:List Nat→Nat→Nat→Nat
 | [],n,i=>n+i
 | r::_,_,0=>r
 | _::ρ,n,i+1=>bkf ρ n i
def updH:Heap→List Nat→Heap→Heap
 | H,[],l=>happ H l
 | H,r::ρ,l=>(match l with|b::l=>updH (hset H r b) ρ l | []=>H)
theorem znt:∀ (ρ:List Nat) (n i:Nat),i<ρ.length→ρ[i]? = some (bkf ρ n i)
 | [],_,_,h=>by simp at h
 | r::ρ,n,0,_=>by simp[bkf]
 | r::ρ,n,i+1,h=>by simpa [bkf] using znt ρ n i (by simpa using h)
theorem znr:∀ (ρ:List Nat) (n i:Nat),ρ.length≤i→bkf ρ n i=n+(i-ρ.length)
 | [],_,_,_=>by simp[bkf]
 | r::ρ,n,0,h=>by simp at h
 | r::ρ,n,i+1,h=>by
   have:=znr ρ n i (by simpa using h)
   simp only[bkf,this,List.length_cons]
   omega
theorem zdi:∀ (ρ:List Nat) (H l:Heap),ρ.Nodup→(∀ r∈ρ,r<H.length)→ρ.length≤l.length →
  (updH H ρ l).length=H.length+(l.length-ρ.length)∧(∀ (i r:Nat),ρ[i]? = some r→(updH H ρ l)[r]? = l[i]?)∧(∀ r:Nat,r<H.length→r ∉ ρ→(updH H ρ l)[r]? = H[r]?) ∧
  (∀ r:Nat,H.length≤r→(updH H ρ l)[r]? = l[ρ.length+(r-H.length)]?)
 | [],H,l,_,_,_=>by
   simp only[updH,zav]
   refine⟨by simp,fun i r h=>by simp at h,fun r hr _=>List.getElem?_append_left hr,fun r hr=>?_⟩
   rw[List.getElem?_append_right hr]
   simp
 | r0::ρ,H,[],_,_,h=>by simp at h
 | r0::ρ,H,b::l,hnd,hlt,hle=>by
   obtain⟨h1,h2⟩:=List.nodup_cons.1 hnd
   have hr0:=hlt r0 (by simp)
   obtain⟨k1,k2,k3,k4⟩:=zdi ρ (hset H r0 b) l h2 (fun r hr=>by rw[dw];exact hlt r (by simp[hr])) (by simpa using hle)
   rw[dw] at k1 k3 k4
   simp only[updH]
   refine⟨by rw[k1];simp,fun i r hi=>?_,fun r hr hn=>?_,fun r hr=>?_⟩
   ·cases i with
    | zero =>
      simp only[List.getElem?_cons_zero,Option.some.injEq] at hi
      subst hi
      rw[k3 _ hr0 h1,ju,if_pos ⟨rfl,hr0⟩]
      simp
    | succ i=>simpa using k2 i r (by simpa using hi)
   ·simp only[List.mem_cons,not_or] at hn
    rw[k3 r hr hn.2,ju,if_neg (by rintro⟨rfl,_⟩;exact hn.1 rfl)]
   ·rw[k4 r hr]
    have:(r0::ρ).length+(r-H.length)=ρ.length+(r-H.length)+1:=by simp;omega
    rw[this,List.getElem?_cons_succ]
section
variable {F:Fr} {c:Ctx} {H:Heap} {ρ:List Nat}
theorem SR.frame (hs:SR F c H) (hρ:okσ H.length ρ=true) {c3:Ctx} {H1:Heap} (h3:SR (Fr.sel c H ρ) c3 H1) (hle:ρ.length≤H1.length) :
  SR F ⟨c3.w,c3.I,c.locs++c3.locs.drop ρ.length⟩ (updH H ρ (rnH (fun i=>some (bkf ρ H.length i)) H1))∧Le c ⟨c3.w,c3.I,c.locs++c3.locs.drop ρ.length⟩ ∧
  ∀ v u,VR c3 v u→VR ⟨c3.w,c3.I,c.locs++c3.locs.drop ρ.length⟩ (rnV (fun i=>some (bkf ρ H.length i)) v) u:=by
 obtain⟨hnd,hlt⟩:=ru hρ
 have hlen:=hs.len
 have hlen3:=h3.len
 obtain⟨u1,u2,u3,u4⟩:=zdi ρ H (rnH (fun i=>some (bkf ρ H.length i)) H1) hnd hlt (by rw[zj];exact hle)
 have hl2:=(sy hs hρ).2
 have hloc3:∀ (i r:Nat) (l:Option (Nat × Nat)),ρ[i]? = some r→c.locs[r]? = some l→c3.locs[i]? = some l:=fun i r l hi hl=>h3.le.locs i l (hl2 r i l (zzv hnd hi) hl)
 have hlocs:∀ (i:Nat) (l:Option (Nat × Nat)),c3.locs[i]? = some l→(c.locs++c3.locs.drop ρ.length)[bkf ρ H.length i]? = some l:=by
  intro i l hl
  by_cases hi:i<ρ.length
  ·have hr:=znt ρ H.length i hi
   have hrl:=hlt _ (List.mem_of_getElem? hr)
   rw[List.getElem?_append_left (by omega)]
   have h1:c.locs[bkf ρ H.length i]? = some (c.locs[bkf ρ H.length i]'(by omega)):=List.getElem?_eq_getElem (by omega)
   have:=hloc3 i _ _ hr h1
   rw[hl] at this
   rw[h1,← Option.some.inj this]
  ·rw[znr ρ _ i (by omega),List.getElem?_append_right (by omega),List.getElem?_drop]
   rw[show ρ.length+(H.length+(i-ρ.length)-c.locs.length)=i from by omega]
   exact hl
 have hbk:∀ (r i:Nat) (l:Option (Nat × Nat)),(fun i=>some (bkf ρ H.length i)) r=some i→c3.locs[r]? = some l→(c.locs++c3.locs.drop ρ.length)[i]? = some l:=by
  intro r i l h hl
  simp only[Option.some.injEq] at h
  subst h
  exact hlocs r l hl
 have hX:∀ b,(Fr.sel c H ρ).X b→¬ c.I b∧Wr F b∧b<c.w.heap.size:=by
  rintro b ⟨r,m,x,h1,h2,h3,h4⟩
  obtain⟨C,k1,_,k3,k4⟩:=hs.blk r x _ h2 h4 h3
  exact⟨k3,k4,(Array.getElem?_eq_some_iff.1 k1).1⟩
 have hsame:∀ b,b<c.w.heap.size→¬ (Fr.sel c H ρ).X b→c3.w.heap[b]? = c.w.heap[b]?:=fun b hb hx=>h3.fr.block b hb hx
 have hsz:c.w.heap.size≤c3.w.heap.size:=h3.fr.size
 have hJ1:∀ b,c3.I b→c.I b∨c.w.heap.size≤b:=h3.old
 have hle':Le c ⟨c3.w,c3.I,c.locs++c3.locs.drop ρ.length⟩ :=
  ⟨fun r x e=>by rw[List.getElem?_append_left (List.getElem?_eq_some_iff.1 e).1];exact e,h3.le.I,fun b hb=>hsame b (hs.imm b hb) fun hx=>(hX b hx).1 hb⟩
 have hWr:∀ b,Wr (Fr.sel c H ρ) b→Wr F b:=by
  rintro b (hb|hb)
  ·exact .inl (Nat.le_trans hs.fr.size hb)
  ·exact (hX b hb).2.1
 have key:∀ (r:Nat) (y:Blk) (l:Option (Nat × Nat)),(updH H ρ (rnH (fun i=>some (bkf ρ H.length i)) H1))[r]? = some y→(c.locs++c3.locs.drop ρ.length)[r]? = some l →
   (r ∉ ρ∧H[r]? = some y∧c.locs[r]? = some l)∨(∃ i x,r=bkf ρ H.length i∧H1[i]? = some x∧y=rnB (fun i=>some (bkf ρ H.length i)) x∧c3.locs[i]? = some l):=by
  intro r y l hr hl
  by_cases hlt':r<H.length
  ·rw[List.getElem?_append_left (by omega)] at hl
   by_cases hm:r∈ρ
   ·obtain⟨i,hi,hri⟩:=List.getElem_of_mem hm
    have hi':ρ[i]? = some r:=by rw[List.getElem?_eq_getElem hi,hri]
    rw[u2 i r hi',zlm] at hr
    cases hx:H1[i]? with
    | none=>rw[hx] at hr;cases hr
    | some x =>
      rw[hx] at hr
      simp only[Option.map_some,Option.some.injEq] at hr
      have hb:=znt ρ H.length i hi
      rw[hi'] at hb
      exact .inr ⟨i,x,Option.some.inj hb,hx,hr.symm,hloc3 i r l hi' hl⟩
   ·rw[u3 r hlt' hm] at hr
    exact .inl ⟨hm,hr,hl⟩
  ·rw[u4 r (by omega),zlm] at hr
   rw[List.getElem?_append_right (by omega),List.getElem?_drop] at hl
   cases hx:H1[ρ.length+(r-H.length)]? with
   | none=>rw[hx] at hr;cases hr
   | some x =>
     rw[hx] at hr
     simp only[Option.map_some,Option.some.injEq] at hr
     refine .inr ⟨ρ.length+(r-H.length),x, ?_,hx,hr.symm, ?_⟩
     ·rw[znr _ _ _ (by omega)];omega
     ·rw[hlen] at hl;exact hl
 refine⟨⟨?_,hs.le.trans hle', ?_, ?_, ?_,h3.imm, ?_⟩,hle',fun v u h=>zjn (fun _ h=>h) hbk v u h⟩
 ·refine⟨h3.fr.os.trans hs.fr.os,h3.fr.tape.trans hs.fr.tape,h3.fr.output.trans hs.fr.output,Nat.le_trans hs.fr.size hsz,fun k hk hx=>?_⟩
  show c3.w.heap[k]? = _
  rw[hsame k (Nat.lt_of_lt_of_le hk hs.fr.size) fun hx'=>?_]
  ·exact hs.fr.block k hk hx
  ·rcases (hX k hx').2.1 with h|h
   ·omega
   ·exact hx h
 ·rw[u1,zj]
  simp[hlen,hlen3]
 ·intro r y l hr hl
  rcases key r y l hr hl with ⟨a0,a1,a2⟩ | ⟨i,x,rfl,a2,rfl,a4⟩
  ·refine (hs.blk r y l a1 a2).mono hle' fun b m e hlive=>?_
   subst e
   obtain⟨O',g1,_,g3,_⟩:=hs.blk r y _ a1 a2 hlive
   have hb:b<c.w.heap.size:=(Array.getElem?_eq_some_iff.1 g1).1
   refine⟨hsame b hb ?_,fun hj=>?_⟩
   ·rintro⟨r',m',x',h1,h2,h4,h5⟩
    have:=hs.inj r r' y x' b m m' a1 h2 hlive h4 a2 h5
    subst this
    exact a0 h1
   ·rcases hJ1 b hj with h|h
    ·exact g3 h
    ·omega
  ·have hb:=h3.blk i x l a2 a4
   cases l with
   | none=>cases x<;>first|exact hb|exact hb.elim
   | some l =>
     obtain⟨b,m⟩:=l
     intro hlive
     obtain⟨C,g1,g2,g3,g4⟩:=hb (Live_rn.1 hlive)
     exact⟨C,g1,zfl (c:=c3) (I:=c3.I) (fun _ h=>h) hbk g2,g3,hWr b g4⟩
 ·intro r r' y y' b m m' hr hr' hy hy' hl hl'
  have hnew:∀ (i:Nat) (x:Blk),H1[i]? = some x→Live x→c3.locs[i]? = some (some (b,m))→∀ (q:Nat) (z:Blk) (m2:Nat),q ∉ ρ→H[q]? = some z→Live z→c.locs[q]? = some (some (b,m2))→False:=by
   intro i x hx hlx hlc q z m2 hq hz hlz hlq
   obtain⟨C,k1,_,_,_⟩:=hs.blk q z _ hz hlq hlz
   have hbs:b<c.w.heap.size:=(Array.getElem?_eq_some_iff.1 k1).1
   obtain⟨O',_,_,_,h4|h4⟩:=h3.blk i x _ hx hlc hlx
   ·have:c.w.heap.size≤b:=h4
    omega
   ·obtain⟨r',m',x',h1,h2,h5,h6⟩:=h4
    have:=hs.inj q r' z x' b m2 m' hz h2 hlz h5 hlq h6
    subst this
    exact hq h1
  have hnew':∀ (i:Nat) (x:Blk),H1[i]? = some x→Live x→c3.locs[i]? = some (some (b,m'))→∀ (q:Nat) (z:Blk) (m2:Nat),q ∉ ρ→H[q]? = some z→Live z→c.locs[q]? = some (some (b,m2))→False:=by
   intro i x hx hlx hlc q z m2 hq hz hlz hlq
   obtain⟨C,k1,_,_,_⟩:=hs.blk q z _ hz hlq hlz
   have hbs:b<c.w.heap.size:=(Array.getElem?_eq_some_iff.1 k1).1
   obtain⟨O',_,_,_,h4|h4⟩:=h3.blk i x _ hx hlc hlx
   ·have:c.w.heap.size≤b:=h4
    omega
   ·obtain⟨r',m',x',h1,h2,h5,h6⟩:=h4
    have:=hs.inj q r' z x' b m2 m' hz h2 hlz h5 hlq h6
    subst this
    exact hq h1
  rcases key r y _ hr hl with ⟨a0,a1,a2⟩ | ⟨i,x,rfl,a2,rfl,a4⟩<;>rcases key r' y' _ hr' hl' with ⟨b0,b1,b2⟩ | ⟨i',x',rfl,b2,rfl,b4⟩
  ·exact hs.inj r r' y y' b m m' a1 b1 hy hy' a2 b2
  ·exact (hnew' i' x' b2 (Live_rn.1 hy') b4 r y m a0 a1 hy a2).elim
  ·exact (hnew i x a2 (Live_rn.1 hy) a4 r' y' m' b0 b1 hy' b2).elim
  ·rw[h3.inj i i' x x' b m m' a2 b2 (Live_rn.1 hy) (Live_rn.1 hy') a4 b4]
 ·intro b hb
  rcases hJ1 b hb with h|h
  ·exact hs.old b h
  ·exact .inr (Nat.le_trans hs.fr.size h)
end
def preσ:Nat→Nat→List Nat→Bool
 | _,0,_=>true
 | _,_+1,[]=>false
 | k,n+1,r::l=>band (Nat.beq r k) (preσ (k+1) n l)
theorem uq:∀ (n k:Nat) (l:List Nat),preσ k n l=true→∀ i,i<n→l[i]? = some (k+i)
 | 0,_,_,_,i,h=>by omega
 | n+1,_,[],h,_,_=>by simp[preσ] at h
 | n+1,k,r::l,h,i,hi=>by
   simp only[preσ] at h
   obtain⟨h1,h2⟩:=ax h
   cases i with
   | zero=>simp[be h1]
   | succ i =>
     have:=uq n (k+1) l h2 i (by omega)
     simp only[List.getElem?_cons_succ,this]
     congr 1
     omega
def Ends (n:Nat) (v:V) (H1:Heap) (x:V) (H:Heap):Prop:=∃ τ,okσ (hlen H) τ=true∧preσ 0 n τ=true∧wk (rnV (idx τ) x) v∧wkH (selH τ H τ) H1
def Does (P:Program) (f:Nat) (args:List V) (H0:Heap) (v:V) (H1:Heap):Prop:=cw P f args H0 (Ends (hlen H0) v H1)
theorem yo {H H':Heap} (h:wkH H H'):H'.length=H.length:=(zel h).1
theorem ce {P:Program} {f:Nat} {args args':List V} {H0 H1 H:Heap} {v:V} (h:Does P f args' H0 v H1) (ρ:List Nat) (hρ:okσ (hlen H) ρ=true)
  (ha:wks (rnVs (idx ρ) args) args') (hH:wkH (selH ρ H ρ) H0) {K:V→Heap→Prop} (hk:K (rnV (fun i=>some (bkf ρ (hlen H) i)) v) (updH H ρ (rnH (fun i=>some (bkf ρ (hlen H) i)) H1))):cw P f args H K:=by
 rw[bt] at hρ
 rw[bt] at hk
 refine fun F c gt hs us hsz hus=>?_
 have gt2:GF P (Fr.sel c H ρ):=fun c3 H3 h3=>by
  have hl:ρ.length≤H3.length:=by
   rcases Nat.lt_or_ge H3.length ρ.length with hlt|hge
   ·have h0:(Fr.sel c H ρ).c0.locs.length=ρ.length:=by show (c.sel ρ).locs.length=_;simp
    have hg:(Fr.sel c H ρ).c0.locs[H3.length]? = some ((Fr.sel c H ρ).c0.locs[H3.length]'(by omega)):=List.getElem?_eq_getElem _
    have h1:=h3.le.locs _ _ hg
    have h2:=(List.getElem?_eq_some_iff.1 h1).1
    rw[h3.len] at h2
    omega
   ·exact hge
  have k:=gt _ _ (hs.frame hρ h3 hl).1
  exact k
 have h2:=(hs.sel_here hρ).wk hH
 have hl2:=(sy hs hρ).2
 have hargs:VRs (c.sel ρ) args' fun j=>us[j]?:=mz _ _ _ ha (tx (c:=c) (I:=c.I) (L:=(c.sel ρ).locs) (fun _ h=>h) hl2 args _ hus)
 have hcall:=h _ _ gt2 h2 us (by rw[di ha,ey];exact hsz) hargs
 refine CX.mono hcall ?_
 rintro e w' ⟨c',u,v',H',rfl,rfl,hle,h3,h4,τ,t1,t2,t3,t4⟩
 rw[bt] at t1
 have h0:H0.length=ρ.length:=by rw[yo hH,nh]
 have hpre:∀ (r:Nat) (x:Option (Nat × Nat)),(Fr.sel c H ρ).c0.locs[r]? = some x→(c'.sel τ).locs[r]? = some x:=by
  intro r x hx
  have hr:r<H0.length:=by
   rw[h0]
   have:=(List.getElem?_eq_some_iff.1 hx).1
   simpa using this
  rw[bt] at t2
  have hτ:=uq _ _ _ t2 r hr
  have hx':c'.locs[r]? = some x:=hle.locs r x hx
  simp only[Nat.zero_add] at hτ
  simp only[List.getElem?_map,hτ,Option.map_some,hx']
 have h5:=(h3.sel t1 hpre).wk t4
 have h6:VR (c'.sel τ) v u:=zca _ _ _ t3 (zjn (c:=c') (I:=c'.I) (L:=(c'.sel τ).locs) (fun _ h=>h) (sy h3 t1).2 v' u h4)
 have hle1:ρ.length≤H1.length:=by
  rw[yo t4,nh,← h0]
  rw[bt] at t2
  rcases Nat.lt_or_ge τ.length H0.length with h|h
  ·have:=uq _ _ _ t2 τ.length h
   simp at this
  ·exact h
 obtain⟨k1,k2,k3⟩:=hs.frame hρ h5 hle1
 exact⟨⟨c'.w,c'.I,c.locs++(c'.sel τ).locs.drop ρ.length⟩,u,_,_,rfl,rfl,k2,k1,k3 v u h6,hk⟩
theorem eb {P:Program} {f:Nat} {fn:Func} {body:Code} {args:List V} {H0:Heap} {v:V} {H1:Heap} (hf:P.funcs[f]? = some fn) (hb:fn.body=some body) (hname:aw P f=true)
  (hok:okc fn.ntmps body=true) (hnt:args.length≤fn.ntmps) (h:cx P (hlen H0) body (argE 0 args) H0 (retK P fn.results.toList (Ends (hlen H0) v H1))):Does P f args H0 v H1 :=
 cw_cx hf hb hname hok hnt h
end Go.VM
end
section
namespace Go.VM
def En {α:Type} (enc:α→List V) (d:α) (l:List α):Nat→List V:=fun i=>enc (l.getD i d)
theorem zcu {a b:Nat} (h:Nat.blt a b=false):b≤a:=by
 rcases Nat.lt_or_ge a b with h' | h'
 ·have:Nat.blt a b=true:=by rw[Nat.blt_eq];exact h'
  rw[this] at h;cases h
 ·exact h'
section
variable {α:Type} {enc:α→List V} {d:α} {l l':List α}
theorem nth_En {i k:Nat}:nth (En enc d l i) k=nth (enc (l.getD i d)) k:=rfl
theorem len_En {i:Nat}:len (En enc d l i)=len (enc (l.getD i d)):=rfl
theorem dr_En {i k:Nat}:dr k (En enc d l i)=dr k (enc (l.getD i d)):=rfl
theorem tk_En {i k:Nat}:tk k (En enc d l i)=tk k (enc (l.getD i d)):=rfl
theorem z3v:join l.length (En enc d l) (En enc d l')=En enc d (l++l'):=by
 funext i
 simp only[join,En]
 cases h:Nat.blt i l.length with
 | true =>
   have hi:i<l.length:=by simpa using h
   simp[List.getElem?_append_left hi]
 | false =>
   have hi:l.length≤i:=zcu h
   simp[List.getElem?_append_right hi]
theorem zoe {i m q:Nat} {g f:Nat→List V} (h:q<i):over i m g f q=f q:=by
 unfold over;rw[if_neg (by omega)]
theorem vu {x:α} {cs:List V} (hc:wks cs (enc x)) {i:Nat} (h:i<l.length+1):wks (join l.length (En enc d l) (fun _=>cs) i) (En enc d (l++[x]) i):=by
 simp only[join,En]
 cases hb:Nat.blt i l.length with
 | true =>
   have hi:i<l.length:=by simpa using hb
   simp[List.getElem?_append_left hi,ak]
 | false =>
   have hi:i=l.length:=by
    have:l.length≤i:=zcu hb
    omega
   subst hi
   simpa using hc
end
abbrev lstV {α:Type} (e:Nat) (enc:α→List V) (d:α) (l:List α):V:=.lst none .loose e l.length (En enc d l)
section
variable {P:Program} {n:Nat} {E:Env} {H:Heap} {K:X→Env→Heap→Prop}
theorem cw_m {f:Nat} {args0 args:List V} {v:V} {H1:Heap} {K:V→Heap→Prop} (h:Meets P f args v H1) (ha:wks args0 args) (hnr:ltrs 0 args=true) (hk:K (shV (hlen H) v) (happ H (shH (hlen H) H1))):cw P f args0 H K :=
 cw_wk args H ha (jv H) (zvj h hnr hk)
theorem ek {f:Nat} {args0 args:List V} {v:V} {H1:Heap} {K:V→Heap→Prop} (h:Meets P f args v H1) (ha:wks args0 args) (hnr:ltrs 0 args=true) (hk:K (shV (hlen H) v) (happ H (shH (hlen H) H1))):cwE P f args0 H K :=
 cwE_wk args H ha (jv H) (zng h hnr hk)
theorem cw_v (d:Nat) {f:Nat} {args0 args:List V} {v:V} {H1:Heap} {K:V→Heap→Prop} (h:Meets P f args v H1) (ha:wks (frWs true (frD [] H d) [] H args0) args) (hok:okWs (okD [] H d) [] H args0) (hv:flat v=true) (hk:K v H):cw P f args0 H K :=
 z2y d (h.wk ha (bf _) (jv _)) hv hok hk
theorem zil (d:Nat) {f:Nat} {args0 args:List V} {v:V} {H1:Heap} {K:V→Heap→Prop} (h:Meets P f args v H1) (ha:wks (frWs true (frD [] H d) [] H args0) args) (hok:okWs (okD [] H d) [] H args0) (hv:flat v=true) (hk:K v H):cwE P f args0 H K :=
 ztj d (h.wk ha (bf _) (jv _)) hv hok hk
theorem ad {p:Path} {q K:Prop} (h:Sd p q) (k:K):Sd p q∧K:=⟨h,k⟩
theorem ae {q K:Prop} (h:Sq q) (k:K):Sq q∧K:=⟨h,k⟩
def dc (τ:List Nat):Env→Env→Prop
 | [],_=>True
 | e::r,E=>wk (rnV (idx τ) (evt E [] e.t)) e.v∧e.p=[]∧dc τ r E
def subr (n:Nat) (τ:List Nat) (E':Env) (H':Heap) (E:Env) (H:Heap):Prop:=okσ (hlen H) τ=true∧preσ 0 n τ=true∧dc τ E' E∧wkH (selH τ H τ) H'
theorem zqb {F:Fr} {c:Ctx} {E E':Env} {H H':Heap} {a:Act} {τ:List Nat} (hn:F.c0.locs.length≤n) (hs:SR F c H) (he:ER c E a) (h:subr n τ E' H' E H):SR F (c.sel τ) H'∧ER (c.sel τ) E' a:=by
 obtain⟨h1,h2,h3,h4⟩:=h
 rw[bt] at h1
 refine⟨(hs.sel h1 fun r x hx=>?_).wk h4,fun t=>?_⟩
 ·have hr:r<n:=Nat.lt_of_lt_of_le (List.getElem?_eq_some_iff.1 hx).1 hn
  have hτ:=uq _ _ _ h2 r hr
  have hx':=hs.le.locs r x hx
  simp only[Nat.zero_add] at hτ
  simp only[List.getElem?_map,hτ,Option.map_some,hx']
 ·have hl2:=(sy hs h1).2
  have key:(get E' t).2.1=[]∧VR (c.sel τ) (get E' t).2.2 (km a t):=by
   clear h4
   induction E' with
   | nil=>exact⟨rfl,by simp[get,VR]⟩
   | cons e r ih =>
     obtain⟨k1,k2,k3⟩:=h3
     rw[gr]
     by_cases het:e.t=t
     ·rw[if_pos het]
      subst het
      exact⟨k2,zca _ _ _ k1 (zjn (c:=c) (I:=c.I) (L:=(c.sel τ).locs) (fun _ h=>h) hl2 _ _ (oq he _))⟩
     ·rw[if_neg het]
      exact ih k3
  rw[key.1]
  exact⟨fun _=>key.2,fun h=>absurd trivial h⟩
theorem zzf {F:Fr} {c:Ctx} {E E':Env} {H H':Heap} {a:Act} (hn:F.c0.locs.length≤n) (hn':n≤hlen H') (hs:SR F c H) (he:ER c E a) (h:subw E' H' E H):∃ c',c'.w=c.w∧SR F c' H'∧ER c' E' a:=by
 rw[bt] at hn'
 obtain⟨H2,k1,k2⟩:=vk h.2
 have h1:=(hs.wk k1).cut (Nat.le_trans hn hn') k2
 have h2:=z1t he h.1
 rw[bt] at h2
 exact⟨c.cut H'.length,rfl,h1,h2⟩
def subv (n:Nat) (E':Env) (H':Heap) (E:Env) (H:Heap):Prop:=subw E' H' E H∨∃ τ,subr n τ E' H' E H
theorem zax {F:Fr} {c:Ctx} {E E':Env} {H H':Heap} {a:Act} (hn:F.c0.locs.length≤n) (hn':n≤hlen H') (hs:SR F c H) (he:ER c E a) (h:subv n E' H' E H):∃ c',c'.w=c.w∧SR F c' H'∧ER c' E' a:=by
 rcases h with h | ⟨τ,h⟩
 ·exact zzf hn hn' hs he h
 ·obtain⟨k1,k2⟩:=zqb hn hs he h
  exact⟨c.sel τ,rfl,k1,k2⟩
def rnd {σ:Type} (n:Nat) (I:σ→Prop) (inv:σ→Env) (hv:σ→Heap) (μ:σ→Nat) (s:σ) (K:X→Env→Heap→Prop):X→Env→Heap→Prop
 | .normal,E,H=>∃ s',I s'∧μ s'<μ s∧subv n (inv s') (hv s') E H
 | .exit i,E,H=>K (.exit i) E H
 | .ret,E,H=>K .ret E H
theorem zvt {σ:Type} (I:σ→Prop) (inv:σ→Env) (hv:σ→Heap) (μ:σ→Nat) {b:Code} (hn:∀ s,n≤hlen (hv s))
  (s:σ) (hI:I s) (h0:subv n (inv s) (hv s) E H)
  (round:∀ s,I s→cx P n b (inv s) (hv s) (rnd n I inv hv μ s K)):cx P n (.loop b) E H K:=by
 intro F c a hF hs he ha hok
 obtain⟨c1,g1,g2,g3⟩:=zax hF.le (hn s) hs he h0
 rw[← g1]
 refine wpIn_loop_ghost (fun m a' w'=>∃ s F' c',Fx F F'∧I s∧μ s=m∧c'.w=w'∧SR F' c' (hv s)∧ER c' (inv s) a'∧AO F' a') (μ s) ⟨s,F,c1,.refl F,hI,rfl,rfl,g2,g3,ha⟩ ?_
 rintro m a' w' ⟨s,F1,c',fx1,hI,rfl,rfl,hs,he,ha⟩
 refine wpIn_mono (cx.go (round s hI) fx1 hF hs he ha hok) fun e a2 w2 hq=>?_
 obtain⟨F',fx,hq⟩:=hq
 cases e with
 | normal =>
   obtain⟨c2,E2,H2,rfl,h1,h2,h3,s',hI',hlt,hsub⟩:=hq
   obtain⟨c3,k1,k2,k3⟩:=zax (hF.fx fx).le (hn s') h1 h2 hsub
   exact⟨μ s',hlt,s',F',c3,fx,hI',rfl,k1,k2,k3,h3⟩
 | exit i=>obtain⟨c',E',H',h0,h1,h2,h3,h4⟩:=hq;exact⟨F',fx,c',E',H',h0,h1,h2,h3,h4⟩
 | ret=>obtain⟨c',E',H',h0,h1,h2,h3,h4⟩:=hq;exact⟨F',fx,c',E',H',h0,h1,h2,h3,h4⟩
 | goto l=>exact hq.elim
 | panic ch=>exact hq.elim
 | outgrown=>exact hq.elim
theorem zuz {σ:Type} {I:σ→Prop} {inv:σ→Env} {hv:σ→Heap} {μ:σ→Nat} {s:σ} {i:Nat}:rnd n I inv hv μ s K (.exit i) E H=K (.exit i) E H:=rfl
theorem z1j {σ:Type} {I:σ→Prop} {inv:σ→Env} {hv:σ→Heap} {μ:σ→Nat} {s:σ}:rnd n I inv hv μ s K .ret E H=K .ret E H:=rfl
theorem ay {σ:Type} {I:σ→Prop} {inv:σ→Env} {hv:σ→Heap} {μ:σ→Nat} {s:σ} (s':σ) (h1:I s') (h2:μ s'<μ s) (h3:subw (inv s') (hv s') E H):rnd n I inv hv μ s K .normal E H:=⟨s',h1,h2,.inl h3⟩
theorem ke {σ:Type} {I:σ→Prop} {inv:σ→Env} {hv:σ→Heap} {μ:σ→Nat} {s:σ} (s':σ) (τ:List Nat) (h1:I s') (h2:μ s'<μ s) (h3:subr n τ (inv s') (hv s') E H):rnd n I inv hv μ s K .normal E H:=⟨s',h1,h2,.inr ⟨τ,h3⟩⟩
def sx:Env→Env→Env
 | [],l=>l
 | e::r,l=>e::sx r l
theorem gz {σ:Type} (I:σ→Prop) (ch:σ→Env) (ts:List Nat) (hv:σ→Heap) (μ:σ→Nat) (s:σ) {b:Code} (hs:I s) (hn:∀ s,n≤hlen (hv s))
  (h0:subw (sx (ch s) (keep ts E)) (hv s) E H)
  (round:∀ s,I s→cx P n b (sx (ch s) (keep ts E)) (hv s) (rnd n I (fun s=>sx (ch s) (keep ts E)) hv μ s K)):cx P n (.loop b) E H K :=
 zvt I (fun s=>sx (ch s) (keep ts E)) hv μ hn s hs (.inl h0) round
theorem bm {σ:Type} (I:σ→Prop) (ch:σ→Env) (ts:List Nat) (μ:σ→Nat) (s:σ) {b:Code} (hs:I s) (hn:n≤hlen H)
  (h0:subw (sx (ch s) (keep ts E)) H E H)
  (round:∀ s,I s→cx P n b (sx (ch s) (keep ts E)) H (rnd n I (fun s=>sx (ch s) (keep ts E)) (fun _=>H) μ s K)):cx P n (.loop b) E H K :=
 gz I ch ts (fun _=>H) μ s hs (fun _=>hn) h0 round
theorem uk {a b:Code} (E2:Env) (H2:Heap) (h:cx P n a E H fun x E' H'=>(match x with
  | .normal=>∃ τ,subr n τ E2 H2 E' H'
  | x=>K x E' H')) (hK:cx P n b E2 H2 K):cx P n (.seq a b) E H K:=by
 refine ab ?_
 intro F c ac hn hs he ha hok
 refine wpIn_mono (h F c ac hn hs he ha hok) fun e a' w' hq=>?_
 obtain⟨F',fx,hq⟩:=hq
 cases e with
 | normal =>
   obtain⟨c',E',H',rfl,h1,h2,h3,τ,h4⟩:=hq
   obtain⟨k1,k2⟩:=zqb (hn.fx fx).le h1 h2 h4
   exact⟨F',fx,c'.sel τ,E2,H2,rfl,k1,k2,h3,hK⟩
 | exit i=>obtain⟨c',E',H',h0,h1,h2,h3,h4⟩:=hq;exact⟨F',fx,c',E',H',h0,h1,h2,h3,h4⟩
 | ret=>obtain⟨c',E',H',h0,h1,h2,h3,h4⟩:=hq;exact⟨F',fx,c',E',H',h0,h1,h2,h3,h4⟩
 | goto l=>exact hq.elim
 | panic ch=>exact hq.elim
 | outgrown=>exact hq.elim
theorem uc {code:Code} (t:Nat) {tg:Tg} {e m:Nat} {f:Nat→List V} (ht:evt E [] t = .lst none tg e m f)
  (h:∀ b:Bool,(b=true→m=0)→cx P n code (⟨t,0,[],.lst (some b) tg e m f⟩::E) H K):cx P n code E H K:=by
 intro F c a hn hs he ha hok
 have hv:=oq he t
 rw[ht] at hv
 simp only[VR] at hv
 obtain⟨A,cap,e1,e2,e3,e4,e5,e6⟩:=hv
 refine h A.isNone (fun hA=>?_) F c a hn hs (fun t'=>?_) ha hok
 ·have:A=none:=by cases A<;>simp at hA ⊢
  have:=e5 this
  omega
 ·rw[gr]
  split
  ·rename_i htt
   have htt':t=t':=htt
   subst htt'
   refine⟨fun _=>?_,fun h=>absurd trivial h⟩
   rw[e1]
   simp only[VR]
   exact⟨A,cap,rfl,e2,e3,(fun b hb=>by cases hb;cases A<;>simp),e5,e6⟩
  ·exact he t'
def finx (v:V) (H1:Heap) (x:V) (H:Heap):Prop:=∃ x2 H2 d σ,wk x x2∧wkH H H2∧finw d σ v H1 x2 H2
theorem ap {v x:V} {H1 H:Heap} (d:Nat) (σ:List Nat) (h1:okσ (hlen H) σ=true) (h2:okH d σ H σ) (h3:okW (okD σ H d) σ H x) (h4:wk (frV d σ H x) v) (h5:wkH (frH d σ H σ) H1):finx v H1 x H :=
 ⟨x,H,d,σ,bf _,jv _,h1,h2,h3,h4,h5⟩
theorem zxx {v x:V} {H1 H:Heap} (x2:V) (H2:Heap) (h1:wk x x2) (h2:wkH H H2) (h:finx v H1 x2 H2):finx v H1 x H:=by
 obtain⟨x3,H3,d,σ,k1,k2,k3⟩:=h
 exact⟨x3,H3,d,σ,zgy h1 k1,zdx h2 k2,k3⟩
theorem cy {v x:V} {H:Heap} (hf:flat x=true) (h:wk x v):finx v [] x H :=
 ap 0 [] rfl trivial (zhe _ _ _ _ hf) (by rw[show frV 0 [] H x=x from zgz _ _ _ _ _ hf];exact h) rfl
theorem am {a b:Int} {k:IntKind} {H:Heap} (h:a=b):finx (.int k b) [] (.int k a) H:=cy rfl (by rw[h];exact bf _)
theorem aq {a b:Bool} {H:Heap} (h:a=b):finx (.bool b) [] (.bool a) H:=cy rfl (by rw[h];exact bf _)
theorem an {f:Nat} {fn:Func} {body:Code} {args:List V} {v:V} {H1:Heap} (hf:P.funcs[f]? = some fn) (hb:fn.body=some body) (hname:aw P f=true)
  (hok:okc fn.ntmps body=true) (hnt:args.length≤fn.ntmps) (h:cx P 0 body (argE 0 args) [] (retK P fn.results.toList (finx v H1))):Meets P f args v H1:=by
 refine⟨hname,fun w I gt hI us hsz hus=>lu hf hb ?_⟩
 have hs:SR ⟨⟨w,I,[]⟩,fun _=>False,fn.ntmps,none,[]⟩ ⟨w,I,[]⟩ [] :=
  ⟨⟨rfl,rfl,rfl,Nat.le_refl _,fun _ _ _=>rfl⟩,Le.refl _,rfl,fun r b l h=>by simp at h,fun r r' x x' b m m' h=>by simp at h,hI,fun b h=>.inl h⟩
 have he:ER ⟨w,I,[]⟩ (argE 0 args) { tmps:=us++Array.replicate (fn.ntmps-us.size) undef,defers:=[] }:=zmp hus
 have ha:AO ⟨⟨w,I,[]⟩,fun _=>False,fn.ntmps,none,[]⟩ { tmps:=us++Array.replicate (fn.ntmps-us.size) undef,defers:=[] }:=⟨rfl,by simp;omega⟩
 have hw:=h ⟨⟨w,I,[]⟩,fun _=>False,fn.ntmps,none,[]⟩ ⟨w,I,[]⟩ _ (FN.start gt) hs he ha hok
 refine wpIn_mono hw fun e a' w' hq=>?_
 have key:∀ c E H,SR ⟨⟨w,I,[]⟩,fun _=>False,fn.ntmps,none,[]⟩ c H→ER c E a'→(resV P E H fn.results.toList [] fun vs=>finx v H1 (one vs) H) →
   ∃ u,(results fn a'.tmps).run P c.w = .ok u c.w∧∃ c' u',Ending.returned u = .returned u'∧c'.w=c.w∧SR ⟨⟨w,I,[]⟩,fun _=>False,0,none,[]⟩ c' H1∧VR c' v u':=by
  intro c E H h1 h2 h3
  obtain⟨x0,u,k1,k2,x,H,d,σ,w1,w2,k3⟩:=td (K:=finx v H1) h1 h2 h3
  obtain⟨f1,f2,f3,f4,f5⟩:=k3
  have h1:=h1.wk w2
  have k2:=zca _ _ _ w1 k2
  rw[bt] at f1
  obtain⟨s1,s2⟩:=h1.fz rfl (fun _ h=>h) f1 f2
  have s3:=zca _ _ _ f4 (s2 x u f3 k2)
  have s1:=s1.wk f5
  exact⟨u,k1,c.fz σ H,u,rfl,rfl,⟨⟨s1.fr.os,s1.fr.tape,s1.fr.output,s1.fr.size,s1.fr.block⟩,s1.le,s1.len,s1.blk,s1.inj,s1.imm,s1.old⟩,s3⟩
 obtain⟨F',fx,hq⟩:=hq
 cases e with
 | normal =>
   obtain⟨c,E,H,rfl,h1,h2,h3,h4⟩:=hq
   exact me rfl fx h1 h3 fun c' s le=>key c' E H s (fy le h2) h4
 | ret =>
   obtain⟨c,E,H,rfl,h1,h2,h3,h4⟩:=hq
   exact me rfl fx h1 h3 fun c' s le=>key c' E H s (fy le h2) h4
 | exit i=>obtain⟨c,E,H,rfl,h1,h2,h3,h4⟩:=hq;exact h4.elim
 | goto l=>exact hq.elim
 | panic ch=>exact hq.elim
 | outgrown=>exact hq.elim
end
end Go.VM
namespace Go.VM
theorem zyg (v:V):wk v v↔True:=iff_true_intro (bf v)
theorem zrl (v:List V):wks v v↔True:=iff_true_intro (ak v)
theorem zvh (v:Blk):wkB v v↔True:=iff_true_intro (zhh v)
theorem zut (v:Heap):wkH v v↔True:=iff_true_intro (jv v)
theorem zrm (a:Option Bool):wkN a none↔True:=iff_true_intro (.inl rfl)
theorem zuu (a:Option Bool):wkN a a↔True:=iff_true_intro (.inr rfl)
theorem znq (a:Tg):wkT a .loose↔True:=iff_true_intro (.inl rfl)
theorem zwl (a:Tg):wkT a a↔True:=iff_true_intro (.inr rfl)
theorem w64 {t x:Int} (h:t=IntKind.i64.wrap x) (h1 : -9223372036854775808≤x) (h2:x≤9223372036854775807):t=x:=by rw[h,zyc h1 h2]
theorem nr {a b:Prop} (h:a=b):a=b:=h
theorem nq {α:Type} {a b:α} (h:a=b):a=b:=h
section
variable {P:Program} {ops:List Oper} {k i:Nat} {o:Oper} {os:List Oper} {K:Env→Heap→Prop} {E E':Env} {H H':Heap} {p p':Path} {late:List Nat} {s t:Plan}
def xg (g:Option Path) (F:Path→Prop):Prop :=
 match g with
 | some p=>F p
 | none=>False
theorem z3p {F:Path→Prop}:xg (some p) F=F p:=nr rfl
@[congr] theorem xg_congr {g g':Option Path} {F:Path→Prop} (h:g=g'):xg g F=xg g' F:=by rw[h]
@[congr] theorem rkv_congr {r r':R} {K:V→Prop} (h:r=r'):rkv p r K=rkv p r' K:=by rw[h]
@[congr] theorem rk_congr {r r':R} {K:V→Prop} (h:r=r'):rk p r K=rk p r' K:=by rw[h]
@[congr] theorem xs_congr (h1:E=E') (h2:H=H'):xs P ops k os K E H=xs P ops k os K E' H':=by rw[h1,h2]
@[congr] theorem xd_congr (h1:E=E') (h2:H=H'):xd P ops late s k K E H=xd P ops late s k K E' H':=by rw[h1,h2]
@[congr] theorem xo_congr (h:p=p'):xo P k o p E H K=xo P k o p' E H K:=by rw[h]
@[congr] theorem xe_congr (h:p=p'):xe P k o p E H K=xe P k o p' E H K:=by rw[h]
@[congr] theorem xb_congr {b:Builtin} {ts:List Nat} {xs' xs'':List V} {K:V→Heap→Prop} (h:xs'=xs''):xb P b ts xs' p H K=xb P b ts xs'' p H K:=by rw[h]
@[congr] theorem zxj {T T':TI} {a a' x x':V} {K:Heap→Prop} (h1:T=T') (h2:a=a') (h3:x=x'):xm T H a x K=xm T' H a' x' K:=by rw[h1,h2,h3]
@[congr] theorem zrk {e e' b b':Nat} {a a' x x':V} {K:V→Heap→Prop} (h0:e=e') (h1:b=b') (h2:a=a') (h3:x=x'):kc e b H a x K=kc e' b' H a' x' K:=by rw[h0,h1,h2,h3]
@[congr] theorem zkb {e e' n:Nat} {z z':Option (List V)} {a a':List (Nat × V)} {K:V→Heap→Prop} (h0:e=e') (h1:z=z') (h2:a=a'):ct e z n a H K=ct e' z' n a' H K:=by rw[h0,h1,h2]
@[congr] theorem zxl {e e':Nat} {z z':List V} {a a':V} {K:Heap→Prop} (h0:e=e') (h1:z=z') (h2:a=a'):tw e z H a K=tw e' z' H a' K:=by rw[h0,h1,h2]
@[congr] theorem z1h {e e':Nat} {a a' x x':V} {K:Nat→Heap→Prop} (h0:e=e') (h1:a=a') (h2:x=x'):zcw e H a x K=zcw e' H a' x' K:=by rw[h0,h1,h2]
@[congr] theorem rv_congr {v v':V} {K:V→Prop} (h:v=v'):rv v K=rv v' K:=by rw[h]
@[congr] theorem resV_congr {rs rs':List ResultVar} {acc acc':List V} {K:List V→Prop} (h0:rs=rs') (h:acc=acc'):resV P E H rs acc K=resV P E H rs' acc' K:=by rw[h0,h]
theorem xs_nil:xs P ops k [] K E H=K E H:=nr rfl
theorem z0c:xs P ops k (o::os) K E H=xg (gp ops E o.guard) fun p=>xo P k o p E H (xs P ops (k+1) os K):=nr (by unfold xs xg;rfl)
theorem z0n:xd P ops late .done k K E H=K E H:=nr rfl
def xp (P:Program) (ops:List Oper) (late:Bool) (i k:Nat) (o:Option Oper) (E:Env) (H:Heap) (K:Env→Heap→Prop):Prop :=
 match o with
 | some o=>xg (gpd ops E o.guard) fun p=>(match late with|true=>xo P k o p E H K|false=>xe P k o p E H K)
 | none=>False
@[congr] theorem xp_congr {l l':Bool} {q q':Option Oper} (h:l=l') (h':q=q'):xp P ops l i k q E H K=xp P ops l' i k q' E H K:=by rw[h,h']
theorem zzs:xp P ops true i k (some o) E H K=xg (gpd ops E o.guard) fun p=>xo P k o p E H K:=nr rfl
theorem zse:xp P ops false i k (some o) E H K=xg (gpd ops E o.guard) fun p=>xe P k o p E H K:=nr rfl
theorem zwf:xd P ops late (.first i s) k K E H=xp P ops true i k (onth ops i) E H (xd P ops late s (k+1) K):=nr (by
 unfold xp xg;conv=>lhs;unfold xd
 cases onth ops i<;>rfl)
theorem xd_one:xd P ops late (.one i s) k K E H=xp P ops (mem i late) i k (onth ops i) E H (xd P ops late s (k+1) K):=nr (by
 unfold xp xg;conv=>lhs;unfold xd
 cases onth ops i<;>rfl)
theorem xd_alt:xd P ops late (.alt i s t) k K E H=(xp P ops (mem i late) i k (onth ops i) E H (xd P ops late s (k+1) K)∧xd P ops late t k K E H):=nr (by
 unfold xp xg;conv=>lhs;unfold xd
 cases onth ops i<;>rfl)
end
section
variable {P:Program} {k:Nat} {K:Env→Heap→Prop} {E:Env} {H:Heap} {p:Path} {d:Option Nat} {ty:TypeId} {pos:String} {aft:Array Edge} {g:Option (Nat × Bool)}
def xf (P:Program) (f:V) (args:List V) (p:Path) (k:Nat) (d:Option Nat) (E:Env) (H:Heap) (K:Env→Heap→Prop):Prop :=
 match f with
 | .fn g first caps=>(match p with
   | []=>cw P g (app first (app args caps)) H (kp K E d k [])
   | y::q=>cg P g (app first (app args caps)) H (y::q) (kq K E d k (y::q) H))
 | _=>False
def xfE (P:Program) (f:V) (args:List V) (p:Path) (k:Nat) (d:Option Nat) (E:Env) (H:Heap) (K:Env→Heap→Prop):Prop :=
 match f with
 | .fn g first caps=>(match p with
   | []=>cwE P g (app first (app args caps)) H (kp K E d k [])
   | y::q=>cgE P g (app first (app args caps)) H (y::q) (kq K E d k (y::q) H))
 | _=>False
@[congr] theorem xf_congr {f f':V} {a a':List V} (h1:f=f') (h2:a=a'):xf P f a p k d E H K=xf P f' a' p k d E H K:=by rw[h1,h2]
@[congr] theorem xfE_congr {f f':V} {a a':List V} (h1:f=f') (h2:a=a'):xfE P f a p k d E H K=xfE P f' a' p k d E H K:=by rw[h1,h2]
theorem xf_nil {f:Nat} {a b c:List V}:xf P (.fn f a c) b [] k d E H K=cw P f (app a (app b c)) H (kp K E d k []):=nr rfl
theorem z0r {f:Nat} {a b c:List V} {y:Nat × Bool × Bool} {q:Path}:xf P (.fn f a c) b (y::q) k d E H K=cg P f (app a (app b c)) H (y::q) (kq K E d k (y::q) H):=nr rfl
theorem z0o {f:Nat} {a b c:List V}:xfE P (.fn f a c) b [] k d E H K=cwE P f (app a (app b c)) H (kp K E d k []):=nr rfl
theorem zuh {f:Nat} {a b c:List V} {y:Nat × Bool × Bool} {q:Path}:xfE P (.fn f a c) b (y::q) k d E H K=cgE P f (app a (app b c)) H (y::q) (kq K E d k (y::q) H):=nr rfl
def kv (K:Env→Heap→Prop) (E:Env) (d:Option Nat) (k:Nat) (p:Path) (H:Heap) (v:V):Prop:=K (put E d (k+1) p v) H
def kh (K:Env→Heap→Prop) (E:Env) (d:Option Nat) (k:Nat) (p:Path) (v:V) (H:Heap):Prop:=K (put E d (k+1) p v) H
theorem zzk {x:Operand}:xo P k ⟨d,.move x,ty,pos,aft,g⟩ p E H K=K (put E d (k+1) p (ev E p x)) H:=nr rfl
theorem zlp {x:Operand}:xo P k ⟨d,.assign x,ty,pos,aft,g⟩ p E H K=K (put E d (k+1) p (ev E p x)) H:=nr rfl
theorem z2e {c a b:Operand}:xo P k ⟨d,.pick c a b,ty,pos,aft,g⟩ p E H K=rkv p (zfs (ev E p c) (ev E (pk E p c true) a) (ev E (pk E p c false) b)) (kv K E d k p H):=nr rfl
theorem zsm {op:BinOp} {T yt:Nat} {x y:Operand}:xo P k ⟨d,.binOp op T x y yt,ty,pos,aft,g⟩ p E H K=rkv p (bin op (bp P T) (ev E p x) (ev E p y)) (kv K E d k p H):=nr rfl
theorem z2u {op:UnOp} {T:Nat} {x:Operand}:xo P k ⟨d,.unOp op T x,ty,pos,aft,g⟩ p E H K=rkv p (un op (ev E p x)) (kv K E d k p H):=nr rfl
theorem zks {i:Nat} {x:Operand}:xo P k ⟨d,.extract x i,ty,pos,aft,g⟩ p E H K=rk p (nn (ev E p x) i) (kv K E d k p H):=nr rfl
def nilV (v:V):R:=match v with | .ptr r off=>.ok (.ptr r off) | .eptr r e i off=>.ok (.eptr r e i off) | .iptr cs off=>.ok (.iptr cs off)|_=>.no
theorem zen {x:Operand}:xo P k ⟨d,.nilCheck x,ty,pos,aft,g⟩ p E H K=rk p (nilV (ev E p x)) (kv K E d k p H):=nr (by unfold xo nilV rk kv;dsimp only;cases ev E p x<;>rfl)
theorem zbi {T f:Nat} {x:Operand}:xo P k ⟨d,.fieldAddr T x f,ty,pos,aft,g⟩ p E H K=rk p (fieldAddr (bg P T f) (ev E p x)) (kv K E d k p H):=nr rfl
theorem zsy {T:Nat} {x i:Operand}:xo P k ⟨d,.index T x i,ty,pos,aft,g⟩ p E H K=rkv p (wi (bp P T) (ev E p x) (ev E p i)) (kv K E d k p H):=nr rfl
def zoo (P:Program) (e:Option Nat) (x i:V):R:=match e with|some e=>indexAddr (al P e) x i|none=>.no
theorem zdo {T:Nat} {x i:Operand}:xo P k ⟨d,.indexAddr T x i,ty,pos,aft,g⟩ p E H K=rk p (zoo P (da P T) (ev E p x) (ev E p i)) (kv K E d k p H):=nr (by unfold xo zoo rk kv;dsimp only;cases da P T<;>rfl)
theorem zyu {T:Nat} {x:Operand}:xo P k ⟨d,.load T x,ty,pos,aft,g⟩ p E H K=rk p (load (ti P T) H (ev E p x)) (kv K E d k p H):=nr rfl
theorem zro {T:Nat} {x:Operand} {lo hi mx:Option Operand}:xo P k ⟨d,.slice T x lo hi mx,ty,pos,aft,g⟩ p E H K=rk p (pj (bp P T) (zk P T) (ev E p x) (evo E p lo) (evo E p hi) (evo E p mx)) (kv K E d k p H):=nr rfl
theorem zim {S D:Nat} {x:Operand}:xo P k ⟨d,.convert S D x,ty,pos,aft,g⟩ p E H K=rkv p (zkq (uh P S) (bp P S) (bp P D) H (ev E p x)) (kv K E d k p H):=nr rfl
theorem zes {S D:TK} {x:V}:zkq false S D H x=zef S D x:=nq (by cases D<;>rfl)
def cvB (o:Option (Prop × Nat × (Nat→List V))):R:=match o with|some (q,n,f)=>.chk (q∧∀ i,i<n→isCh (f i)) (.str ((List.range n).map fun i=>chV (f i)))|none=>.no
theorem ziz {S:TK} {x:V}:zkq true S .str H x=cvB (view 1 H x):=nq rfl
theorem zrp {q:Prop} {n:Nat} {f:Nat→List V}:cvB (some (q,n,f)) = .chk (q∧∀ i,i<n→isCh (f i)) (.str ((List.range n).map fun i=>chV (f i))):=nq rfl
def zqj (P:Program) (o:Option (Nat × Nat)) (x:V):R:=match o with|some (k',t)=>vi (some (k',t)) (ti P t) x|none=>.no
theorem ztt {T f:Nat} {x:Operand}:xo P k ⟨d,.field T x f,ty,pos,aft,g⟩ p E H K=rk p (zqj P (bg P T f) (ev E p x)) (kv K E d k p H):=nr (by unfold xo zqj rk kv;dsimp only;cases bg P T f<;>rfl)
theorem zfj {f:Nat} {first caps:Array Operand}:xo P k ⟨d,.makeFunc (.func f) first caps,ty,pos,aft,g⟩ p E H K=K (put E d (k+1) p (.fn f (evs E p first.toList) (evs E p caps.toList))) H:=nr rfl
def newV (z:Option (List V)) (H:Heap) (K:V→Heap→Prop):Prop:=match z with|some z=>K (.ptr (hlen H) 0) (hadd H (.box z))|none=>False
@[congr] theorem newV_congr {z z':Option (List V)} {K:V→Heap→Prop} (h:z=z'):newV z H K=newV z' H K:=by rw[h]
theorem zqz {z:List V} {K:V→Heap→Prop}:newV (some z) H K=K (.ptr (hlen H) 0) (hadd H (.box z)):=nr rfl
theorem zvz {T:Nat}:xo P k ⟨d,.alloc T,ty,pos,aft,g⟩ [] E H K=newV (cq P T) H (kh K E d k []):=nr (by unfold xo newV kh;dsimp only;cases cq P T<;>rfl)
theorem xo_box {T:Nat} {x:Operand}:xo P k ⟨d,.box T x,ty,pos,aft,g⟩ [] E H K=newV (boxV (ti P T) (ev E [] x)) H (kh K E d k []):=nr (by unfold xo newV kh;dsimp only;cases boxV (ti P T) (ev E [] x)<;>rfl)
theorem zrr {T:Nat}:xe P k ⟨d,.alloc T,ty,pos,aft,g⟩ [] E H K=newV (cq P T) H (kh K E d k []):=nr (by unfold xe newV kh;dsimp only;cases cq P T<;>rfl)
theorem xe_box {T:Nat} {x:Operand}:xe P k ⟨d,.box T x,ty,pos,aft,g⟩ [] E H K=newV (boxV (ti P T) (ev E [] x)) H (kh K E d k []):=nr (by unfold xe newV kh;dsimp only;cases boxV (ti P T) (ev E [] x)<;>rfl)
theorem zux {T:Nat} {a x:Operand}:xo P k ⟨d,.store T a x,ty,pos,aft,g⟩ [] E H K=xm (ti P T) H (ev E [] a) (ev E [] x) (kh K E d k [] .bad):=nr rfl
def qc (P:Program) (e:Option Nat) (n:Nat) (parts:List (Nat × V)) (H:Heap) (K:V→Heap→Prop):Prop:=match e with|some e=>ct (al P e) (cq P e) n parts H K|none=>False
@[congr] theorem zso {e e':Option Nat} {n:Nat} {a a':List (Nat × V)} {K:V→Heap→Prop} (h0:e=e') (h:a=a'):qc P e n a H K=qc P e' n a' H K:=by rw[h0,h]
theorem zdz {e n:Nat} {a:List (Nat × V)} {K:V→Heap→Prop}:qc P (some e) n a H K=ct (al P e) (cq P e) n a H K:=nr rfl
theorem zar {T n:Nat} {parts:Array (Nat × Operand)}:xo P k ⟨d,.buildSlice T n parts,ty,pos,aft,g⟩ [] E H K=qc P (da P T) n (evp E [] parts.toList) H (kh K E d k []):=nr (by unfold xo qc kh;dsimp only;cases da P T<;>rfl)
theorem zaz {T n:Nat} {parts:Array (Nat × Operand)}:xe P k ⟨d,.buildSlice T n parts,ty,pos,aft,g⟩ [] E H K=qc P (da P T) n (evp E [] parts.toList) H (kh K E d k []):=nr (by unfold xe qc kh;dsimp only;cases da P T<;>rfl)
def zom (z:Option (List V)) (pl:Option (List (Nat × Nat))) (parts:List (Nat × V)):R :=
 match z,pl with
 | some z,some pl=>(match rr (pnth pl) z parts with|some cs=>.ok (.agg cs)|none=>.no)
 | _,_=>.no
theorem zvn {T:Nat} {parts:Array (Nat × Operand)}:xo P k ⟨d,.build T parts,ty,pos,aft,g⟩ p E H K=rk p (zom (cq P T) (dy P T) (evp E p parts.toList)) (kv K E d k p H):=nr (by
 unfold xo zom rk kv;dsimp only
 cases cq P T with
 | none=>cases dy P T<;>rfl
 | some z=>cases dy P T with
   | none=>rfl
   | some pl=>dsimp only;cases rr (pnth pl) z (evp E p parts.toList)<;>rfl)
theorem zjj {b:Builtin} {args:Array Operand} {ts:Array Nat}:xo P k ⟨d,.call ⟨.builtin b,args,ts⟩,ty,pos,aft,g⟩ p E H K=xb P b ts.toList (evs E p args.toList) p H (kh K E d k p):=nr rfl
theorem zyf {f:Operand} {args:Array Operand} {ts:Array Nat}:xo P k ⟨d,.call ⟨.value f,args,ts⟩,ty,pos,aft,g⟩ p E H K=xf P (ev E p f) (evs E p args.toList) p k d E H K:=nr (by
 unfold xo xf;dsimp only
 cases p<;>cases ev E _ f<;>rfl)
theorem zyl {f:Operand} {args:Array Operand} {ts:Array Nat}:xe P k ⟨d,.call ⟨.value f,args,ts⟩,ty,pos,aft,g⟩ p E H K=xfE P (ev E p f) (evs E p args.toList) p k d E H K:=nr (by
 unfold xe xfE;dsimp only
 cases p<;>cases ev E _ f<;>rfl)
def stQ (q:Bool) (K:Prop):Prop:=bif q then K else False
@[congr] theorem stQ_congr {q q':Bool} {K:Prop} (h:q=q'):stQ q K=stQ q' K:=by rw[h]
theorem ztk {K:Prop}:stQ true K=K:=nr rfl
def clX (P:Program) (e:Option Nat) (H:Heap) (x:V) (K:Heap→Prop):Prop :=
 match e with
 | some e=>(match cq P e with
   | some z=>tw (al P e) z H x K
   | none=>False)
 | none=>False
def clB (b:Blk) (e r e' off n:Nat) (z:List V) (H:Heap) (K:Heap→Prop):Prop :=
 match b with
 | .arr e'' n' f=>bif band (Nat.beq e e') (Nat.beq e e'') then Sq (off≤n')∧K (hset H r (.arr e (max n' (off+n)) (over off n (fun _=>z) f))) else False
 | _=>False
@[congr] theorem clX_congr {e e':Option Nat} {a a':V} {K:Heap→Prop} (h:e=e') (h':a=a'):clX P e H a K=clX P e' H a' K:=by rw[h,h']
@[congr] theorem clB_congr {b b':Blk} {e r e' off n:Nat} {z:List V} {K:Heap→Prop} (h:b=b'):clB b e r e' off n z H K=clB b' e r e' off n z H K:=by rw[h]
theorem ziw {e:Nat} {z:List V} {K:Heap→Prop}:tw e z H .nil K=K H:=nr rfl
theorem zjg {e r e' off n:Nat} {nl:Option Bool} {t:Tg} {z:List V} {K:Heap→Prop}:tw e z H (.own nl r e' off n t) K=clB (hget H r) e r e' off n z H K:=nr rfl
theorem z3n {e r e' e'' off n n':Nat} {f:Nat→List V} {z:List V} {K:Heap→Prop}:clB (.arr e'' n' f) e r e' off n z H K=stQ (band (Nat.beq e e') (Nat.beq e e'')) (Sq (off≤n')∧K (hset H r (.arr e (max n' (off+n)) (over off n (fun _=>z) f)))):=nr rfl
def cpX (P:Program) (e:Option Nat) (H:Heap) (d x:V) (K:Nat→Heap→Prop):Prop :=
 match e with
 | some e=>zcw (al P e) H d x K
 | none=>False
def cpV (o:Option ((Nat→Prop) × Nat × (Nat→List V))) (e:Nat) (H:Heap) (d:V) (K:Nat→Heap→Prop):Prop :=
 match o with
 | some (q,m,g)=>(match d with
   | .nil=>Sq (q 0)∧K 0 H
   | .own nl r e' off n t=>(match hget H r with
     | .arr e'' n' f=>bif band (Nat.beq e e') (Nat.beq e e'') then Sq (q (min m n)∧off≤n')∧K (min m n) (hset H r (.arr e (max n' (off+min m n)) (over off (min m n) g f))) else False
     | _=>False)
   | _=>False)
 | none=>False
def cpB (b:Blk) (q:Prop) (m e r e' off n:Nat) (g:Nat→List V) (H:Heap) (K:Nat→Heap→Prop):Prop :=
 match b with
 | .arr e'' n' f=>bif band (Nat.beq e e') (Nat.beq e e'') then Sq (q∧off≤n')∧K (min m n) (hset H r (.arr e (max n' (off+min m n)) (over off (min m n) g f))) else False
 | _=>False
@[congr] theorem cpX_congr {e e':Option Nat} {a a' x x':V} {K:Nat→Heap→Prop} (h:e=e') (h':a=a') (h2:x=x'):cpX P e H a x K=cpX P e' H a' x' K:=by rw[h,h',h2]
@[congr] theorem cpV_congr {o o':Option ((Nat→Prop) × Nat × (Nat→List V))} {e:Nat} {a a':V} {K:Nat→Heap→Prop} (h:o=o') (h':a=a'):cpV o e H a K=cpV o' e H a' K:=by rw[h,h']
@[congr] theorem cpB_congr {b b':Blk} {q:Prop} {m e r e' off n:Nat} {g:Nat→List V} {K:Nat→Heap→Prop} (h:b=b'):cpB b q m e r e' off n g H K=cpB b' q m e r e' off n g H K:=by rw[h]
theorem zve {e:Nat} {d x:V} {K:Nat→Heap→Prop}:zcw e H d x K=cpV (zfg e H x) e H d K:=nr (by unfold zcw cpV;rfl)
theorem z1d {q:Nat→Prop} {m e:Nat} {g:Nat→List V} {K:Nat→Heap→Prop}:cpV (some (q,m,g)) e H .nil K=(Sq (q 0)∧K 0 H):=nr rfl
theorem z2f {q:Nat→Prop} {m e r e' off n:Nat} {nl:Option Bool} {t:Tg} {g:Nat→List V} {K:Nat→Heap→Prop}:cpV (some (q,m,g)) e H (.own nl r e' off n t) K=cpB (hget H r) (q (min m n)) m e r e' off n g H K:=nr rfl
theorem zyp {q:Prop} {m e r e' e'' off n n':Nat} {f g:Nat→List V} {K:Nat→Heap→Prop}:cpB (.arr e'' n' f) q m e r e' off n g H K=stQ (band (Nat.beq e e') (Nat.beq e e'')) (Sq (q∧off≤n')∧K (min m n) (hset H r (.arr e (max n' (off+min m n)) (over off (min m n) g f)))):=nr rfl
def appX (P:Program) (q:Bool) (e:Option Nat) (H:Heap) (s x:V) (K:V→Heap→Prop):Prop :=
 match q,e with
 | true,some e=>(match cq P e with
   | some _=>bif Nat.beq (co P e) 0 then False else kc (al P e) (co P e) H s x K
   | none=>False)
 | _,_=>False
@[congr] theorem appX_congr {q q':Bool} {e e':Option Nat} {a a' x x':V} {K:V→Heap→Prop} (h0:q=q') (h1:e=e') (h2:a=a') (h3:x=x'):appX P q e H a x K=appX P q' e' H a' x' K:=by rw[h0,h1,h2,h3]
def shF (f:Nat→List V) (k:Nat):Nat→List V:=fun i=>f (k+i)
def appY (P:Program) (q q':Bool) (e:Option Nat) (H:Heap) (s x:V) (K:V→Heap→Prop):Prop :=
 match q with
 | true=>appX P true e H s x K
 | false=>(match q',e with
   | true,some e=>(match cq P e with
     | some z=>bif Nat.beq (co P e) 0 then False else ln (al P e) (co P e) z H s x K
     | none=>False)
   | _,_=>False)
@[congr] theorem appY_congr {q q' q2 q2':Bool} {e e':Option Nat} {a a' x x':V} {K:V→Heap→Prop} (h0:q=q') (h4:q2=q2') (h1:e=e') (h2:a=a') (h3:x=x'):appY P q q2 e H a x K=appY P q' q2' e' H a' x' K:=by rw[h0,h1,h2,h3,h4]
theorem zqa {q':Bool} {e:Option Nat} {s x:V} {K:V→Heap→Prop}:appY P true q' e H s x K=appX P true e H s x K:=nr rfl
def appW (o:Option (List V)) (b:Bool) (e bytes:Nat) (H:Heap) (s x:V) (K:V→Heap→Prop):Prop :=
 match o with
 | some z=>(match b with|true=>False|false=>ln e bytes z H s x K)
 | none=>False
@[congr] theorem appW_congr {o o':Option (List V)} {b b':Bool} {e e' y y':Nat} {a a' x x':V} {K:V→Heap→Prop} (h0:o=o') (h1:b=b') (h2:e=e') (h3:y=y') (h4:a=a') (h5:x=x'):appW o b e y H a x K=appW o' b' e' y' H a' x' K:=by rw[h0,h1,h2,h3,h4,h5]
theorem zjp {e:Nat} {s x:V} {K:V→Heap→Prop}:appY P false true (some e) H s x K=appW (cq P e) (Nat.beq (co P e) 0) (al P e) (co P e) H s x K:=nr (by
 unfold appY appW;dsimp only
 cases cq P e<;>cases Nat.beq (co P e) 0<;>rfl)
theorem zps {z:List V} {e y:Nat} {s x:V} {K:V→Heap→Prop}:appW (some z) false e y H s x K=ln e y z H s x K:=nr rfl
def azB (b:Blk) (nl:Option Bool) (e e' off n C y:Nat) (z:List V) (k:Int) (H:Heap) (K:V→Heap→Prop):Prop :=
 match b with
 | .arr e'' n' f=>bif band (Nat.beq e e') (Nat.beq e e'') then
   Sq (0≤k∧off+n≤n'∧C<n+k.toNat∧(n+k.toNat)*y≤140737488355328) ∧
   K (.own (napp nl k.toNat) (hlen H) e 0 (n+k.toNat) .loose) (hadd H (.arr e (n+k.toNat) (join n (shF f off) fun _=>z))) else False
 | _=>False
@[congr] theorem azB_congr {b b':Blk} {nl:Option Bool} {e e' off n C y:Nat} {z:List V} {k:Int} {K:V→Heap→Prop} (h:b=b'):azB b nl e e' off n C y z k H K=azB b' nl e e' off n C y z k H K:=by rw[h]
@[congr] theorem zwk {e y:Nat} {z:List V} {a a' x x':V} {K:V→Heap→Prop} (h4:a=a') (h5:x=x'):ln e y z H a x K=ln e y z H a' x' K:=by rw[h4,h5]
theorem zej {e y r e' off n C:Nat} {nl:Option Bool} {z:List V} {kk:IntKind} {k:Int} {K:V→Heap→Prop}:ln e y z H (.own nl r e' off n (.exact C)) (.int kk k) K=azB (hget H r) nl e e' off n C y z k H K:=nr (by
 unfold ln azB;rfl)
theorem zyr {e e' e'' n' off n C y:Nat} {f:Nat→List V} {nl:Option Bool} {z:List V} {k:Int} {K:V→Heap→Prop}:azB (.arr e'' n' f) nl e e' off n C y z k H K=stQ (band (Nat.beq e e') (Nat.beq e e'')) (Sq (0≤k∧off+n≤n'∧C<n+k.toNat∧(n+k.toNat)*y≤140737488355328) ∧
   K (.own (napp nl k.toNat) (hlen H) e 0 (n+k.toNat) .loose) (hadd H (.arr e (n+k.toNat) (join n (shF f off) fun _=>z)))):=nr rfl
theorem zob {t u:Nat} {s x:V} {K:V→Heap→Prop}:xb P .append [t,u] [s,x] [] H K=appY P (Nat.beq t u) (tint P u) (da P t) H s x K:=nr (by
 unfold xb appY appX;dsimp only
 cases Nat.beq t u<;>cases tint P u<;>cases da P t<;>rfl)
def mapB (o:Option Nat) (b:Blk) (K:List (List UInt8 × V)→Prop):Prop:=match o,b with|some _,.mp es=>K es|_,_=>False
@[congr] theorem mapB_congr {o o':Option Nat} {b b':Blk} {K:List (List UInt8 × V)→Prop} (h:o=o') (h':b=b'):mapB o b K=mapB o' b' K:=by rw[h,h']
theorem znp {e:Nat} {es:List (List UInt8 × V)} {K:List (List UInt8 × V)→Prop}:mapB (some e) (.mp es) K=K es:=nr rfl
def mapU (o:Option Nat) (m x y:V) (H:Heap) (K:Heap→Prop):Prop :=
 match m,x with
 | .mp r,.str s=>mapB o (hget H r) fun es=>K (hset H r (.mp (mSet es s y)))
 | _,_=>False
@[congr] theorem mapU_congr {o o':Option Nat} {m m' x x' y y':V} {K:Heap→Prop} (h:o=o') (h1:m=m') (h2:x=x') (h3:y=y'):mapU o m x y H K=mapU o' m' x' y' H K:=by rw[h,h1,h2,h3]
theorem z1l {o:Option Nat} {r:Nat} {s:List UInt8} {y:V} {K:Heap→Prop}:mapU o (.mp r) (.str s) y H K=mapB o (hget H r) fun es=>K (hset H r (.mp (mSet es s y))):=nr rfl
theorem zjw {T:Nat}:xo P k ⟨d,.makeMap T none,ty,pos,aft,g⟩ [] E H K=kh K E d k [] (.mp (hlen H)) (hadd H (.mp [])):=nr rfl
theorem zbq {T:Nat} {m x y:Operand}:xo P k ⟨d,.mapUpdate T m x y,ty,pos,aft,g⟩ [] E H K=mapU (tmap P T) (ev E [] m) (ev E [] x) (ev E [] y) H (kh K E d k [] .bad):=nr (by
 unfold xo mapU mapB kh;dsimp only
 cases tmap P T<;>cases ev E [] m<;>cases ev E [] x<;>first|rfl|(rename_i r s;dsimp only;generalize hget H r=bb;cases bb<;>rfl))
theorem zlh {T:Nat} {m x y:Operand}:xo P k ⟨d,.insert T m x y,ty,pos,aft,g⟩ [] E H K=mapU (tmap P T) (ev E [] m) (ev E [] x) (ev E [] y) H (kh K E d k [] .bad):=nr (by
 unfold xo mapU mapB kh;dsimp only
 cases tmap P T<;>cases ev E [] m<;>cases ev E [] x<;>first|rfl|(rename_i r s;dsimp only;generalize hget H r=bb;cases bb<;>rfl))
def mapL (o:Option V) (m x:V) (b:Bool) (H:Heap):R :=
 match o,m,x with
 | some z,.mp r,.str s=>(match hget H r with | .mp es=>.ok (zbz b z es s)|_=>.no)
 | _,_,_=>.no
def mapZ (P:Program) (o:Option Nat):Option V:=match o with|some e=>tzv P e|none=>none
theorem zoy {e:Nat}:mapZ P (some e)=tzv P e:=nq rfl
def mapR (b:Blk) (z:V) (c:Bool) (s:List UInt8):R:=match b with | .mp es=>.ok (zbz c z es s)|_=>.no
theorem zzo {z:V} {r:Nat} {s:List UInt8} {b:Bool}:mapL (some z) (.mp r) (.str s) b H=mapR (hget H r) z b s:=nq rfl
theorem zzh {es:List (List UInt8 × V)} {z:V} {c:Bool} {s:List UInt8}:mapR (.mp es) z c s = .ok (zbz c z es s):=nq rfl
theorem zos {T:Nat} {m x:Operand} {b:Bool}:xo P k ⟨d,.lookup T m x b,ty,pos,aft,g⟩ p E H K=rk p (mapL (mapZ P (tmap P T)) (ev E p m) (ev E p x) b H) (kv K E d k p H):=nr (by
 unfold xo mapL mapZ rk kv;dsimp only
 cases tmap P T with
 | none=>rfl
 | some e =>
   dsimp only
   cases ev E p m<;>cases ev E p x<;>(try (cases tzv P e<;>rfl))
   rename_i r s
   dsimp only
   cases tzv P e with
   | none=>cases hget H r<;>rfl
   | some z=>dsimp only;cases hget H r<;>rfl)
theorem zop {t u:Nat} {r:Nat} {s:List UInt8} {K:V→Heap→Prop}:xb P .delete [t,u] [.mp r,.str s] [] H K=mapB (tmap P t) (hget H r) fun es=>K (.tup []) (hset H r (.mp (mDel es s))):=nr (by
 unfold xb mapB;dsimp only
 cases tmap P t<;>cases hget H r<;>rfl)
theorem zor {t u:Nat} {a b:Operand}:xe P k ⟨d,.call ⟨.builtin .append,#[a,b],#[t,u]⟩,ty,pos,aft,g⟩ [] E H K=appX P (band (zew (ev E [] a)) (Nat.beq t u)) (da P t) H (ev E [] a) (ev E [] b) (kh K E d k []):=nr (by
 unfold xe appX kh;dsimp only [evs]
 show (bif band (zew (ev E [] a)) (Nat.beq t u) then _ else False)=_
 cases band (zew (ev E [] a)) (Nat.beq t u)<;>cases da P t<;>rfl)
theorem xb_len {t:Nat} {x:V} {K:V→Heap→Prop}:xb P .len [t] [x] p H K=rk p (lenV (bp P t) (tmap P t) H x) fun v=>K v H:=nr rfl
theorem ztp {T:TK} {o:Option Nat} {s:List UInt8}:lenV T o H (.str s)=vlen T (.str s):=nq rfl
theorem zvy {T:TK} {o:Option Nat} {nl:Option Bool} {t:Tg} {e n:Nat} {f:Nat→List V}:lenV T o H (.lst nl t e n f)=vlen T (.lst nl t e n f):=nq rfl
theorem zrq {T:TK} {o:Option Nat} {nl:Option Bool} {t:Tg} {r e off n:Nat}:lenV T o H (.own nl r e off n t)=vlen T (.own nl r e off n t):=nq rfl
theorem zwj {T:TK} {o:Option Nat}:lenV T o H .nil=vlen T .nil:=nq rfl
def lenM (o:Option Nat) (b:Blk):R:=match o,b with|some _,.mp es=>.ok (.int .i64 (es.length:Int))|_,_=>.no
theorem z0m {T:TK} {o:Option Nat} {r:Nat}:lenV T o H (.mp r)=lenM o (hget H r):=nq rfl
theorem zyy {e:Nat} {es:List (List UInt8 × V)}:lenM (some e) (.mp es) = .ok (.int .i64 (es.length:Int)):=nq rfl
theorem xb_cap {t:Nat} {x:V} {K:V→Heap→Prop}:xb P .cap [t] [x] p H K=rk p (capV (bp P t) x) fun v=>K v H:=nr rfl
theorem zwu {t:Nat} {x:V} {K:V→Heap→Prop}:xb P .clear [t] [x] [] H K=clX P (da P t) H x (K (.tup [])):=nr (by
 unfold xb clX;dsimp only
 cases da P t<;>rfl)
theorem z1m {t u:Nat} {d x:V} {K:V→Heap→Prop}:xb P .copy [t,u] [d,x] [] H K=cpX P (da P t) H d x fun k H=>K (.int .i64 (k:Int)) H:=nr (by
 unfold xb cpX;dsimp only
 cases da P t<;>rfl)
theorem xb_max {ts:List Nat} {x y:V} {K:V→Heap→Prop}:xb P .max ts [x,y] p H K=rk p (maxV x y) fun v=>K v H:=nr (by unfold xb;rfl)
theorem xb_min {ts:List Nat} {x y:V} {K:V→Heap→Prop}:xb P .min ts [x,y] p H K=rk p (minV x y) fun v=>K v H:=nr (by unfold xb;rfl)
theorem zug {b:Bool} {K:V→Prop}:rkv p (.ok (.bool b)) K = ∀ x,x=b→K (.bool x):=nr rfl
theorem z0t {n:Int} {k:IntKind} {K:V→Prop}:rkv p (.ok (.int k n)) K = ∀ x,x=n→K (.int k x):=nr rfl
theorem z3x {s:List UInt8} {K:V→Prop}:rkv p (.ok (.str s)) K=K (.str s):=nr rfl
theorem zzb {K:V→Prop}:rkv p (.ok .bad) K=K .bad:=nr rfl
theorem z2d {q:Prop} {v:V} {K:V→Prop}:rkv p (.chk q v) K=(Sd p q∧rv v K):=nr rfl
theorem z2i {b:Bool} {K:V→Prop}:rv (.bool b) K = ∀ x,x=b→K (.bool x):=nr rfl
theorem rv_int {n:Int} {k:IntKind} {K:V→Prop}:rv (.int k n) K = ∀ x,x=n→K (.int k x):=nr rfl
theorem rv_str {s:List UInt8} {K:V→Prop}:rv (.str s) K=K (.str s):=nr rfl
theorem rk_ok {v:V} {K:V→Prop}:rk p (.ok v) K=K v:=nr rfl
theorem rk_chk {q:Prop} {v:V} {K:V→Prop}:rk p (.chk q v) K=(Sd p q∧K v):=nr rfl
theorem kv_eq {v:V}:kv K E d k p H v=K (put E d (k+1) p v) H:=nr rfl
theorem kh_eq {v:V}:kh K E d k p v H=K (put E d (k+1) p v) H:=nr rfl
theorem kp_eq {v:V}:kp K E d k p v H=K (put E d (k+1) p v) H:=nr rfl
theorem kq_eq {v:V}:kq K E d k p H v=K (put E d (k+1) p v) H:=nr rfl
end
def stF (f:Nat→List V) (i off:Nat) (vs:List V):Nat→List V:=fun j=>bif Nat.beq j i then spl (f j) off vs else f j
def mpF (g:List V→List V) (f:Nat→List V):Nat→List V:=fun i=>g (f i)
section
variable {P:Program} {H:Heap} {p:Path}
def stX (o:Option (List V)) (H:Heap) (a:V) (K:Heap→Prop):Prop :=
 match o with
 | some vs=>(match a with
   | .ptr r off=>(match hget H r with
     | .box cs=>bif Nat.ble (off+len vs) (len cs) then K (hset H r (.box (spl cs off vs))) else False
     | _=>False)
   | .eptr r e i off=>(match hget H r with
     | .arr e' n f=>bif band (Nat.beq e e') (Nat.ble (off+len vs) e) then Sq (i<n)∧K (hset H r (.arr e n fun j=>bif Nat.beq j i then spl (f j) off vs else f j)) else False
     | _=>False)
   | _=>False)
 | none=>False
@[congr] theorem stX_congr {o o':Option (List V)} {a a':V} {K:Heap→Prop} (h:o=o') (h':a=a'):stX o H a K=stX o' H a' K:=by rw[h,h']
theorem zmo {T:TI} {a x:V} {K:Heap→Prop}:xm T H a x K=stX (boxV T x) H a K:=nr rfl
def stP (vs:List V) (b:Blk) (off:Nat) (r:Nat) (H:Heap) (K:Heap→Prop):Prop :=
 match b with
 | .box cs=>bif Nat.ble (off+len vs) (len cs) then K (hset H r (.box (spl cs off vs))) else False
 | _=>False
@[congr] theorem stP_congr {vs:List V} {b b':Blk} {off r:Nat} {K:Heap→Prop} (h:b=b'):stP vs b off r H K=stP vs b' off r H K:=by rw[h]
theorem zzr {vs:List V} {r off:Nat} {K:Heap→Prop}:stX (some vs) H (.ptr r off) K=stP vs (hget H r) off r H K:=nr rfl
theorem z2m {vs cs:List V} {r off:Nat} {K:Heap→Prop}:stP vs (.box cs) off r H K=stQ (Nat.ble (off+len vs) (len cs)) (K (hset H r (.box (spl cs off vs)))):=nr rfl
def stE (vs:List V) (b:Blk) (r e i off:Nat) (H:Heap) (K:Heap→Prop):Prop :=
 match b with
 | .arr e' n f=>bif band (Nat.beq e e') (Nat.ble (off+len vs) e) then Sq (i<n)∧K (hset H r (.arr e n (stF f i off vs))) else False
 | _=>False
@[congr] theorem stE_congr {vs:List V} {b b':Blk} {r e i off:Nat} {K:Heap→Prop} (h:b=b'):stE vs b r e i off H K=stE vs b' r e i off H K:=by rw[h]
theorem zwi {vs:List V} {r e i off:Nat} {K:Heap→Prop}:stX (some vs) H (.eptr r e i off) K=stE vs (hget H r) r e i off H K:=nr rfl
theorem z1y {vs:List V} {r e e' n i off:Nat} {f:Nat→List V} {K:Heap→Prop}:stE vs (.arr e' n f) r e i off H K=stQ (band (Nat.beq e e') (Nat.ble (off+len vs) e)) (Sq (i<n)∧K (hset H r (.arr e n (stF f i off vs)))):=nr rfl
def z0z (e e' off n:Nat) (b:Blk):Option (Prop × Nat × (Nat→List V)) :=
 match b with
 | .arr e'' m f=>bif band (Nat.beq e e') (Nat.beq e e'') then some (off+n≤m,n,shF f off) else none
 | _=>none
def viewD (e e' off n:Nat) (b:Blk):Option ((Nat→Prop) × Nat × (Nat→List V)) :=
 match b with
 | .arr e'' m f=>bif band (Nat.beq e e') (Nat.beq e e'') then some (fun k=>off+k≤m,n,shF f off) else none
 | _=>none
theorem zly {e:Nat}:zfg e H .nil=some (fun _=>True,0,fun _=>[]):=nq rfl
theorem zlv {e e' n:Nat} {nl:Option Bool} {t:Tg} {f:Nat→List V}:zfg e H (.lst nl t e' n f)=bif Nat.beq e e' then some (fun _=>True,n,f) else none:=nq rfl
theorem zqq {e e' n r off:Nat} {nl:Option Bool} {t:Tg}:zfg e H (.own nl r e' off n t)=viewD e e' off n (hget H r):=nq rfl
theorem zow {e e' e'' off n m:Nat} {f:Nat→List V}:viewD e e' off n (.arr e'' m f)=bif band (Nat.beq e e') (Nat.beq e e'') then some (fun k=>off+k≤m,n,shF f off) else none:=nq rfl
theorem zvg {e:Nat}:view e H .nil=some (True,0,fun _=>[]):=nq rfl
theorem ztb {e e' n:Nat} {nl:Option Bool} {t:Tg} {f:Nat→List V}:view e H (.lst nl t e' n f)=bif Nat.beq e e' then some (True,n,f) else none:=nq rfl
theorem zwd {e e' n r off:Nat} {nl:Option Bool} {t:Tg}:view e H (.own nl r e' off n t)=z0z e e' off n (hget H r):=nq rfl
def apV (o:Option (Prop × Nat × (Nat→List V))) (e bytes:Nat) (H:Heap) (s:V) (K:V→Heap→Prop):Prop :=
 match o with
 | some (q,m,g)=>(match s with
   | .nil=>Sq (q∧m*bytes≤140737488355328)∧K (.own (napp (some true) m) (hlen H) e 0 m .loose) (hadd H (.arr e m g))
   | .lst nl (.cut b) e' n f=>bif Nat.beq e e' then
     Sq (q∧b=true∧(n=0∨0<m)∧(n+m)*bytes≤140737488355328)∧K (.own (napp nl m) (hlen H) e 0 (n+m) .loose) (hadd H (.arr e (n+m) (join n f g))) else False
   | .own nl r e' off n (.cut b)=>(match view e H s with
     | some (q',_,f)=>Sq (q∧q'∧b=true∧(n=0∨0<m)∧(n+m)*bytes≤140737488355328)∧K (.own (napp nl m) (hlen H) e 0 (n+m) .loose) (hadd H (.arr e (n+m) (join n f g)))
     | none=>False)
   | .own nl r e' off n .loose=>(match hget H r with
     | .arr e'' n' f=>bif band (Nat.beq e e') (Nat.beq e e'') then
       Sq (q∧off=0∧n=n'∧(n+m)*bytes≤140737488355328)∧K (.own (napp nl m) (hlen H) e 0 (n+m) .loose) (hadd (hset H r .dead) (.arr e (n+m) (join n f g))) else False
     | _=>False)
   | .own nl r e' off n (.exact C)=>(match hget H r with
     | .arr e'' n' f=>bif band (Nat.beq e e') (Nat.beq e e'') then
       Sq (q∧off+n≤n'∧(n+m)*bytes≤140737488355328) ∧
       (n+m≤C→K (.own nl r e off (n+m) (.exact C)) (hset H r (.arr e (max n' (off+n+m)) (over (off+n) m g f)))) ∧
       (C<n+m→K (.own (napp nl m) (hlen H) e 0 (n+m) .loose) (hadd H (.arr e (n+m) (join n (fun i=>f (off+i)) g)))) else False
     | _=>False)
   | _=>False)
 | none=>False
theorem zjx {e bytes:Nat} {s x:V} {K:V→Heap→Prop}:kc e bytes H s x K=apV (view e H x) e bytes H s K:=nr (by
 unfold kc apV;rfl)
@[congr] theorem apV_congr {o o':Option (Prop × Nat × (Nat→List V))} {e bytes:Nat} {s:V} {K:V→Heap→Prop} (h:o=o'):apV o e bytes H s K=apV o' e bytes H s K:=by rw[h]
theorem z4a {q:Prop} {m e bytes:Nat} {g:Nat→List V} {K:V→Heap→Prop}:apV (some (q,m,g)) e bytes H .nil K=(Sq (q∧m*bytes≤140737488355328)∧K (.own (napp (some true) m) (hlen H) e 0 m .loose) (hadd H (.arr e m g))):=nr rfl
theorem z0y {q:Prop} {m e e' n bytes:Nat} {nl:Option Bool} {b:Bool} {f g:Nat→List V} {K:V→Heap→Prop}:apV (some (q,m,g)) e bytes H (.lst nl (.cut b) e' n f) K=stQ (Nat.beq e e') (Sq (q∧b=true∧(n=0∨0<m)∧(n+m)*bytes≤140737488355328)∧K (.own (napp nl m) (hlen H) e 0 (n+m) .loose) (hadd H (.arr e (n+m) (join n f g)))):=nr rfl
def apC (o:Option (Prop × Nat × (Nat→List V))) (q:Prop) (m n e bytes:Nat) (nl:Option Bool) (b:Bool) (g:Nat→List V) (H:Heap) (K:V→Heap→Prop):Prop :=
 match o with
 | some (q',_,f)=>Sq (q∧q'∧b=true∧(n=0∨0<m)∧(n+m)*bytes≤140737488355328)∧K (.own (napp nl m) (hlen H) e 0 (n+m) .loose) (hadd H (.arr e (n+m) (join n f g)))
 | none=>False
@[congr] theorem apC_congr {o o':Option (Prop × Nat × (Nat→List V))} {q:Prop} {m n e bytes:Nat} {nl:Option Bool} {b:Bool} {g:Nat→List V} {K:V→Heap→Prop} (h:o=o'):apC o q m n e bytes nl b g H K=apC o' q m n e bytes nl b g H K:=by rw[h]
theorem zsw {q q':Prop} {n' m n e bytes:Nat} {nl:Option Bool} {b:Bool} {f g:Nat→List V} {K:V→Heap→Prop}:apC (some (q',n',f)) q m n e bytes nl b g H K=(Sq (q∧q'∧b=true∧(n=0∨0<m)∧(n+m)*bytes≤140737488355328)∧K (.own (napp nl m) (hlen H) e 0 (n+m) .loose) (hadd H (.arr e (n+m) (join n f g)))):=nr rfl
theorem z0g {q:Prop} {m e e' n r off bytes:Nat} {nl:Option Bool} {b:Bool} {g:Nat→List V} {K:V→Heap→Prop}:apV (some (q,m,g)) e bytes H (.own nl r e' off n (.cut b)) K=apC (z0z e e' off n (hget H r)) q m n e bytes nl b g H K:=nr rfl
def apL (b:Blk) (q:Prop) (m n r e e' off bytes:Nat) (nl:Option Bool) (g:Nat→List V) (H:Heap) (K:V→Heap→Prop):Prop :=
 match b with
 | .arr e'' n' f=>bif band (Nat.beq e e') (Nat.beq e e'') then
    Sq (q∧off=0∧n=n'∧(n+m)*bytes≤140737488355328)∧K (.own (napp nl m) (hlen H) e 0 (n+m) .loose) (hadd (hset H r .dead) (.arr e (n+m) (join n f g))) else False
 | _=>False
@[congr] theorem apL_congr {b b':Blk} {q:Prop} {m n r e e' off bytes:Nat} {nl:Option Bool} {g:Nat→List V} {K:V→Heap→Prop} (h:b=b'):apL b q m n r e e' off bytes nl g H K=apL b' q m n r e e' off bytes nl g H K:=by rw[h]
theorem zyx {q:Prop} {m n n' r e e' e'' off bytes:Nat} {nl:Option Bool} {f g:Nat→List V} {K:V→Heap→Prop}:apL (.arr e'' n' f) q m n r e e' off bytes nl g H K=stQ (band (Nat.beq e e') (Nat.beq e e'')) (Sq (q∧off=0∧n=n'∧(n+m)*bytes≤140737488355328)∧K (.own (napp nl m) (hlen H) e 0 (n+m) .loose) (hadd (hset H r .dead) (.arr e (n+m) (join n f g)))):=nr rfl
theorem zoi {q:Prop} {m e e' n r off bytes:Nat} {nl:Option Bool} {g:Nat→List V} {K:V→Heap→Prop}:apV (some (q,m,g)) e bytes H (.own nl r e' off n .loose) K=apL (hget H r) q m n r e e' off bytes nl g H K:=nr rfl
def apE (b:Blk) (q:Prop) (m n r e e' off C bytes:Nat) (nl:Option Bool) (g:Nat→List V) (H:Heap) (K:V→Heap→Prop):Prop :=
 match b with
 | .arr e'' n' f=>bif band (Nat.beq e e') (Nat.beq e e'') then
    Sq (q∧off+n≤n'∧(n+m)*bytes≤140737488355328) ∧
    (n+m≤C→K (.own nl r e off (n+m) (.exact C)) (hset H r (.arr e (max n' (off+n+m)) (over (off+n) m g f)))) ∧
    (C<n+m→K (.own (napp nl m) (hlen H) e 0 (n+m) .loose) (hadd H (.arr e (n+m) (join n (fun i=>f (off+i)) g)))) else False
 | _=>False
@[congr] theorem apE_congr {b b':Blk} {q:Prop} {m n r e e' off C bytes:Nat} {nl:Option Bool} {g:Nat→List V} {K:V→Heap→Prop} (h:b=b'):apE b q m n r e e' off C bytes nl g H K=apE b' q m n r e e' off C bytes nl g H K:=by rw[h]
theorem z0b {q:Prop} {m n n' r e e' e'' off C bytes:Nat} {nl:Option Bool} {f g:Nat→List V} {K:V→Heap→Prop}:apE (.arr e'' n' f) q m n r e e' off C bytes nl g H K=stQ (band (Nat.beq e e') (Nat.beq e e'')) (Sq (q∧off+n≤n'∧(n+m)*bytes≤140737488355328) ∧
    (n+m≤C→K (.own nl r e off (n+m) (.exact C)) (hset H r (.arr e (max n' (off+n+m)) (over (off+n) m g f)))) ∧
    (C<n+m→K (.own (napp nl m) (hlen H) e 0 (n+m) .loose) (hadd H (.arr e (n+m) (join n (shF f off) g))))):=nr rfl
theorem zmf {q:Prop} {m e e' n r off C bytes:Nat} {nl:Option Bool} {g:Nat→List V} {K:V→Heap→Prop}:apV (some (q,m,g)) e bytes H (.own nl r e' off n (.exact C)) K=apE (hget H r) q m n r e e' off C bytes nl g H K:=nr rfl
def bsX (o:Option (List V)) (e n:Nat) (H:Heap) (K:V→Heap→Prop):Prop :=
 match o with
 | some cs=>bif Nat.ble (n*e) 16777216 then K (.own (some false) (hlen H) e 0 n (bif Nat.beq n 0 then .cut true else .exact n)) (hadd H (.arr e n (mb e n cs))) else False
 | none=>False
def z2b (z:Option (List V)) (e n:Nat) (parts:List (Nat × V)):Option (List V) :=
 match z with
 | some z=>rr (fun i=>some (i*e,e)) (rep n z) parts
 | none=>none
@[congr] theorem bsX_congr {o o':Option (List V)} {e n:Nat} {K:V→Heap→Prop} (h:o=o'):bsX o e n H K=bsX o' e n H K:=by rw[h]
theorem zvo {cs:List V} {e n:Nat} {K:V→Heap→Prop}:bsX (some cs) e n H K=stQ (Nat.ble (n*e) 16777216) (K (.own (some false) (hlen H) e 0 n (bif Nat.beq n 0 then .cut true else .exact n)) (hadd H (.arr e n (mb e n cs)))):=nr rfl
theorem xx {e n:Nat} {z:Option (List V)} {parts:List (Nat × V)} {K:V→Heap→Prop}:ct e z n parts H K=bsX (z2b z e n parts) e n H K:=nr (by
 unfold ct bsX z2b
 cases z with
 | none=>rfl
 | some z=>rfl)
def slL (c:Cut) (nl:Option Bool) (e:Nat) (f:Nat→List V):R:=match c with | .cut l h t q=>.chk q (.lst nl t e (h-l) (shF f l)) | .no=>.no
def slO (c:Cut) (nl:Option Bool) (r e off:Nat):R:=match c with | .cut l h t q=>.chk q (.own nl r e (off+l) (h-l) t) | .no=>.no
theorem zir {e:Nat} {s:List UInt8} {lo hi:Option V}:pj .str e (.str s) lo hi none=yl s lo hi:=nq rfl
theorem zjc {e e' n:Nat} {nl:Option Bool} {t:Tg} {f:Nat→List V} {lo hi mx:Option V}:pj .slice (e+1) (.lst nl t e' n f) lo hi mx=bif Nat.beq (e+1) e' then slL (cutV n n (unx t) lo hi mx) nl (e+1) f else .no:=nq (by
 unfold pj slL;rfl)
theorem zkn {e e' n r off:Nat} {nl:Option Bool} {t:Tg} {lo hi mx:Option V}:pj .slice (e+1) (.own nl r e' off n t) lo hi mx=bif Nat.beq (e+1) e' then slO (cutV n (cpT t n) t lo hi mx) nl r (e+1) off else .no:=nq (by
 unfold pj slO;rfl)
def frO (g:List V→List V) (nl:Option Bool) (t:Tg) (e off n:Nat) (b:Blk):V:=match b with | .arr e' m f=>bif Nat.beq e e' then .lst nl t e n (mpF g (shF f off)) else .bad|_=>.bad
theorem z0u {top:Bool} {g:List V→List V} {σ:List Nat} {nl:Option Bool} {r e off n:Nat} {t:Tg}:frW top g σ H (.own nl r e off n t)=match idx σ r with|some i=>(match top with|true=>.own nl i e off n t|false=>.bad)|none=>frO g nl t e off n (hget H r):=nq (by
 simp only[frW];cases idx σ r<;>rfl)
theorem z1i {top:Bool} {g:List V→List V} {σ:List Nat} {e n:Nat} {f:Nat→List V}:frB top g σ H (.arr e n f) = .arr e n (mpF (frWs top g σ H) f):=nq rfl
theorem zzy {g:Nat→Option Nat} {e n:Nat} {f:Nat→List V}:rnB g (.arr e n f) = .arr e n (mpF (rnVs g) f):=nq rfl
theorem zwr {g:Nat→Option Nat}:rnB g .dead = .dead:=nq rfl
theorem zzu {g:Nat→Option Nat} {cs:List V}:rnB g (.box cs) = .box (rnVs g cs):=nq rfl
theorem z1x {top:Bool} {g:List V→List V} {σ:List Nat} {cs:List V}:frB top g σ H (.box cs) = .box (frWs top g σ H cs):=nq rfl
theorem zwv {top:Bool} {g:List V→List V} {σ:List Nat}:frB top g σ H .dead = .dead:=nq rfl
end
mutual
theorem zxd {top:Bool} {g:List V→List V} {σ:List Nat} {H:Heap}:∀ v:V,ltr 0 v=true→frW top g σ H v=v
 | .bool _,_ | .int _ _,_ | .str _,_ | .nil,_ | .bad,_ | .lst _ _ _ _ _,_ | .iptr _ _,_=>by simp only[frW]
 | .agg cs,h=>by simp only[frW,oy cs (by simpa [ltr] using h)]
 | .tup cs,h=>by simp only[frW,oy cs (by simpa [ltr] using h)]
 | .fn f a b,h=>by
   simp only[ltr] at h
   simp only[frW,oy a (ax h).1,oy b (ax h).2]
 | .own _ r _ _ _ _,h | .ptr r _,h | .mp r,h | .eptr r _ _ _,h=>by simp[ltr,Nat.blt] at h
theorem oy {top:Bool} {g:List V→List V} {σ:List Nat} {H:Heap}:∀ vs:List V,ltrs 0 vs=true→frWs top g σ H vs=vs
 | [],_=>by simp only[frWs]
 | v::vs,h=>by
   simp only[ltrs] at h
   simp only[frWs,zxd v (ax h).1,oy vs (ax h).2]
end
mutual
theorem zxi {g:List V→Prop} {σ:List Nat} {H:Heap}:∀ v:V,ltr 0 v=true→okW g σ H v
 | .bool _,_ | .int _ _,_ | .str _,_ | .nil,_ | .bad,_ | .lst _ _ _ _ _,_ | .iptr _ _,_=>by simp only[okW]
 | .agg cs,h=>by simp only[okW];exact kf cs (by simpa [ltr] using h)
 | .tup cs,h=>by simp only[okW];exact kf cs (by simpa [ltr] using h)
 | .fn f a b,h=>by
   simp only[ltr] at h
   simp only[okW];exact⟨kf a (ax h).1,kf b (ax h).2⟩
 | .own _ r _ _ _ _,h | .ptr r _,h | .mp r,h | .eptr r _ _ _,h=>by simp[ltr,Nat.blt] at h
theorem kf {g:List V→Prop} {σ:List Nat} {H:Heap}:∀ vs:List V,ltrs 0 vs=true→okWs g σ H vs
 | [],_=>by simp only[okWs]
 | v::vs,h=>by
   simp only[ltrs] at h
   simp only[okWs];exact⟨zxi v (ax h).1,kf vs (ax h).2⟩
end
mutual
theorem zxp {n:Nat}:∀ v:V,ltr 0 v=true→shV n v=v
 | .bool _,_ | .int _ _,_ | .str _,_ | .nil,_ | .bad,_ | .lst _ _ _ _ _,_ | .iptr _ _,_=>by simp only[shV]
 | .agg cs,h=>by simp only[shV,qm cs (by simpa [ltr] using h)]
 | .tup cs,h=>by simp only[shV,qm cs (by simpa [ltr] using h)]
 | .fn f a b,h=>by
   simp only[ltr] at h
   simp only[shV,qm a (ax h).1,qm b (ax h).2]
 | .own _ r _ _ _ _,h | .ptr r _,h | .mp r,h | .eptr r _ _ _,h=>by simp[ltr,Nat.blt] at h
theorem qm {n:Nat}:∀ vs:List V,ltrs 0 vs=true→shVs n vs=vs
 | [],_=>by simp only[shVs]
 | v::vs,h=>by
   simp only[ltrs] at h
   simp only[shVs,zxp v (ax h).1,qm vs (ax h).2]
end
theorem z2h {n:Nat}:shH n []=[]:=nq rfl
theorem z1g {n:Nat} {cs:List V} {H:Heap}:shH n (.box cs::H) = .box (shVs n cs)::shH n H:=nq rfl
theorem z2c {n e m:Nat} {f:Nat→List V} {H:Heap}:shH n (.arr e m f::H) = .arr e m (mpF (shVs n) f)::shH n H:=nq rfl
theorem zxb {n:Nat} {H:Heap}:shH n (.dead::H) = .dead::shH n H:=nq rfl
mutual
theorem zxe {g:Nat→Option Nat}:∀ v:V,ltr 0 v=true→rnV g v=v
 | .bool _,_ | .int _ _,_ | .str _,_ | .nil,_ | .bad,_ | .lst _ _ _ _ _,_ | .iptr _ _,_=>by simp only[rnV]
 | .agg cs,h=>by simp only[rnV,ej cs (by simpa [ltr] using h)]
 | .tup cs,h=>by simp only[rnV,ej cs (by simpa [ltr] using h)]
 | .fn f a b,h=>by
   simp only[ltr] at h
   simp only[rnV,ej a (ax h).1,ej b (ax h).2]
 | .own _ r _ _ _ _,h | .ptr r _,h | .mp r,h | .eptr r _ _ _,h=>by simp[ltr,Nat.blt] at h
theorem ej {g:Nat→Option Nat}:∀ vs:List V,ltrs 0 vs=true→rnVs g vs=vs
 | [],_=>by simp only[rnVs]
 | v::vs,h=>by
   simp only[ltrs] at h
   simp only[rnVs,zxe v (ax h).1,ej vs (ax h).2]
end
mutual
theorem zra {n:Nat}:∀ v:V,ltr 0 v=true→ltr n v=true
 | .bool _,_ | .int _ _,_ | .str _,_ | .nil,_ | .bad,_ | .lst _ _ _ _ _,_ | .iptr _ _,_=>by simp only[ltr]
 | .agg cs,h=>by simp only[ltr];exact ku cs (by simpa [ltr] using h)
 | .tup cs,h=>by simp only[ltr];exact ku cs (by simpa [ltr] using h)
 | .fn f a b,h=>by
   simp only[ltr] at h ⊢
   rw[ku a (ax h).1,ku b (ax h).2];rfl
 | .own _ r _ _ _ _,h | .ptr r _,h | .mp r,h | .eptr r _ _ _,h=>by simp[ltr,Nat.blt] at h
theorem ku {n:Nat}:∀ vs:List V,ltrs 0 vs=true→ltrs n vs=true
 | [],_=>by simp only[ltrs]
 | v::vs,h=>by
   simp only[ltrs] at h ⊢
   rw[zra v (ax h).1,ku vs (ax h).2];rfl
end
theorem zwh {n:Nat} {vs:List V} (h:ltrs 0 vs=true):ltrs (n+1) vs=true:=ku vs h
theorem zyj {α:Type} {enc:α→List V} {d:α} {l:List α} (h:∀ x,ltrs 0 (enc x)=true) {n i:Nat}:ltrs n (En enc d l i)=true:=ku _ (h _)
section
variable {α:Type} {enc:α→List V} {d:α} {l l':List α}
theorem zrt {f:Nat→List V} {i off:Nat} {vs:List V}:stF f i off vs i=spl (f i) off vs:=by simp[stF]
theorem spl_En {i k:Nat} {vs:List V}:spl (En enc d l i) k vs=spl (enc (l.getD i d)) k vs:=rfl
theorem ztn {f:Nat→List V}:shF f 0=f:=by funext i;simp[shF]
theorem zqx {k:Nat}:shF (En enc d l) k=En enc d (l.drop k):=by funext i;simp[shF,En]
theorem z3a (h:∀ x,ltrs 0 (enc x)=true) {σ:List Nat} {H:Heap} {k:Nat}:mpF (frD σ H (k+1)) (En enc d l)=En enc d l:=by
 funext i;simp only[mpF,En,frD];exact oy _ (h _)
theorem zwe (h:∀ x,ltrs 0 (enc x)=true) {top:Bool} {g:List V→List V} {σ:List Nat} {H:Heap}:mpF (frWs top g σ H) (En enc d l)=En enc d l:=by
 funext i;simp only[mpF,En];exact oy _ (h _)
theorem zva (h:∀ x,ltrs 0 (enc x)=true) {g:Nat→Option Nat}:mpF (rnVs g) (En enc d l)=En enc d l:=by
 funext i;simp only[mpF,En];exact ej _ (h _)
theorem xl (h:∀ x,ltrs 0 (enc x)=true) {g:Nat→Option Nat} {z:Nat→List V} {i m q:Nat} (hq:q<i) (he:l.getD q d=l'.getD q d):wks (mpF (rnVs g) (over i m z (En enc d l)) q) (En enc d l' q):=by
 simp only[mpF,zoe hq,En,ej _ (h _),he];exact ak _
theorem zum {i j q:Nat} (hi:i≤j) (hj:j≤l.length) (hq:q<i+(l.length-j)):over i (l.length-j) (En enc d (l.drop j)) (En enc d l) q=En enc d (l.take i++l.drop j) q:=by
 have key:over i (l.length-j) (En enc d (l.drop j)) (En enc d l) q=En enc d (l.take i++l.drop j) q:=by
  unfold over
  by_cases h:i≤q
  ·rw[if_pos ⟨h,hq⟩]
   simp only[En]
   rw[List.getD_eq_getElem?_getD,List.getD_eq_getElem?_getD,List.getElem?_append_right (by simp;omega)]
   simp
   congr 3
   omega
  ·rw[if_neg (by omega)]
   simp only[En]
   rw[List.getD_eq_getElem?_getD,List.getD_eq_getElem?_getD,List.getElem?_append_left (by simp;omega)]
   simp[List.getElem?_take,show q<i by omega]
 exact key
theorem yz (h:∀ x,ltrs 0 (enc x)=true) {g:Nat→Option Nat} {z:Nat→List V} {m i j q:Nat} (hi:i≤j) (hj:j≤l.length) (hq:q<i+(l.length-j)):wks (mpF (rnVs g) (over (i+(l.length-j)) m z (over i (l.length-j) (En enc d (l.drop j)) (En enc d l))) q) (En enc d (l.take i++l.drop j) q):=by
 simp only[mpF,zoe hq,zum hi hj hq,En]
 rw[ej _ (h _)];exact ak _
theorem zwz (h:∀ x,ltrs 0 (enc x)=true) {n:Nat}:mpF (shVs n) (En enc d l)=En enc d l:=by
 funext i;simp only[mpF,En];exact qm _ (h _)
theorem dx {g:List V→List V} (hg:∀ x,g (enc x)=enc x) {x:α} {cs:List V} (hc:cs=enc x) {i:Nat} (h:i<l.length+1):wks (mpF g (join l.length (En enc d l) (fun _=>cs)) i) (En enc d (l++[x]) i):=by
 subst hc
 have:mpF g (join l.length (En enc d l) (fun _=>enc x)) i=join l.length (En enc d l) (fun _=>enc x) i:=by
  simp only[mpF,join]
  cases Nat.blt i l.length<;>simp only[cond,En,hg]
 rw[this]
 exact vu (ak _) h
theorem zy {x:α} {k o1 o2:Nat} {v1 v2:List V} (hk:k<l.length) (hx:wks (spl (spl (enc (l.getD k d)) o1 v1) o2 v2) (enc x)) (i:Nat):wks (stF (stF (En enc d l) k o1 v1) k o2 v2 i) (En enc d (l.set k x) i):=by
 unfold stF
 cases hb:Nat.beq i k with
 | true =>
   obtain rfl:=be hb
   simpa [En,hk] using hx
 | false =>
   have:k≠i:=by rintro rfl;simp at hb
   simp[En,List.getElem?_set_ne this,ak]
theorem okD_En (h:∀ x,ltrs 0 (enc x)=true) {σ:List Nat} {H:Heap} {k i:Nat}:okD σ H k (En enc d l i)↔True:=by
 refine iff_true_intro ?_
 cases k with
 | zero=>trivial
 | succ k=>exact kf _ (h _)
theorem zyw (h:∀ x,ltrs 0 (enc x)=true) {g:List V→Prop} {σ:List Nat} {H:Heap} {i:Nat}:okWs g σ H (En enc d l i)↔True:=iff_true_intro (kf _ (h _))
theorem su {x:α} {k off:Nat} {vs:List V} (hk:k<l.length) (hx:wks (spl (enc (l.getD k d)) off vs) (enc x)) (i:Nat):wks (stF (En enc d l) k off vs i) (En enc d (l.set k x) i):=by
 unfold stF
 cases hb:Nat.beq i k with
 | true =>
   obtain rfl:=be hb
   simpa [En,hk] using hx
 | false =>
   have:k≠i:=by rintro rfl;simp at hb
   simp[En,List.getElem?_set_ne this,ak]
end
section
variable {top:Bool} {g:List V→List V} {σ:List Nat} {H:Heap} {ok:List V→Prop}
theorem z3e:frW top g σ H .bad = .bad:=nq rfl
theorem z1b:frW top g σ H .nil = .nil:=nq rfl
theorem zts {b:Bool}:frW top g σ H (.bool b) = .bool b:=nq rfl
theorem zyk {k:IntKind} {n:Int}:frW top g σ H (.int k n) = .int k n:=nq rfl
theorem z0p {s:List UInt8}:frW top g σ H (.str s) = .str s:=nq rfl
theorem z0e {nl:Option Bool} {t:Tg} {e n:Nat} {f:Nat→List V}:frW top g σ H (.lst nl t e n f) = .lst nl t e n f:=nq rfl
theorem zwp {cs:List V} {off:Nat}:frW top g σ H (.iptr cs off) = .iptr cs off:=nq rfl
theorem z1s {cs:List V}:frW top g σ H (.agg cs) = .agg (frWs top g σ H cs):=nq rfl
theorem z0x {cs:List V}:frW top g σ H (.tup cs) = .tup (frWs top g σ H cs):=nq rfl
theorem frW_fn {f:Nat} {a b:List V}:frW top g σ H (.fn f a b) = .fn f (frWs top g σ H a) (frWs top g σ H b):=nq rfl
theorem zue:frWs top g σ H []=[]:=nq rfl
theorem zmc {v:V} {vs:List V}:frWs top g σ H (v::vs)=frW top g σ H v::frWs top g σ H vs:=nq rfl
def frP (g:List V→List V) (off:Nat) (b:Blk):V:=match b with | .box cs=>.iptr (g cs) off|_=>.bad
def frE (g:List V→List V) (e i off:Nat) (b:Blk):V:=match b with | .arr e' m f=>bif Nat.beq e e' then .iptr (g (f i)) off else .bad|_=>.bad
theorem zzx {r off:Nat}:frW top g σ H (.ptr r off)=match idx σ r with|some i=>(match top with|true=>.ptr i off|false=>.bad)|none=>frP g off (hget H r):=nq (by
 simp only[frW];cases idx σ r<;>rfl)
theorem z2r:okW ok σ H .bad↔True:=Iff.rfl
theorem ztu:okW ok σ H .nil↔True:=Iff.rfl
theorem zrv {b:Bool}:okW ok σ H (.bool b)↔True:=Iff.rfl
theorem z0h {k:IntKind} {n:Int}:okW ok σ H (.int k n)↔True:=Iff.rfl
theorem z4c {s:List UInt8}:okW ok σ H (.str s)↔True:=Iff.rfl
theorem z3g {nl:Option Bool} {t:Tg} {e n:Nat} {f:Nat→List V}:okW ok σ H (.lst nl t e n f)↔True:=Iff.rfl
theorem zuc {cs:List V} {off:Nat}:okW ok σ H (.iptr cs off)↔True:=Iff.rfl
theorem zey {vs:List V} (h:ltrs 0 vs=true):okWs ok σ H vs↔True:=iff_true_intro (kf _ h)
theorem zsj:okWs ok σ H []↔True:=iff_true_intro trivial
theorem zqu {v:V} {vs:List V}:okWs ok σ H (v::vs)↔okW ok σ H v∧okWs ok σ H vs:=Iff.rfl
theorem zzz {cs:List V}:okW ok σ H (.agg cs)↔okWs ok σ H cs:=Iff.rfl
theorem z0s {cs:List V}:okW ok σ H (.tup cs)↔okWs ok σ H cs:=Iff.rfl
theorem okW_fn {f:Nat} {a b:List V}:okW ok σ H (.fn f a b)↔okWs ok σ H a∧okWs ok σ H b:=Iff.rfl
def okO (ok:List V→Prop) (off n:Nat) (b:Blk):Prop:=match b with | .arr e' m f=>off+n≤m∧∀ i,i<n→ok (shF f off i)|_=>True
theorem z0d {nl:Option Bool} {r e off n:Nat} {t:Tg}:okW ok σ H (.own nl r e off n t)↔match idx σ r with|some _=>True|none=>okO ok off n (hget H r):=by
 simp only[okW];cases idx σ r<;>exact Iff.rfl
def okP (ok:List V→Prop) (b:Blk):Prop:=match b with | .box cs=>ok cs|_=>True
theorem z2w {r off:Nat}:okW ok σ H (.ptr r off)↔match idx σ r with|some _=>True|none=>okP ok (hget H r):=by
 simp only[okW];cases idx σ r<;>exact Iff.rfl
theorem zze {e n:Nat} {f:Nat→List V}:okB ok σ H (.arr e n f)↔∀ i,i<n→okWs ok σ H (f i):=Iff.rfl
theorem z2p {cs:List V}:okB ok σ H (.box cs)↔okWs ok σ H cs:=Iff.rfl
theorem ztm:okB ok σ H .dead↔True:=Iff.rfl
theorem zth {cs:List V}:okD σ H 0 cs↔True:=Iff.rfl
theorem zub {k:Nat} {cs:List V}:okD σ H (k+1) cs↔okWs (okD σ H k) σ H cs:=Iff.rfl
theorem ztw {k:Nat} {cs:List V}:frD σ H (k+1) cs=frWs false (frD σ H k) σ H cs:=nq rfl
end
attribute [go_sem] zes ziz zrp zqa zjp zps zej zyr znp z1l zjw zbq zlh zoy zzo zzh zos zop ztp zvy zrq zwj z0m zyy zly zlv zqq zow xs_nil z0c z0n zwf xd_one xd_alt z3p zzs zse xf_nil z0r z0o zuh zzk zlp z2e zsm z2u zks zen zbi zsy zdo zyu zro zim ztt zfj zvz xo_box zux zar zaz zrr xe_box zvn zjj zyf zyl zob zor xb_len xb_cap zug z0t z3x zzb z2d z2i rv_int rv_str rk_ok rk_chk kv_eq kh_eq kp_eq kq_eq zqz zdz nilV zoo zqj zom appX gp gpd onth get beqB band ppre evt ofV ev evs pc padd put gl boxV zmo zzr z2m ztk zwi z1y zvg ztb zwd z0z zjx z4a z0y zsw z0g zyx zoi z0b zmf zvo xx z2b zir zjc zkn slL slO ztn zqx rnV rnVs zzy zzu zwr rnH selH idx updH bkf zwu z1m xb_max xb_min clX ziw zjg z3n cpX zve z1d z2f zyp z3e z1b zts zyk z0p z0e zwp z1s z0x frW_fn zue zmc z0u zzx frP frO frE frV frH z1i z1x zwv ztw z3a zwe zva okH z2r ztu zrv z0h z4c z3g zuc zsj zqu zzz z0s okW_fn z0d okO z2w okP zze z2p ztm zth zub okD_En zyw oy zey ej zwh zyj vw Nat.zero_add Nat.add_zero Nat.sub_zero true_or or_true Nat.le_refl Nat.zero_le implies_true capV maxV minV mb evp evo pk app zk mem mem.bor bin un vlen zfs wi indexAddr yl shT hiT cpT unx cutV nn fieldAddr vi vn load rr zef eq1 eqs nth dr tk spl len cellsOf hget hset hlen hadd pnth ikn rep rep.aps shV shVs qm z2h z1g z2c zxb zwz happ argE resV one retK keep sx zew fgE fgH ltb ltr ltrs zfc yf zfa zdw zuz z1j cond Nat.beq Nat.ble Nat.blt Nat.add Option.getD Array.toList List.getElem?_cons_zero List.getElem?_cons_succ true_and and_true forall_const decide_eq_true_eq decide_eq_false_iff_not and_self nth_En len_En dr_En tk_En zrt spl_En z3v zyg zrl zvh zut zrm zuu znq zwl Int.toNat_natCast Bool.and_eq_true Bool.or_eq_true Bool.not_eq_true' Bool.not_eq_false' Bool.and_eq_false_iff Bool.or_eq_false_iff
end Go.VM
end
section
namespace Go.VM
def mE {α:Type} (enc:α→V) (l:List (List UInt8 × α)):List (List UInt8 × V):=l.map fun x=>(x.1,enc x.2)
def aGet {α:Type}:List (List UInt8 × α)→List UInt8→Option α
 | [],_=>none
 | x::es,k=>bif keq x.1 k then some x.2 else aGet es k
def aSet {α:Type}:List (List UInt8 × α)→List UInt8→α→List (List UInt8 × α)
 | [],k,v=>[(k,v)]
 | x::es,k,v=>bif keq x.1 k then (k,v)::es else x::aSet es k v
def aDel {α:Type}:List (List UInt8 × α)→List UInt8→List (List UInt8 × α)
 | [],_=>[]
 | x::es,k=>bif keq x.1 k then es else x::aDel es k
section
variable {α:Type} {enc:α→V} {l:List (List UInt8 × α)} {k:List UInt8} {d v:α}
theorem zau:mSet (mE enc l) k (enc v)=mE enc (aSet l k v):=by
 induction l with
 | nil=>rfl
 | cons x l ih =>
   simp only[mE,List.map_cons,mSet,aSet] at ih ⊢
   cases keq x.1 k
   ·simpa [mE] using ih
   ·rfl
theorem zgj:mDel (mE enc l) k=mE enc (aDel l k):=by
 induction l with
 | nil=>rfl
 | cons x l ih =>
   simp only[mE,List.map_cons,mDel,aDel] at ih ⊢
   cases keq x.1 k
   ·simpa [mE] using ih
   ·rfl
theorem zms:(mE enc l).length=l.length:=by simp[mE]
theorem mE_nil:mE enc []=[]:=rfl
theorem zfk {g:V→V} (h:∀ x,g (enc x)=enc x):mMap g (mE enc l)=mE enc l:=by
 unfold mMap mE;rw[List.map_map];congr 1;funext x;simp[h]
theorem ztq {top:Bool} {g:List V→List V} {σ:List Nat} {H:Heap} (h:∀ x,ltr 0 (enc x)=true):mMap (frW top g σ H) (mE enc l)=mE enc l:=zfk fun x=>zxd _ (h x)
theorem zuw {g:Nat→Option Nat} (h:∀ x,ltr 0 (enc x)=true):mMap (rnV g) (mE enc l)=mE enc l:=zfk fun x=>zxe _ (h x)
theorem zun {n:Nat} (h:∀ x,ltr 0 (enc x)=true):mMap (shV n) (mE enc l)=mE enc l:=zfk fun x=>zxp _ (h x)
theorem zvi {g:V→V}:mMap g []=[]:=rfl
theorem znx {p:V→Prop} (h:∀ x,p (enc x)):mAll p (mE enc l)↔True:=by
 refine iff_true_intro fun x hx=>?_
 unfold mE at hx
 obtain⟨y,_,rfl⟩:=List.mem_map.1 hx
 exact h _
theorem zsu {n:Nat} (h:∀ x,ltr 0 (enc x)=true):mLtr n (mE enc l)↔True:=znx (p:=fun v=>ltr n v=true) fun x=>zra _ (h x)
theorem ztv {n:Nat}:mLtr n []↔True:=iff_true_intro fun x hx=>by cases hx
theorem zww {ok:List V→Prop} {σ:List Nat} {H:Heap} (h:∀ x,ltr 0 (enc x)=true):mAll (okW ok σ H) (mE enc l)↔True:=znx fun x=>zxi _ (h x)
theorem zrs {p:V→Prop}:mAll p []↔True:=iff_true_intro fun x hx=>by cases hx
end
section
variable {top:Bool} {g:List V→List V} {σ:List Nat} {H:Heap} {ok:List V→Prop} {es:List (List UInt8 × V)}
theorem frB_mp:frB top g σ H (.mp es) = .mp (mMap (frW top g σ H) es):=nq rfl
theorem rnB_mp {g:Nat→Option Nat}:rnB g (.mp es) = .mp (mMap (rnV g) es):=nq rfl
theorem shH_mp {n:Nat}:shH n (.mp es::H) = .mp (mMap (shV n) es)::shH n H:=nq rfl
theorem okB_mp:okB ok σ H (.mp es)↔mAll (okW ok σ H) es:=Iff.rfl
theorem frW_mp {r:Nat}:frW top g σ H (.mp r)=match idx σ r with|some i=>(match top with|true=>.mp i|false=>.bad)|none=>.bad:=nq (by simp only[frW];cases idx σ r<;>rfl)
theorem okW_mp {ok:List V→Prop} {r:Nat}:okW ok σ H (.mp r)↔True:=Iff.rfl
def boE (b:Bool):V:=.bool b
theorem zyz (b:Bool):ltr 0 (boE b)=true:=nq rfl
end
attribute [go_sem] zms mE_nil ztq zuw zun zvi zsu zww zrs ztv frB_mp rnB_mp shH_mp okB_mp frW_mp okW_mp zyz
end Go.VM
namespace Go.VM
theorem byD {p:Path} {q:Prop} (h:Sd p q:=by first|(refine Sd.mk ?_;omega)|exact Sd.mk trivial|(refine Sd.of fun hp=>?_;simp only[pc,and_true] at hp;(try subst_vars);simp only[decide_eq_true_eq,Bool.not_eq_true',decide_eq_false_iff_not,Bool.and_eq_true,Bool.or_eq_true,Bool.or_eq_false_iff] at hp;omega)):Sd p q:=h
theorem byQ {q:Prop} (h:Sq q:=by first|(refine Sq.mk ?_;omega)|exact Sq.mk trivial|(refine Sq.mk ?_;and_intros<;>first|omega|trivial|(simp;omega))):Sq q:=h
theorem byC {p:Prop} (h:p:=by first|trivial|(simp only[go_sem,wk,wks,wkB,wkH,subw,cn,cm,ltb,subr,dc];done)|(simp only[go_sem,wk,wks,wkB,wkH,subw,cn,cm,ltb,subr,dc];and_intros<;>first|trivial|rfl|omega|assumption|exact Nat.le_refl _|exact ak _|exact bf _|(intros;exact ak _)|exact zau|exact zgj|(intro i hi;rcases i with _|_|_|i<;>first|exact ak _|exact kf _ rfl|(exfalso;omega))|(simp;done)|(simp;omega))):p:=h
theorem byW {p:Prop} (h:p:=by first|exact ak _|(first|trivial|(simp only[go_sem,wk,wks,wkB,wkH,subw,cn,cm,ltb,subr,dc];done)|(simp only[go_sem,wk,wks,wkB,wkH,subw,cn,cm,ltb,subr,dc];and_intros<;>first|trivial|rfl|omega|assumption|exact Nat.le_refl _|exact ak _|exact bf _|(intros;exact ak _)|exact zau|exact zgj|(intro i hi;rcases i with _|_|_|i<;>first|exact ak _|exact kf _ rfl|(exfalso;omega))|(simp;done)|(simp;omega)))):p:=h
theorem byV {p:Prop} (h:p:=by first|(simp only[go_sem];exact ak _)|(first|trivial|(simp only[go_sem,wk,wks,wkB,wkH,subw,cn,cm,ltb,subr,dc];done)|(simp only[go_sem,wk,wks,wkB,wkH,subw,cn,cm,ltb,subr,dc];and_intros<;>first|trivial|rfl|omega|assumption|exact Nat.le_refl _|exact ak _|exact bf _|(intros;exact ak _)|exact zau|exact zgj|(intro i hi;rcases i with _|_|_|i<;>first|exact ak _|exact kf _ rfl|(exfalso;omega))|(simp;done)|(simp;omega)))):p:=h
theorem byT {n:Nat} {l:List V} (h:ltrs n l=true:=by first|rfl|(simp only[go_sem];assumption)|(simp only[go_sem, *];done)):ltrs n l=true:=h
theorem ew {p q:Prop} (h:p) (k:¬ p:=by first|(intro h;cases h;done)|(simp;done)|(intro h;simp at h;done)|(intro h;simp at h;contradiction)|(intro h;simp_all;done)):q:=absurd h k
section
variable {P:Program} {n:Nat} {E:Env} {H:Heap} {K:X→Env→Heap→Prop} {σ:Type}
def mt (n:Nat) (I:σ→Prop) (inv:σ→Env) (hv:σ→Heap) (K:X→Env→Heap→Prop):X→Env→Heap→Prop
 | .normal,E,H=>∃ s,I s∧subv n (inv s) (hv s) E H
 | .exit i,E,H=>K (.exit i) E H
 | .ret,E,H=>K .ret E H
theorem z3b {I:σ→Prop} {inv:σ→Env} {hv:σ→Heap} {i:Nat}:mt n I inv hv K (.exit i) E H=K (.exit i) E H:=rfl
theorem mt_ret {I:σ→Prop} {inv:σ→Env} {hv:σ→Heap}:mt n I inv hv K .ret E H=K .ret E H:=rfl
theorem gi {I:σ→Prop} {inv:σ→Env} {hv:σ→Heap} (s:σ) (h1:I s) (h3:subw (inv s) (hv s) E H):mt n I inv hv K .normal E H:=⟨s,h1,.inl h3⟩
theorem ztr {I:σ→Prop} {inv:σ→Env} {hv:σ→Heap} (s:σ) (τ:List Nat) (h1:I s) (h3:subr n τ (inv s) (hv s) E H):mt n I inv hv K .normal E H:=⟨s,h1,.inr ⟨τ,h3⟩⟩
attribute [go_sem] z3b mt_ret
theorem zba (I:σ→Prop) (ch:σ→Env) (ts:List Nat) (hv:σ→Heap) {a:Code} (hn:∀ s,n≤hlen (hv s))
  (h:cx P n a E H (mt n I (fun s=>sx (ch s) (keep ts E)) hv K)) (hK:∀ s,I s→K .normal (sx (ch s) (keep ts E)) (hv s)):cx P n a E H K:=by
 intro F c ac hF hs he ha hok
 refine wpIn_mono (h F c ac hF hs he ha hok) fun e a' w' hq=>?_
 obtain⟨F',fx,hq⟩:=hq
 cases e with
 | normal =>
   obtain⟨c',E',H',rfl,h1,h2,h3,s,hI,hsub⟩:=hq
   obtain⟨c3,k1,k2,k3⟩:=zax (hF.fx fx).le (hn s) h1 h2 hsub
   exact⟨F',fx,c3,_,_,k1,k2,k3,h3,hK s hI⟩
 | exit i=>obtain⟨c',E',H',h0,h1,h2,h3,h4⟩:=hq;exact⟨F',fx,c',E',H',h0,h1,h2,h3,h4⟩
 | ret=>obtain⟨c',E',H',h0,h1,h2,h3,h4⟩:=hq;exact⟨F',fx,c',E',H',h0,h1,h2,h3,h4⟩
 | goto l=>exact hq.elim
 | panic ch=>exact hq.elim
 | outgrown=>exact hq.elim
theorem zp (I:σ→Prop) (ch:σ→Env) (ts:List Nat) {a:Code} (hn:n≤hlen H)
  (h:cx P n a E H (mt n I (fun s=>sx (ch s) (keep ts E)) (fun _=>H) K)) (hK:∀ s,I s→K .normal (sx (ch s) (keep ts E)) H):cx P n a E H K :=
 zba I ch ts (fun _=>H) (fun _=>hn) h hK
end
end Go.VM
namespace Go.VM
def mvI (r m:Nat) (i:Nat):Option Nat:=bif Nat.beq i r then some m else some i
def mvE (r m:Nat):Env→Env
 | []=>[]
 | e::E=>⟨e.t,e.s,e.p,rnV (mvI r m) e.v⟩::mvE r m E
theorem z0i {r m:Nat} (E:Env) (t:Nat):get (mvE r m E) t=((get E t).1,(get E t).2.1,rnV (mvI r m) (get E t).2.2):=by
 induction E with
 | nil=>simp[mvE,get,rnV]
 | cons e E ih =>
   simp only[mvE,gr]
   split
   ·rfl
   ·exact ih
theorem ix {P:Program} {n:Nat} {code:Code} {E:Env} {H:Heap} {K:X→Env→Heap→Prop} (r:Nat) (hr:Nat.blt r (hlen H)=true)
  (h:cx P n code (mvE r (hlen H) E) (hadd (hset H r .dead) (hget H r)) K):cx P n code E H K:=by
 intro F c a hF hs he ha hok
 rw[bt,ex] at h
 rw[bt] at hr
 have hr:r<H.length:=by simpa using hr
 have hlt:r<c.locs.length:=by rw[hs.len];exact hr
 obtain⟨l,hl⟩:∃ l,c.locs[r]? = some l:=⟨c.locs[r],by simp[hlt]⟩
 obtain⟨k1,k2⟩:=hs.move hl
 refine h F { c with locs:=c.locs++[l] } a hF k1 (fun t=>?_) ha hok
 rw[z0i]
 refine⟨fun hp=>?_,(he t).2⟩
 refine zjn (c:=c) (I:=c.I) (L:=c.locs++[l]) (fun _ h=>h) (fun i j x hij hx=>?_) _ _ ((he t).1 hp)
 unfold mvI at hij
 cases hb:Nat.beq i r with
 | true =>
   rw[hb] at hij
   obtain rfl:=be hb
   simp only[cond,Option.some.injEq] at hij
   subst hij
   rw[List.getElem?_append_right (by rw[hs.len];exact Nat.le_refl _)]
   rw[hl] at hx
   cases hx
   simp[hs.len]
 | false =>
   rw[hb] at hij
   simp only[cond,Option.some.injEq] at hij
   subst hij
   rw[List.getElem?_append_left (List.getElem?_eq_some_iff.1 hx).1]
   exact hx
attribute [go_sem] mvI mvE
end Go.VM
end
