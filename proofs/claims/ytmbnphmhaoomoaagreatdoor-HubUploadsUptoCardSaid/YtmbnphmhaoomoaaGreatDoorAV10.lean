import Derived.Test.YtmbnphmhaoomoaaGreatDoorAV9
set_option linter.unusedVariables false
set_option linter.unusedSimpArgs false
set_option maxHeartbeats 4000000
namespace Go.VM
section
variable {P:Program} {F:Fr} {c:Ctx} {E:Env} {H:Heap} {a:Act} {X:Nat→Bool} {k:Nat} {p:Path} {o:Oper} {K:Env→Heap→Prop} {Q:Exit→Act→World→Prop}
theorem SR.addI (hs:SR F c H) {b:Nat} (h0:F.c0.w.heap.size≤b) (hb:b<c.w.heap.size) (hno:∀ (r m:Nat) x,H[r]? = some x→Live x→c.locs[r]?≠some (some (b,m))) :
  SR F ⟨c.w,fun k=>c.I k∨k=b,c.locs⟩ H∧Le c ⟨c.w,fun k=>c.I k∨k=b,c.locs⟩:=by
 have hle:Le c ⟨c.w,fun k=>c.I k∨k=b,c.locs⟩:=⟨fun _ _ e=>e,fun _ h=>.inl h,fun _ _=>rfl⟩
 refine⟨⟨hs.fr,hs.le.trans hle,hs.len,fun r x l hr hl=>?_,hs.inj,fun q hq=>?_,fun q hq=>?_⟩,hle⟩
 ·refine (hs.blk r x l hr hl).mono hle fun b' m e hL=>⟨rfl, ?_⟩
  subst e
  obtain⟨O,h1,h2,h3,h4⟩:=hs.blk r x _ hr hl hL
  rintro (h|h)
  ·exact h3 h
  ·subst h
   exact hno r m x hr hL hl
 ·rcases hq with hq|rfl
  ·exact hs.imm q hq
  ·exact hb
 ·rcases hq with hq|rfl
  ·exact hs.old q hq
  ·exact .inr h0
def iu (e:Nat) (z:Option (List V)) (n:Nat) (parts:List (Nat × V)) (H:Heap) (K:V→Heap→Prop):Prop :=
 match z with
 | some z=>(match rr (fun i=>some (i*e,e)) (rep n z) parts with
   | some cs=>(∀ i,i<n→ltrs 0 (mb e n cs i)=true)∧Nat.blt 0 n=true∧(bif Nat.ble (n*e) 16777216 then K (.lst (some false) .loose e n (mb e n cs)) (hadd H .dead) else False)
   | none=>False)
 | none=>False
def xoF (P:Program) (k:Nat) (o:Oper) (p:Path) (E:Env) (H:Heap) (K:Env→Heap→Prop):Prop :=
 match o.op with
 | .buildSlice T n parts=>(match p,da P T with
   | [],some e=>iu (al P e) (cq P e) n (evp E p parts.toList) H fun v H=>K (put E o.dst (k+1) p v) H
   | _,_=>False)
 | _=>xo P k o p E H K
theorem yg (hs:SR F c H) {T e n:Nat} (hT:da P T=some e) {parts:List (Nat × V)} {vals:Array (Nat × Value)} (hp:PR c parts vals.toList) {K:V→Heap→Prop}
  (h:iu (al P e) (cq P e) n parts H K):∃ c' H' r y,(Instr.buildSlice T n vals).run P c.w = .ok r c'.w∧SR F c' H'∧Le c c'∧VR c' y r∧K y H':=by
 unfold iu at h
 split at h
 case h_2=>exact h.elim
 rename_i z hz
 split at h
 case h_2=>exact h.elim
 rename_i cs hf
 obtain⟨hl,hn,h⟩:=h
 replace hn:0<n:=by rw[Nat.blt_eq] at hn;exact hn
 cases hb:Nat.ble (n*al P e) 16777216 with
 | false=>rw[hb] at h;exact h.elim
 | true =>
   rw[hb] at h
   dsimp only [cond] at h
   have hV:∀ (H0:Heap),ct (al P e) (cq P e) n parts H0 fun y H'=>y = .own (some false) H0.length (al P e) 0 n (bif Nat.beq n 0 then .cut true else .exact n)∧H'=H0++[.arr (al P e) n (mb (al P e) n cs)]:=by
    intro H0
    unfold ct
    rw[hz]
    dsimp only
    rw[hf]
    dsimp only
    rw[hb,bt,ex]
    exact⟨rfl,rfl⟩
   obtain⟨c1,_,r,_,k1,k2,k3,k4,rfl,rfl⟩:=gd hs hT hp (hV H)
   obtain⟨c2,_,r2,_,g1,g2,g3,g4,rfl,rfl⟩:=gd hs.deadAll hT hp (hV _)
   rw[k1] at g1
   simp only[Result.ok.injEq] at g1
   obtain⟨rfl,hw⟩:=g1
   simp only[VR,List.length_map] at k4 g4
   obtain⟨A,cap,rfl,⟨a1,-⟩,-,a3,a4⟩:=k4
   obtain⟨A2,cap2,hA2,-,-,-,b4⟩:=g4
   cases hA2
   have hHl:(H++[Blk.arr (al P e) n (mb (al P e) n cs)])[H.length]? = some (.arr (al P e) n (mb (al P e) n cs)):=by simp
   have hHl2:((H.map fun _=>Blk.dead)++[Blk.arr (al P e) n (mb (al P e) n cs)])[H.length]? = some (.arr (al P e) n (mb (al P e) n cs)):=by simp
   split at b4
   case h_2=>exfalso;omega
   case h_3=>exact b4.elim
   rename_i b2 m2 hb2
   obtain⟨_,b5⟩:=b4
   have hA:=b5 (by omega)
   obtain⟨O2,d1,d2,d3,d4⟩:=g2.blk _ _ _ hHl2 hb2 trivial
   have hfresh:c.w.heap.size≤b2:=by
    rcases d4 with d4|d4
    ·exact d4
    ·exact d4.elim
   split at a4
   case h_2=>exfalso;omega
   case h_3=>exact a4.elim
   rename_i b m hbm
   obtain⟨_,a5⟩:=a4
   have hA':=a5 (by omega)
   rw[hA] at hA'
   simp only[Option.some.injEq,Addr.mk.injEq] at hA'
   obtain⟨hbb,-⟩:=hA'
   subst hbb
   obtain⟨O,e1,⟨C,el,rfl,e2,e3,e4⟩,e5,e6⟩:=k2.blk _ _ _ hHl hbm trivial
   have hdead:=k2.dead H.length
   have hset':hset (H++[Blk.arr (al P e) n (mb (al P e) n cs)]) H.length .dead=H++[.dead]:=by
    apply List.ext_getElem?
    intro j
    rw[ju]
    by_cases hj:j=H.length
    ·subst hj;simp
    ·rw[if_neg (fun h=>hj h.1)]
     by_cases hj2:j<H.length
     ·rw[List.getElem?_append_left hj2,List.getElem?_append_left hj2]
     ·rw[List.getElem?_eq_none (by simp;omega),List.getElem?_eq_none (by simp;omega)]
   rw[hset'] at hdead
   obtain⟨f1,f2⟩:=hdead.addI (b:=b2) (Nat.le_trans hs.fr.size hfresh) (Array.getElem?_eq_some_iff.1 e1).1 (by
    intro r m' x hr hL hl
    rcases Nat.lt_or_ge r H.length with hrl|hrl
    ·rw[List.getElem?_append_left hrl] at hr
     have:=k2.inj r H.length x _ b2 m' m (by rw[List.getElem?_append_left hrl];exact hr) hHl hL trivial hl hbm
     omega
    ·rw[List.getElem?_append_right hrl] at hr
     have:r-H.length=0:=by
      rcases hq:r-H.length with _|q
      ·rfl
      ·rw[hq] at hr;simp at hr
     rw[this] at hr
     simp at hr
     subst hr
     exact hL)
   rw[ex] at h
   refine⟨⟨c1.w,fun k=>c1.I k∨k=b2,c1.locs⟩,H++[.dead],_,_,k1,f1,k3.trans f2, ?_,h⟩
   simp only[VR]
   refine⟨A,cap,rfl,a1,(fun h=>by cases h),a3,(fun h=>by rw[hA] at h;cases h),fun i hi=>?_⟩
   obtain⟨q1,q2,q3⟩:=e4 i hi
   have hcell:∀ j,(⟨b2,0,none⟩:Addr).add (i*al P e+j)=⟨b2,i*al P e+j,none⟩:=fun j=>by rw[Addr.add_lit];simp
   refine⟨⟨b2,0,none⟩,by simpa using hA,.inr rfl,q1, ?_, ?_⟩
   ·intro j x hj hx
    have hx':c1.w.cell? ((⟨b2,0,none⟩:Addr).add (i*al P e+j))=some x:=hx
    rw[hcell,ez e1] at hx'
    exact q2 j x hj hx'
   ·have:=lr (c:=c1) (n:=0) _ _ (hl i hi) q3
    have h3:VRs ⟨c1.w,fun k=>c1.I k∨k=b2,[]⟩ (mb (al P e) n cs i) fun j=>C[i*al P e+j]? :=
     fa (c:=c1.cut 0) (c':=⟨c1.w,fun k=>c1.I k∨k=b2,[]⟩) ⟨fun r x e=>by simp[Ctx.cut] at e,fun _ h=>.inl h,fun _ _=>rfl⟩ _ _ _ (fun _ _ h=>h) this
    refine br h3 fun j _=>?_
    rw[hcell,ez e1]
theorem zdq (gt:GF P F) (hs:St F c E H a X k) (hd:∀ x,o.dst=some x→x<F.nt) (hp:KP X k p) (h:xoF P k o p E H K):OpOk P F Q o k p a c K:=by
 unfold xoF at h
 split at h
 ·rename_i T n parts ho
  split at h
  ·rename_i e hT
   obtain⟨c',H',r,y,k1,k2,k3,k4,k5⟩:=yg (P:=P) hs.sr hT (n:=n) (vals:=parts.map fun (i,x)=>(i,a.eval x)) (by rw[Array.toList_map];exact yv hs hp trivial _) h
   exact⟨fun _=>lg (s:=Instr.buildSlice T n (parts.map fun (i,x)=>(i,a.eval x))) (by simp[execOp,ho]) k1 (gv hs hd k2 k3 k4 k5),fun hn=>absurd trivial hn⟩
  ·exact h.elim
 ·exact nk gt hs hd hp h
def xsF (P:Program) (ops:List Oper) (fz:List Nat) (k:Nat):List Oper→(Env→Heap→Prop)→Env→Heap→Prop
 | [],K,E,H=>K E H
 | o::os,K,E,H=>match gp ops E o.guard with
   | some p=>(match mem k fz with
     | true=>xoF P k o p E H (xsF P ops fz (k+1) os K)
     | false=>xo P k o p E H (xsF P ops fz (k+1) os K))
   | none=>False
theorem zmh (gt:GF P F) {ops:List Oper} {fz:List Nat} {K:Env→Heap→Prop} {KX:VM.X→Env→Heap→Prop} (hKX:∀ E H,K E H→KX .normal E H) :
  ∀ (os:List Oper) (k:Nat) (c:Ctx) (E:Env) (H:Heap) (a:Act) (X:Nat→Bool),(∀ o∈os,∀ x,o.dst=some x→x<F.nt)→St F c E H a X k→xsF P ops fz k os K E H →
   wpList P ops.toArray (df F KX) os a c.w:=by
 intro os
 induction os with
 | nil =>
   intro k c E H a X hnt hs h
   exact wpList_nil ⟨c,E,H,rfl,hs.sr,hs.er,hs.ao,hKX E H h⟩
 | cons o os ih =>
   intro k c E H a X hnt hs h
   simp only[xsF] at h
   split at h
   ·rename_i p hg
    obtain⟨hp,hw⟩:=gp_ok hs.er hs.ki rfl hg
    have hok:OpOk P F (df F KX) o k p a c (xsF P ops fz (k+1) os K):=by
     split at h
     ·exact zdq (Q:=df F KX) gt hs (hnt o (.head _)) hp h
     ·exact nk (Q:=df F KX) gt hs (hnt o (.head _)) hp h
    have hnx:∀ a w,Nx F (k+1) (xsF P ops fz (k+1) os K) a w→wpList P ops.toArray (df F KX) os a w:=by
     rintro a' w' ⟨c',E',H',X',rfl,hs',hk⟩
     exact ih (k+1) c' E' H' a' X' (fun o ho=>hnt o (.tail _ ho)) hs' hk
    refine wpList_step fun K' hK'=>?_
    by_cases hpc:pc p
    ·rw[if_pos (hw.2 hpc)]
     exact Oper.wp_mono (fun a w h=>hK' a w (hnx a w h)) (hok.1 hpc)
    ·rw[if_neg (fun h=>hpc (hw.1 h))]
     exact hK' _ _ (hnx _ _ (hok.2 hpc))
   ·exact h.elim
theorem zkg {n id:Nat} {ops:Array Oper} {K:VM.X→Env→Heap→Prop} (fz:List Nat) (h:xsF P ops.toList fz 0 ops.toList (K .normal) (gl E) H):cx P n (.region id ops false) E H K :=
 fun F c a hn hs he ha hok=>wpIn_mono (zhb og (pd hok) (zmh hn.gt (K:=K .normal) (fun _ _ h=>h) ops.toList 0 c (gl E) H a _ (mr hok) ⟨hs,lh he,lc E,ha⟩ h)) fun _ _ _=>ou
theorem cx_srF {n id:Nat} {ops:Array Oper} {b:Code} {K:VM.X→Env→Heap→Prop} (fz:List Nat) (h:xsF P ops.toList fz 0 ops.toList (andThen P n b K .normal) (gl E) H):cx P n (.seq (.region id ops false) b) E H K :=
 ab (zkg fz h)
end
section
variable {P:Program} {ops os:List Oper} {fz:List Nat} {k:Nat} {o:Oper} {K:Env→Heap→Prop} {KV:V→Heap→Prop} {E:Env} {H:Heap} {p:Path} {d:Option Nat} {ty:TypeId} {pos:String} {aft:Array Edge} {g:Option (Nat × Bool)}
def xoB (P:Program) (b:Bool) (k:Nat) (o:Oper) (p:Path) (E:Env) (H:Heap) (K:Env→Heap→Prop):Prop :=
 match b with
 | true=>xoF P k o p E H K
 | false=>xo P k o p E H K
@[congr] theorem xoB_congr {b b':Bool} {p p':Path} (h:b=b') (h':p=p'):xoB P b k o p E H K=xoB P b' k o p' E H K:=by rw[h,h']
theorem zmg:xoB P false k o p E H K=xo P k o p E H K:=nr rfl
theorem zur:xoB P true k o p E H K=xoF P k o p E H K:=nr rfl
@[congr] theorem xsF_congr {E':Env} {H':Heap} (h1:E=E') (h2:H=H'):xsF P ops fz k os K E H=xsF P ops fz k os K E' H':=by rw[h1,h2]
@[congr] theorem xoF_congr {p':Path} (h:p=p'):xoF P k o p E H K=xoF P k o p' E H K:=by rw[h]
theorem z4d:xsF P ops fz k [] K E H=K E H:=nr rfl
theorem zvq:xsF P ops fz k (o::os) K E H=xg (gp ops E o.guard) fun p=>xoB P (mem k fz) k o p E H (xsF P ops fz (k+1) os K):=nr (by unfold xsF xg xoB;rfl)
def bsF (o:Option Nat) (P:Program) (n:Nat) (parts:List (Nat × V)) (H:Heap) (K:V→Heap→Prop):Prop :=
 match o with
 | some e=>iu (al P e) (cq P e) n parts H K
 | none=>False
theorem zuj {e:Nat} {parts:List (Nat × V)} {n:Nat}:bsF (some e) P n parts H KV=iu (al P e) (cq P e) n parts H KV:=nr rfl
@[congr] theorem bsF_congr {o o':Option Nat} {n:Nat} {parts parts':List (Nat × V)} (h:o=o') (h':parts=parts'):bsF o P n parts H KV=bsF o' P n parts' H KV:=by rw[h,h']
theorem zod {T n:Nat} {parts:Array (Nat × Operand)}:xoF P k ⟨d,.buildSlice T n parts,ty,pos,aft,g⟩ [] E H K=bsF (da P T) P n (evp E [] parts.toList) H fun v H=>K (put E d (k+1) [] v) H:=nr (by
 unfold xoF bsF
 dsimp only
 all_goals (cases da P T<;>rfl))
def bsG (q:Option (List V)) (e n:Nat) (H:Heap) (K:V→Heap→Prop):Prop :=
 match q with
 | some cs=>(∀ i,i<n→ltrs 0 (mb e n cs i)=true)∧Nat.blt 0 n=true∧(bif Nat.ble (n*e) 16777216 then K (.lst (some false) .loose e n (mb e n cs)) (hadd H .dead) else False)
 | none=>False
theorem zsl {cs:List V} {e n:Nat}:bsG (some cs) e n H KV=((∀ i,i<n→ltrs 0 (mb e n cs i)=true)∧Nat.blt 0 n=true∧(bif Nat.ble (n*e) 16777216 then KV (.lst (some false) .loose e n (mb e n cs)) (hadd H .dead) else False)):=nr rfl
@[congr] theorem bsG_congr {q q':Option (List V)} {e n:Nat} (h:q=q'):bsG q e n H KV=bsG q' e n H KV:=by rw[h]
theorem yj {e n:Nat} {z:List V} {parts:List (Nat × V)}:iu e (some z) n parts H KV=bsG (rr (fun i=>some (i*e,e)) (rep n z) parts) e n H KV:=nr rfl
theorem qn {α:Type} {e:Nat} {enc:α→List V} {d:α} (x:α):wk (.lst (some false) .loose e 1 fun _=>enc x) (lstV e enc d [x]):=by
 simp only[wk]
 refine⟨by trivial,by trivial,.inl rfl,.inr rfl,fun i hi=>?_⟩
 have:i=0:=by omega
 subst this
 exact ak _
end
attribute [go_sem] zmg zur z4d zvq zuj zod zsl yj
end Go.VM
