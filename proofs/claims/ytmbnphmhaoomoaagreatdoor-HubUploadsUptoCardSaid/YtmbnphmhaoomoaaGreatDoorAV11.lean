import Derived.Test.YtmbnphmhaoomoaaGreatDoorAV10
set_option linter.unusedVariables false
set_option linter.unusedSimpArgs false
set_option linter.unnecessarySimpa false
set_option maxHeartbeats 4000000
section
namespace Go.VM
variable {P:Program} {n:Nat} {E:Env} {H:Heap} {K:X→Env→Heap→Prop}
end Go.VM
end
section
namespace Go.VM
def xdF (P:Program) (ops:List Oper) (late fz:List Nat):Plan→Nat→(Env→Heap→Prop)→Env→Heap→Prop
 | .done,_,K,E,H=>K E H
 | .first i s,k,K,E,H=>(match onth ops i with
   | some o=>(match gpd ops E o.guard with
     | some p=>xo P k o p E H (xdF P ops late fz s (k+1) K)
     | none=>False)
   | none=>False)
 | .one i s,k,K,E,H=>(match onth ops i with
   | some o=>(match gpd ops E o.guard with
     | some p=>(match mem i late with
       | true=>xoB P (mem i fz) k o p E H (xdF P ops late fz s (k+1) K)
       | false=>xe P k o p E H (xdF P ops late fz s (k+1) K))
     | none=>False)
   | none=>False)
 | .alt i s t,k,K,E,H=>(match onth ops i with
   | some o=>(match gpd ops E o.guard with
     | some p=>(match mem i late with
       | true=>xoB P (mem i fz) k o p E H (xdF P ops late fz s (k+1) K)
       | false=>xe P k o p E H (xdF P ops late fz s (k+1) K))
     | none=>False)
   | none=>False)∧xdF P ops late fz t k K E H
section
variable {P:Program} {F:Fr} {c:Ctx} {E:Env} {H:Heap} {a:Act} {X:Nat→Bool} {k:Nat} {p:Path} {o:Oper} {K:Env→Heap→Prop} {Q:Exit→Act→World→Prop}
theorem zln (gt:GF P F) {ops:Array Oper} {late fz:List Nat} {KX:VM.X→Env→Heap→Prop} (hsel:Region.noSelect ops=true) (hnt:∀ o∈ops.toList,∀ x,o.dst=some x→x<F.nt) :
  ∀ (pl:Plan) (n:Nat) (L:Array Bool) (k:Nat) (c:Ctx) (E:Env) (H:Heap) (a:Act) (X:Nat→Bool),Closed .any ops L→St F c E H a X k→xdF P ops.toList late fz pl k (KX .normal) E H →
   (fv .any ops late pl (Region.ready .any ops L) n L=true→fc P .any ops (df F KX) (fun i=>mem i late) n L a c.w) ∧
   (∀ rs m,n=m+1→rs≠[]→rs ⊆ Region.ready .any ops L→(∀ i s,pl≠.first i s)→fv .any ops late pl rs n L=true→∀ i∈rs,wpOp P ops (df F KX) i (fun a' w'=>(mem i late=false→c.w.Extends w')∧fc P .any ops (df F KX) (fun i=>mem i late) m (L.setIfInBounds i true) a' w') a c.w):=by
 have hto:ops.toList.toArray=ops:=by simp
 have step:∀ (s:Plan) (m:Nat) (L:Array Bool) (k:Nat) (c:Ctx) (E:Env) (H:Heap) (a:Act) (X:Nat→Bool) (i:Nat),
   (∀ (k:Nat) (c:Ctx) (E:Env) (H:Heap) (a:Act) (X:Nat→Bool),St F c E H a X k→xdF P ops.toList late fz s k (KX .normal) E H→fc P .any ops (df F KX) (fun i=>mem i late) m (L.setIfInBounds i true) a c.w) →
   St F c E H a X k →
   (match onth ops.toList i with
   | some o=>(match gpd ops.toList E o.guard with
     | some p=>(match mem i late with
       | true=>xoB P (mem i fz) k o p E H (xdF P ops.toList late fz s (k+1) (KX .normal))
       | false=>xe P k o p E H (xdF P ops.toList late fz s (k+1) (KX .normal)))
     | none=>False)
   | none=>False) →
   wpOp P ops (df F KX) i (fun a' w'=>(mem i late=false→c.w.Extends w')∧fc P .any ops (df F KX) (fun i=>mem i late) m (L.setIfInBounds i true) a' w') a c.w:=by
  intro s m L k c E H a X i ih hs h
  split at h
  case h_2=>exact h.elim
  rename_i o ho
  split at h
  case h_2=>exact h.elim
  rename_i p hg
  have ho':ops[i]? = some o:=by rw[ga] at ho;simpa using ho
  have hmem:o∈ops.toList:=by
   rw[ga] at ho
   exact List.mem_of_getElem? ho
  obtain⟨hp,hw⟩:=wz hs.er hs.ki rfl hg
  rw[hto] at hw
  have nx:∀ a' w',Nx F (k+1) ((xdF P ops.toList late fz s (k+1) (KX .normal))) a' w'→fc P .any ops (df F KX) (fun i=>mem i late) m (L.setIfInBounds i true) a' w':=by
   rintro a' w' ⟨c',E',H',X',rfl,hs',hk⟩
   exact ih (k+1) c' E' H' a' X' hs' hk
  unfold wpOp
  simp only[ho']
  split at h
  ·rename_i hl
   have hok:OpOk P F (df F KX) o k p a c (xdF P ops.toList late fz s (k+1) (KX .normal)):=by
    unfold xoB at h
    split at h
    ·exact zdq (Q:=df F KX) gt hs (hnt o hmem) hp h
    ·exact nk (Q:=df F KX) gt hs (hnt o hmem) hp h
   by_cases hpc:pc p
   ·rw[if_pos (hw.2 hpc)]
    exact .inl (Oper.wp_mono (fun a w h=>⟨fun h'=>(by rw[hl] at h';cases h'),nx a w h⟩) (hok.1 hpc))
   ·rw[if_neg (fun h=>hpc (hw.1 h))]
    exact⟨fun _=>.refl _,nx _ _ (hok.2 hpc)⟩
  ·have hok:=zat (Q:=df F KX) gt hs (hnt o hmem) hp h
   by_cases hpc:pc p
   ·rw[if_pos (hw.2 hpc)]
    exact .inl (Oper.wp_mono (fun a w h=>⟨fun _=>h.1,nx a w h.2⟩) (hok.1 hpc))
   ·rw[if_neg (fun h=>hpc (hw.1 h))]
    exact⟨fun _=>.refl _,nx _ _ (hok.2 hpc)⟩
 intro pl
 induction pl with
 | done =>
   intro n L k c E H a X hcl hs h
   refine⟨fun hB=>?_,fun rs m hn hne hsub _ hB=>?_⟩
   ·simp only[fv,Bool.and_eq_true,List.isEmpty_iff] at hB
    exact uz hB.2 ⟨c,E,H,rfl,hs.sr,hs.er,hs.ao,h⟩ n
   ·simp only[fv,Bool.and_eq_true,List.isEmpty_iff] at hB
    exact absurd hB.1 hne
 | first i s ih =>
   intro n L k c E H a X hcl hs h
   refine⟨fun hB=>?_,fun rs m hn hne hsub hnf hB=>absurd rfl (hnf i s)⟩
   cases n with
   | zero=>simp[fv] at hB
   | succ n =>
     simp only[fv] at hB
     split at hB
     case h_2=>cases hB
     rename_i o ho
     simp only[Bool.and_eq_true,List.all_eq_true,Bool.or_eq_true,List.contains_iff_mem,Bool.not_eq_true'] at hB
     obtain⟨⟨⟨⟨⟨b1,b2⟩,b3⟩,b4⟩,b5⟩,b6⟩:=hB
     simp only[xdF] at h
     split at h
     case h_2=>exact h.elim
     rename_i o' ho'
     have:ops[i]? = some o':=by rw[ga] at ho';simpa using ho'
     obtain rfl:o=o':=Option.some.inj (ho.symm.trans this)
     split at h
     case h_2=>exact h.elim
     rename_i p hg
     have hmem:o∈ops.toList:=by
      rw[ga] at ho'
      exact List.mem_of_getElem? ho'
     obtain⟨hp,hw⟩:=wz hs.er hs.ki rfl hg
     rw[hto] at hw
     obtain⟨v,hK,hv⟩:=zap hs hp b1 h
     have hr:i∈Region.ready .any ops L:=b3
     have go:∀ u:Value,YieldsIf P ops c.w.Extends o u a→Nx F (k+1) ((xdF P ops.toList late fz s (k+1) (KX .normal))) (a.put o.dst u) c.w→fc P .any ops (df F KX) (fun i=>mem i late) (n+1) L a c.w:=by
      rintro u hy ⟨c',E',H',X',e0,hs',hk⟩
      have:=(ih n (L.setIfInBounds i true) (k+1) c' E' H' (a.put o.dst u) X' (hcl.set hr) hs' hk).1 b6
      rw[e0] at this
      rcases b4 with b4|b4
      ·exact tl (N:=ops.size) ho (Region.noSelect_spec hsel) (fun _ _ _ h=>h.elim) n L a c.w hcl (Region.free_spec ho b2) (fun j hj=>b4 j (mem_true.1 hj)) hr hy this
      ·refine rg ho (Region.noSelect_spec hsel) (fun _ _ _ h=>h.elim) n L a c.w hcl (Region.free_spec ho b2) b4.2 hr ?_ this
       rcases hy with ⟨g1,g2⟩|g
       ·exact .inl ⟨g1,fun w' _=>zdy b4.1 (g2 c.w (.refl _)) w'⟩
       ·exact .inr g
     by_cases hpc:pc p
     ·obtain⟨u,hu,hvu⟩:=hv hpc
      exact go u (.inl ⟨hw.2 hpc,hu⟩) (ox hs (hnt o hmem) hp (fun _=>hvu) (fun h=>absurd hpc h) hK)
     ·exact go undef (.inr ⟨by simpa using fun h=>hpc (hw.1 h),rfl⟩) (ox hs (hnt o hmem) hp (fun h=>absurd h hpc) (fun _=>rfl) hK)
 | one i s ih =>
   intro n L k c E H a X hcl hs h
   have key:∀ rs m,n=m+1→rs ⊆ Region.ready .any ops L→fv .any ops late (.one i s) rs n L=true→∀ j∈rs,wpOp P ops (df F KX) j (fun a' w'=>(mem j late=false→c.w.Extends w')∧fc P .any ops (df F KX) (fun i=>mem i late) m (L.setIfInBounds j true) a' w') a c.w:=by
    rintro rs m rfl hsub hB j hj
    simp only[fv,Bool.and_eq_true,beq_iff_eq] at hB
    obtain⟨rfl,b2⟩:=hB
    obtain rfl:j=i:=by simpa using hj
    exact step s m L k c E H a X j (fun k' c' E' H' a' X' hs' hk=>(ih m _ k' c' E' H' a' X' (hcl.set (hsub hj)) hs' hk).1 b2) hs h
   refine⟨fun hB=>?_,fun rs m hn hne hsub _ hB=>key rs m hn hsub hB⟩
   cases n with
   | zero=>simp[fv] at hB
   | succ n =>
     have hne:Region.ready .any ops L≠[]:=by
      intro h0
      rw[h0] at hB
      simp[fv] at hB
     exact pn rfl hne (key _ n rfl (fun _ h=>h) hB)
 | alt i s t ihs iht =>
   intro n L k c E H a X hcl hs h
   have key:∀ rs m,n=m+1→rs ⊆ Region.ready .any ops L→fv .any ops late (.alt i s t) rs n L=true→∀ j∈rs,wpOp P ops (df F KX) j (fun a' w'=>(mem j late=false→c.w.Extends w')∧fc P .any ops (df F KX) (fun i=>mem i late) m (L.setIfInBounds j true) a' w') a c.w:=by
    rintro rs m rfl hsub hB j hj
    simp only[fv] at hB
    split at hB
    case h_2=>cases hB
    rename_i j1 j2 rs
    simp only[Bool.and_eq_true,beq_iff_eq] at hB
    obtain⟨⟨rfl,b2⟩,b3⟩:=hB
    rcases List.mem_cons.1 hj with rfl|hj
    ·exact step s m L k c E H a X j (fun k' c' E' H' a' X' hs' hk=>(ihs m _ k' c' E' H' a' X' (hcl.set (hsub (.head _))) hs' hk).1 b2) hs h.1
    ·exact (iht (m+1) L k c E H a X hcl hs h.2).2 _ m rfl (by simp) (fun x hx=>hsub (.tail _ hx)) (fun i s h=>by subst h;simp[Plan.isFirst] at b3) b3.2 j hj
   refine⟨fun hB=>?_,fun rs m hn hne hsub _ hB=>key rs m hn hsub hB⟩
   cases n with
   | zero=>simp[fv] at hB
   | succ n =>
     have hne:Region.ready .any ops L≠[]:=by
      intro h0
      rw[h0] at hB
      simp[fv] at hB
     exact pn rfl hne (key _ n rfl (fun _ h=>h) hB)
theorem zgu {n id:Nat} {ops:Array Oper} {E:Env} {H:Heap} {K:VM.X→Env→Heap→Prop} (hm:P.follows .mixedOrders=true) (late fz:List Nat) (pl:Plan)
  (hB:(Region.noSelect ops && fv .any ops late pl (Region.ready .any ops (Array.replicate ops.size false)) ops.size (Array.replicate ops.size false))=true)
  (h:xdF P ops.toList late fz pl 0 (K .normal) (gl E) H):cx P n (.region id ops true) E H K:=by
 intro F c a hn hs he ha hok
 simp only[Bool.and_eq_true] at hB
 obtain⟨hs',hle⟩:=hs.drew
 have hcl:Closed .any ops (Array.replicate ops.size false):=⟨by simp,fun j oj hj hl=>by
  have:(Array.replicate ops.size false).getD j false=false:=by
   rcases Nat.lt_or_ge j ops.size with h|h
   ·simp[h]
   ·simp[h]
  rw[this] at hl
  cases hl⟩
 have:=(zln (F:=F) (KX:=K) hn.gt hB.1 (mr hok) pl ops.size (Array.replicate ops.size false) 0 { c with w:=c.w.drew } (gl E) H a _ hcl ⟨hs',lh (fy hle he),lc E,ha⟩ h).1 hB.2
 exact wpIn_mono (oz hm og (pd hok) (se _ _ _ _ this)) fun _ _ _=>ou
end
section
variable {P:Program} {ops:List Oper} {k i:Nat} {o:Oper} {K:Env→Heap→Prop} {E E':Env} {H H':Heap} {p p':Path} {late fz:List Nat} {s t:Plan}
@[congr] theorem xdF_congr (h1:E=E') (h2:H=H'):xdF P ops late fz s k K E H=xdF P ops late fz s k K E' H':=by rw[h1,h2]
def xpF (P:Program) (ops:List Oper) (late fz:Bool) (i k:Nat) (o:Option Oper) (E:Env) (H:Heap) (K:Env→Heap→Prop):Prop :=
 match o with
 | some o=>xg (gpd ops E o.guard) fun p=>(match late with|true=>xoB P fz k o p E H K|false=>xe P k o p E H K)
 | none=>False
@[congr] theorem xpF_congr {l l' f f':Bool} {q q':Option Oper} (h:l=l') (hf:f=f') (h':q=q'):xpF P ops l f i k q E H K=xpF P ops l' f' i k q' E H K:=by rw[h,hf,h']
theorem zsa {f:Bool}:xpF P ops true f i k (some o) E H K=xg (gpd ops E o.guard) fun p=>xoB P f k o p E H K:=nr rfl
theorem zmw {f:Bool}:xpF P ops false f i k (some o) E H K=xg (gpd ops E o.guard) fun p=>xe P k o p E H K:=nr rfl
theorem ztx:xdF P ops late fz .done k K E H=K E H:=nr rfl
theorem zpy:xdF P ops late fz (.first i s) k K E H=xp P ops true i k (onth ops i) E H (xdF P ops late fz s (k+1) K):=nr (by
 unfold xp xg;conv=>lhs;unfold xdF
 cases onth ops i<;>rfl)
theorem z4b:xdF P ops late fz (.one i s) k K E H=xpF P ops (mem i late) (mem i fz) i k (onth ops i) E H (xdF P ops late fz s (k+1) K):=nr (by
 unfold xpF xg;conv=>lhs;unfold xdF
 cases onth ops i<;>rfl)
theorem z3w:xdF P ops late fz (.alt i s t) k K E H=(xpF P ops (mem i late) (mem i fz) i k (onth ops i) E H (xdF P ops late fz s (k+1) K)∧xdF P ops late fz t k K E H):=nr (by
 unfold xpF xg;conv=>lhs;unfold xdF
 cases onth ops i<;>rfl)
end
attribute [go_sem] zsa zmw ztx zpy z4b z3w
end Go.VM
end
