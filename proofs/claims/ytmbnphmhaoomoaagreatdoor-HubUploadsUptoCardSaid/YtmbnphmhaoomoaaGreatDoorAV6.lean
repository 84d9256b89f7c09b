import Derived.Test.YtmbnphmhaoomoaaGreatDoorAV5
set_option linter.unusedVariables false
set_option linter.unusedSimpArgs false
set_option linter.unnecessarySimpa false
set_option maxHeartbeats 4000000
namespace Go.VM
mutual
def nv:V→Bool
 | .lst _ _ _ _ _=>false
 | .iptr _ _=>false
 | .agg cs=>nvs cs
 | .tup cs=>nvs cs
 | .fn _ a b=>band (nvs a) (nvs b)
 | _=>true
def nvs:List V→Bool
 | []=>true
 | v::vs=>band (nv v) (nvs vs)
end
def nvB:Blk→Prop
 | .box cs=>nvs cs=true
 | .arr _ _ f=>∀ i,nvs (f i)=true
 | .mp es=>mAll (fun v=>nv v=true) es
 | .dead=>True
def nvH:Heap→Prop
 | []=>True
 | b::H=>nvB b∧nvH H
mutual
theorem z1e {c c':Ctx} (hl:c'.locs=c.locs):∀ (v:V) (u:Value),nv v=true→VR c v u→VR c' v u
 | .bad,_,_,_=>by simp only[VR]
 | .nil,_,_,h=>by simpa only [VR] using h
 | .bool _,_,_,h=>by simpa only [VR] using h
 | .int _ _,_,_,h=>by simpa only [VR] using h
 | .str _,_,_,h=>by simpa only [VR] using h
 | .lst _ _ _ _ _,_,hf,_ | .iptr _ _,_,hf,_=>by simp[nv] at hf
 | .own _ _ _ _ _ _,_,_,h | .ptr _ _,_,_,h | .eptr _ _ _ _,_,_,h | .mp _,_,_,h=>by simp only[VR] at h ⊢;rw[hl];exact h
 | .agg cs,u,hf,h=>by
   simp only[VR] at h ⊢
   obtain⟨us,e1,e2,e0,e3⟩:=h
   exact⟨us,e1,e2,e0,xu hl cs _ (by simpa [nv] using hf) e3⟩
 | .tup cs,u,hf,h=>by
   simp only[VR] at h ⊢
   obtain⟨us,e1,e2,e3⟩:=h
   exact⟨us,e1,e2,xu hl cs _ (by simpa [nv] using hf) e3⟩
 | .fn f a b,u,hf,h=>by
   simp only[VR] at h ⊢
   obtain⟨us,ws,e1,e2,e3,e4,e5⟩:=h
   simp only[nv] at hf
   exact⟨us,ws,e1,e2,e3,xu hl a _ (ax hf).1 e4,xu hl b _ (ax hf).2 e5⟩
theorem xu {c c':Ctx} (hl:c'.locs=c.locs):∀ (vs:List V) (g:Nat→Option Value),nvs vs=true→VRs c vs g→VRs c' vs g
 | [],_,_,_=>by simp only[VRs]
 | v::vs,g,hf,h=>by
   simp only[VRs] at h ⊢
   simp only[nvs] at hf
   obtain⟨⟨u,e1,e2⟩,e3⟩:=h
   exact⟨⟨u,e1,z1e hl v u (ax hf).1 e2⟩,xu hl vs _ (ax hf).2 e3⟩
end
theorem znw:∀ {H:Heap} {r:Nat} {b:Blk},nvH H→H[r]? = some b→nvB b
 | [],_,_,_,h=>by simp at h
 | x::H,0,b,hn,h=>by simp at h;exact h ▸ hn.1
 | x::H,r+1,b,hn,h=>znw hn.2 (by simpa using h)
theorem z3d {c c':Ctx} (hl:c'.locs=c.locs) {O:Obj} {cap:Nat}:∀ {x:Blk},nvB x→Cont c O cap x→Cont c' O cap x
 | .box cs,hn,⟨C,el,h1,h2,h3,h4⟩=>⟨C,el,h1,h2,h3,xu hl _ _ hn h4⟩
 | .arr e n f,hn,⟨C,el,h1,h2,h3,h4⟩=>⟨C,el,h1,h2,h3,fun i hi=>⟨(h4 i hi).1,(h4 i hi).2.1,xu hl _ _ (hn i) (h4 i hi).2.2⟩⟩
 | .mp es,hn,⟨A,k,h1,h2⟩=>⟨A,k,h1,h2.map fun x hx u hu=>z1e hl _ _ (hn x hx) hu⟩
 | .dead,_,_=>trivial
theorem SR.less {w:World} {I J:Nat→Prop} {c':Ctx} {H1:Heap} (hIJ:∀ b,I b→J b) (hI:∀ b,I b→b<w.heap.size) (h:SR ⟨⟨w,J,[]⟩,fun _=>False,0,none,[]⟩ c' H1) (hn:nvH H1) :
  SR ⟨⟨w,I,[]⟩,fun _=>False,0,none,[]⟩ { c' with I:=I } H1:=by
 refine⟨⟨h.fr.os,h.fr.tape,h.fr.output,h.fr.size,h.fr.block⟩,⟨fun r x e=>by simp at e,fun _ h=>h,fun b hb=>h.le.heap b (hIJ b hb)⟩,h.len, ?_,h.inj,fun b hb=>Nat.lt_of_lt_of_le (hI b hb) h.fr.size,fun b hb=>.inl hb⟩
 intro r x l hr hl
 have hb:=h.blk r x l hr hl
 cases l with
 | none=>exact hb
 | some l =>
   obtain⟨b,cap⟩:=l
   intro hlive
   obtain⟨O,g1,g2,g3,g4⟩:=hb hlive
   exact⟨O,g1,z3d (c:=c') (c':={ c' with I:=I }) rfl (znw hn hr) g2,fun hi=>g3 (h.le.I b (hIJ b hi)),g4⟩
section
variable {P:Program} {n:Nat} {E:Env} {H:Heap}
theorem zoj (d:Nat) {f:Nat} {args:List V} {v:V} {H1:Heap} (h:Meets P f (frWs true (frD [] H d) [] H args) v H1) (hok:okWs (okD [] H d) [] H args) (hv:nv v=true) (hn:nvH H1)
  {K:V→Heap→Prop} (hk:K (shV (hlen H) v) (happ H (shH (hlen H) H1))):cwE P f args H K:=by
 refine⟨h.1,fun F c gt hs us hsz hus=>?_⟩
 have himm:∀ b,FzI c [] H b→b<c.w.heap.size:=by
  rintro b (h | ⟨r,cap,x,h1,h2,h3,h4⟩)
  ·exact hs.imm b h
  ·obtain⟨C,k1,_⟩:=hs.blk r x _ h2 h4 h3
   exact (Array.getElem?_eq_some_iff.1 k1).1
 have hus':VRs ⟨c.w,FzI c [] H,[]⟩ (frWs true (frD [] H d) [] H args) fun j=>us[j]? :=
  kj (top:=true) (σ:=[]) hs (fun _ r i h=>by cases h) (fun _ h=>h) (tr hs (fun _ h=>h) d) (gk [] H d) args _ hok hus
 refine Calls.mono (h.2 c.w (FzI c [] H) (gt c H hs) himm us (by rw[dp];exact hsz) hus') ?_
 rintro e w' ⟨c',u,rfl,rfl,h1,h2⟩
 have h3:=SR.less (I:=c.I) (fun b hb=>.inl hb) hs.imm h1 hn
 have hx:c.w.Extends c'.w:=ko (c:=⟨c.w,c.I,[]⟩) h3.fr
 obtain⟨k1,k2⟩:=hs.call h3
 rw[bt,zav] at hk
 have h4:VR { c' with I:=c.I } v u:=z1e (c:=c') (c':={ c' with I:=c.I }) rfl v u hv h2
 have key:=zpc (c:={ c' with I:=c.I }) (c':=⟨c'.w,c.I,c.locs++c'.locs⟩) (n:=H.length) rfl (fun _ h=>h) (fun r l hr=>by
  show (c.locs++c'.locs)[H.length+r]? = _
  rw[List.getElem?_append_right (by rw[hs.len];omega),hs.len]
  simpa using hr) v u h4
 exact⟨⟨c'.w,c.I,c.locs++c'.locs⟩,u,_,_,rfl,rfl,k2,k1,key,hx,hk⟩
theorem zvx (d:Nat) {f:Nat} {args:List V} {v:V} {H1:Heap} (h:Meets P f (frWs true (frD [] H d) [] H args) v H1) (hok:okWs (okD [] H d) [] H args) (hv:nv v=true) (hn:nvH H1)
  {K:V→Heap→Prop} (hk:K (shV (hlen H) v) (happ H (shH (hlen H) H1))):cw P f args H K:=by
 obtain⟨hb,hc⟩:=zoj (K:=K) d h hok hv hn hk
 refine fun F c gt hs us hsz hus=>.inl ⟨hb,Calls.mono (hc F c gt hs us hsz hus) ?_⟩
 rintro e w' ⟨c',u,v',H',h1,h2,h3,h4,h5,_,h6⟩
 exact⟨c',u,v',H',h1,h2,h3,h4,h5,h6⟩
theorem cw_n (d:Nat) {f:Nat} {args0 args:List V} {v:V} {H1:Heap} {K:V→Heap→Prop} (h:Meets P f args v H1) (ha:wks (frWs true (frD [] H d) [] H args0) args) (hok:okWs (okD [] H d) [] H args0) (hv:nv v=true) (hn:nvH H1)
  (hk:K (shV (hlen H) v) (happ H (shH (hlen H) H1))):cw P f args0 H K :=
 zvx d (h.wk ha (bf _) (jv _)) hok hv hn hk
end
theorem byN {H:Heap} (h:nvH H:=by first|exact trivial|(simp only[nvH,nvB,En];and_intros<;>first|trivial|rfl|(intro i;rfl))):nvH H:=h
end Go.VM
