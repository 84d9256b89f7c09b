import Derived.Test.YtmbnphmhaoomoaaGreatDoorAV6
import Derived.Shelf.GgClosure.StringsIndexFuncTop
set_option linter.unusedVariables false
set_option linter.unusedSimpArgs false
set_option maxHeartbeats 4000000
namespace Go.VM
open Go.Proofs
variable {P:Program}
theorem zbv {f:Nat} (hname:aw P f=true)
  (hcon:∀ (g:Nat) (lb:Array Value) (eg:∀ args w,(callFunc g args).run P w = .ok (.enter g args) w) (p:Nat→Bool) (s:ByteArray) (w:World) (hp:PredAt P g lb encR p w),
   Calls P f #[.string s,.func (.func g) #[] lb] w fun e w'=>e = .returned (.int .i64 (Lib.idxFunc p true s))∧RowKit.Below w.heap.size w w')
  {g:Nat} (eg:∀ args w,(callFunc g args).run P w = .ok (.enter g args) w) (p:Nat→Bool) {caps:List V} {H:Heap} (s:List UInt8)
  (hp:∀ F c,SR F c H→∀ lb:Array Value,lb.size=caps.length→VRs c caps (fun j=>lb[j]?)→PredAt P g lb encR p c.w)
  {K:V→Heap→Prop} (hk:K (.int .i64 (Lib.idxFunc p true ⟨s.toArray⟩)) H):cw P f [.str s,.fn g [] caps] H K:=by
 intro F c gt hs us hsz hus
 simp only[VRs,VR] at hus
 obtain⟨⟨u1,g1,rfl⟩,⟨u2,g2,us0,ws,rfl,z1,z2,-,z3⟩,-⟩:=hus
 obtain rfl:us0 = #[]:=Array.eq_empty_of_size_eq_zero z1
 have hus:us = #[.string ⟨s.toArray⟩,.func (.func g) #[] ws]:=by
  apply Array.ext'
  apply List.ext_getElem?
  intro j
  have hl:us.toList.length=2:=by simpa using hsz
  rcases j with _|_|j
  ·simpa using g1
  ·simpa using g2
  ·rw[List.getElem?_eq_none (by omega)]
   simp
 subst hus
 refine .inl ⟨hname,Calls.mono (hcon g ws eg p ⟨s.toArray⟩ c.w (hp F c hs ws z2 z3)) ?_⟩
 rintro e w' ⟨rfl,hb⟩
 obtain⟨k3,k4⟩:=hs.after (w':=w') ⟨hb.os,hb.tape,hb.output,hb.size,fun k hk _=>hb.block k hk⟩
 exact⟨_,_,.int .i64 _,H,rfl,rfl,k4,k3,by simp only[VR],hk⟩
end Go.VM
