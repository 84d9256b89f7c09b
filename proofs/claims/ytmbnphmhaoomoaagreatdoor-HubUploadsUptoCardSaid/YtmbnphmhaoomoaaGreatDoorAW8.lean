import Derived.Test.YtmbnphmhaoomoaaGreatDoorAW7
import Derived.Test.YtmbnphmhaoomoaaGreatDoorAV10
import Derived.Test.YtmbnphmhaoomoaaGreatDoorAW3
import Derived.Test.YtmbnphmhaoomoaaGreatDoorAW1
import Derived.Test.YtmbnphmhaoomoaaGreatDoorAW4
import Derived.Test.YtmbnphmhaoomoaaGreatDoorAW2
set_option maxHeartbeats 4000000
set_option linter.unusedVariables false
set_option linter.unusedSimpArgs false
set_option maxRecDepth 100000
section
open Go Go.VM Go.Proofs Tether
namespace Go.VM.Tryz
theorem wn:okJ noJ:=⟨⟨by simp[noJ],by simp[noJ]⟩,⟨by simp[noJ],by simp[noJ]⟩⟩
theorem iw:okG noG:=⟨⟨by simp[noG],by simp[noG]⟩,⟨by simp[noG],by simp[noG]⟩⟩
theorem z3z {j:Journal} {c:Commit} (ok:okJ j) (okc:okM c) (hl:j.commits.length≤30):okJ (addJ j c):=by
 have hm:okMs (j.commits++[c]):=⟨by simp;omega,fun x hx=>by
  rcases List.mem_append.1 hx with h|h
  ·exact ok.2.2 x h
  ·rw[List.mem_singleton.1 h];exact okc⟩
 unfold addJ
 split
 ·refine⟨?_,⟨by simp;omega,fun x hx=>hm.2 x (List.mem_of_mem_drop hx)⟩⟩
  by_cases h0:(allP j.base ((j.commits++[c]).getD 0 default).changes j.first).2.2=0
  ·refine (zcz ok.1 ?_ h0).ok
   exact (hm.2 _ (bj (by simp))).2
  ·have:(allP j.base ((j.commits++[c]).getD 0 default).changes j.first).1=[]:=by
    unfold allP at h0 ⊢
    split
    ·rfl
    ·split
     ·rfl
     ·split
      ·rfl
      ·rename_i h1 h2 h3
       rw[if_neg h1,if_neg h2,if_neg h3] at h0
       exact za _ _ _ _ h0
   rw[this]
   exact⟨by simp,by simp⟩
 ·exact⟨ok.1,hm⟩
theorem zov {j:Journal} {key:Str} {l:List Change} (ok:okJ j) (hk:key.length≤1048576) (okl:okCs l):okJ (ci j key l).1:=by
 unfold ci
 split
 ·exact wn
 ·rename_i h0
  have hr:=(pg (Classical.not_not.1 h0)).2.2
  split
  ·exact wn
  ·split
   ·exact ok
   ·split
    ·exact wn
    ·split
     ·exact wn
     ·split
      ·exact wn
      ·exact z3z ok ⟨hk,okl⟩ hr
theorem zzg {j:Journal} (ok:okJ j) (cur most:Int):okG (px j cur most).1:=by
 unfold px
 split
 ·exact iw
 ·rename_i h0
  have hf:=(nw ok (Classical.not_not.1 h0)).ok
  split
  ·exact iw
  ·split
   ·exact iw
   ·split
    ·exact⟨hf,⟨by simp,by simp⟩⟩
    ·exact⟨⟨by simp,by simp⟩,zoh ok cur most⟩
end Go.VM.Tryz
end
section
open Go Go.VM Go.Proofs Tether
namespace Go.VM.Tryz
theorem zfh {j:Journal} {key:Str} {l:List Change} (h:(bl j).2≠0):ci j key l=(noJ,0,(bl j).2):=by rw[ci,if_pos h]
end Go.VM.Tryz
end
section
open Go Go.VM Go.Proofs Tether
namespace Go.VM.Tryz
theorem zpi {j:Journal} (h:(bl j).2=0):fk j.base j.first j.commits=((bl j).1,0)∧(fh j.commits).Nodup:=by
 have h1:(fk j.base j.first j.commits).2=0:=by unfold bl at h;grind
 have h2:(bl j).1=(fk j.base j.first j.commits).1:=by unfold bl at h ⊢;grind
 have h3:(fh j.commits).Nodup:=by unfold bl at h;grind
 exact⟨Prod.ext h2.symm h1,h3⟩
theorem zie {j:Journal} (h1:dd j.base=0) (h2:1≤j.first) (h3:j.first≤1000000) (h4:j.commits.length≤30) {t:List Entry} (h5:fk j.base j.first j.commits=(t,0)) (h6:(fh j.commits).Nodup):bl j=(t,0):=by
 rw[zgm h1 (by omega) (by omega) h5,if_pos h6]
theorem keyIx {key:Str} {l:List Commit} (h:¬ 0≤idxF (isK key) l):key ∉ fh l:=by
 intro hm
 obtain⟨c,hc,rfl⟩:=List.mem_map.1 hm
 apply h
 unfold idxF
 cases hf:l.findIdx? (isK c.key) with
 | some i=>simp
 | none =>
   rw[List.findIdx?_eq_none_iff] at hf
   have:=hf c hc
   simp[isK] at this
theorem z3s {key:Str} {l:List Commit} {c:Commit} (h:key ∉ fh l) (hc:c.key=key):idxF (isK key) (l++[c])=(l.length:Nat):=by
 refine qr (d:=default) (by simp) (fun a ha=>?_) ?_
 ·have:(l++[c]).getD a default=l[a]:=by simp[List.getD,List.getElem?_append_left ha,ha]
  rw[this]
  simp only[isK,decide_eq_false_iff_not]
  intro e
  exact h (List.mem_map.2 ⟨l[a],List.getElem_mem _,e⟩)
 ·simp[isK,hc]
theorem zht {t u:List Entry} {n:Int} {l:List Commit} {c:Commit} {w:List Entry × Int × Int} (h:fk t n l=(u,0)) (hn:c.number=n+l.length) (h1:c.number≤1000000) (hk:zaw c.key=true) (hc:c.changes≠[]) (ha:allP u c.changes (n+l.length)=w) (h0:w.2.2=0) :
  fk t n (l++[c])=(w.1,0):=by
 subst ha
 rw[ry,h,if_neg (by simp)]
 have hx:ii (n+l.length) c=0:=by
  rw[ii,if_neg (by simpa using hn),if_neg (by omega),if_neg]
  rintro (h|h)
  ·rw[hk] at h;cases h
  ·exact hc h
 rw[fk,if_neg (by simpa using hx),if_neg (by simpa using h0),fk]
theorem once {j:Journal} {key:Str} {a:List Change} (h:(ci j key a).2.2=0) (b:List Change) :
  (bl (ci j key a).1).2=0∧ci (ci j key a).1 key b=((ci j key a).1,(ci j key a).2.1,0):=by
 have hopen:(bl j).2=0:=by
  refine Classical.byContradiction fun h0=>?_
  rw[zfh h0] at h
  exact h0 h
 have hkey:zaw key=true:=by
  cases hk:zaw key with
  | true=>rfl
  | false =>
    unfold ci at h
    rw[if_neg (by simpa using hopen),if_pos hk] at h
    cases h
 by_cases hix:0≤idxF (isK key) j.commits
 ·have hc:∀ l,ci j key l=(j,(j.commits.getD (idxF (isK key) j.commits).toNat default).number,0):=fun l=>by
   rw[ci,if_neg (by simpa using hopen),if_neg (by simp[hkey]),if_pos hix]
  rw[hc a,hc b]
  exact⟨hopen,rfl⟩
 ·have hc:ci j key a=if a=[] then (noJ,0,1) else if 1000000<j.first+j.commits.length then (noJ,0,3)
    else if (allP (bl j).1 a (j.first+j.commits.length)).2.2≠0 then (noJ,0,(allP (bl j).1 a (j.first+j.commits.length)).2.2)
    else (addJ j ⟨j.first+j.commits.length,key,a⟩,j.first+j.commits.length,0):=by
   rw[ci,if_neg (by simpa using hopen),if_neg (by simp[hkey]),if_neg hix]
  rw[hc] at h
  have ha:¬ a=[]:=fun e=>by rw[if_pos e] at h;cases h
  rw[if_neg ha] at h hc
  have hr:¬ 1000000<j.first+j.commits.length:=fun e=>by rw[if_pos e] at h;cases h
  rw[if_neg hr] at h hc
  have hal:¬ (allP (bl j).1 a (j.first+j.commits.length)).2.2≠0:=fun e=>by rw[if_pos e] at h;exact e h
  rw[if_neg hal] at hc
  have hal0:(allP (bl j).1 a (j.first+j.commits.length)).2.2=0:=Classical.not_not.1 hal
  obtain⟨hrun,hnd⟩:=zpi hopen
  obtain⟨hr1,hr2,hr3⟩:=pg hopen
  have hno:=keyIx hix
  have hbase:=zkd hopen
  have key2:∀ x:Journal,(bl x).2=0→(∃ l,x.commits=l++[⟨j.first+j.commits.length,key,a⟩]∧key ∉ fh l)→ci x key b=(x,j.first+j.commits.length,0):=by
   rintro x hx ⟨l,hl,hk⟩
   have hi:idxF (isK key) x.commits=(l.length:Nat):=by rw[hl];exact z3s hk rfl
   rw[ci,if_neg (by simpa using hx),if_neg (by simp[hkey]),if_pos (by omega),hi,hl]
   simp
  have hx:(bl (addJ j ⟨j.first+j.commits.length,key,a⟩)).2=0∧∃ l,(addJ j ⟨j.first+j.commits.length,key,a⟩).commits=l++[⟨j.first+j.commits.length,key,a⟩]∧key ∉ fh l:=by
   unfold addJ
   by_cases hlen:30<j.commits.length+1
   ·rw[if_pos hlen]
    rcases hcm:j.commits with _ | ⟨c0,r⟩
    ·rw[hcm] at hlen;simp at hlen
    ·rw[hcm] at hrun hnd hno hr3 hlen
     have hg0:((c0::r)++[(⟨j.first+(c0::r).length,key,a⟩:Commit)]).getD 0 default=c0:=rfl
     rw[hg0]
     rw[fk] at hrun
     by_cases e1:ii j.first c0≠0
     ·rw[if_pos e1] at hrun
      exact absurd (congrArg Prod.snd hrun) e1
     ·rw[if_neg e1] at hrun
      by_cases e2:(allP j.base c0.changes j.first).2.2≠0
      ·rw[if_pos e2] at hrun
       exact absurd (congrArg Prod.snd hrun) e2
      ·rw[if_neg e2] at hrun
       have e2':(allP j.base c0.changes j.first).2.2=0:=Classical.not_not.1 e2
       have hfull:FullT (allP j.base c0.changes j.first).1:=by
        rw[zce hbase] at e2' ⊢
        exact zdf hbase e2'
       have hlen2:(c0::r).length=r.length+1:=rfl
       have hn1:j.first+((c0::r).length:Nat)=j.first+1+(r.length:Nat):=by rw[hlen2];omega
       have hsn:fk (allP j.base c0.changes j.first).1 (j.first+1) (r++[⟨j.first+(c0::r).length,key,a⟩])=((allP (bl j).1 a (j.first+j.commits.length)).1,0):=by
        refine zht hrun hn1 (by rw[hcm] at hr;dsimp only;omega) hkey ha ?_ hal0
        dsimp only
        rw[hcm,hn1]
       have hnd2:(fh (r++[⟨j.first+(c0::r).length,key,a⟩])).Nodup:=by
        have h1:(fh r).Nodup:=(List.nodup_cons.1 hnd).2
        have h2:key ∉ fh r:=fun e=>hno (.tail _ e)
        unfold fh at h1 h2 ⊢
        rw[List.map_append]
        refine List.nodup_append.2 ⟨h1,by simp,fun x hx y hy e=>?_⟩
        simp at hy
        subst hy
        subst e
        exact h2 hx
       have hd:((c0::r)++[(⟨j.first+(c0::r).length,key,a⟩:Commit)]).drop 1=r++[⟨j.first+(c0::r).length,key,a⟩]:=rfl
       rw[hd]
       refine⟨?_,r,rfl,fun e=>hno (.tail _ e)⟩
       exact congrArg Prod.snd (zie (j:=⟨(allP j.base c0.changes j.first).1,j.first+1,r++[⟨j.first+(c0::r).length,key,a⟩]⟩) (checkT_iff.2 hfull) (by dsimp only;omega) (by dsimp only;rw[hcm,hlen2] at hr;omega) (by simp;rw[hlen2] at hr3;omega) hsn hnd2)
   ·rw[if_neg hlen]
    have hsn:=zht hrun (c:=⟨j.first+j.commits.length,key,a⟩) rfl (by dsimp only;omega) hkey ha rfl hal0
    have hnd2:(fh (j.commits++[⟨j.first+j.commits.length,key,a⟩])).Nodup:=by
     unfold fh at hnd hno ⊢
     rw[List.map_append]
     refine List.nodup_append.2 ⟨hnd,by simp,fun x hx y hy e=>?_⟩
     simp at hy
     subst hy
     subst e
     exact hno hx
    refine⟨?_,j.commits,rfl,hno⟩
    exact congrArg Prod.snd (zie (j:=⟨j.base,j.first,j.commits++[⟨j.first+j.commits.length,key,a⟩]⟩) (checkT_iff.2 hbase) hr1 hr2 (by simp;omega) hsn hnd2)
  rw[hc]
  exact⟨hx.1,key2 _ hx.1 hx.2⟩
end Go.VM.Tryz
end
section
open Go Go.VM Go.Proofs Tether
namespace Go.VM.Tryz
end Go.VM.Tryz
end
section
open Go Go.VM Go.Proofs Tether
namespace Tether
structure Shared where
 name:Str
 jn:Journal
 deriving Inhabited,DecidableEq
structure Hub where
 folders:List Shared
 grants:List Grant
 ups:Uploads
 now:Int
 deriving Inhabited,DecidableEq
structure Answer where
 err:Int
 number:Int
 page:Page
 deriving Inhabited,DecidableEq
def keyE (s:Shared):Entry:=⟨s.name,false,[],0⟩
def fo (l:List Shared):Prop:=bo (l.map keyE)
def fIx (l:List Shared) (p:Str):Nat:=eIx (l.map keyE) p
def hasF (l:List Shared) (p:Str):Bool:=hasE (l.map keyE) p
theorem zpw (l:List Shared) (p:Str):fIx l p≤l.length:=by simpa [fIx] using zdp (l.map keyE) p
theorem oh (l:List Shared) (j:Nat):((l.map keyE).getD j default).path=(l.getD j default).name:=by
 by_cases h:j<l.length
 ·simp[List.getD,h,keyE]
 ·rw[List.getD_eq_getElem?_getD,List.getD_eq_getElem?_getD,List.getElem?_eq_none (by simpa using h),List.getElem?_eq_none (by omega)]
  rfl
theorem z1z {l:List Shared} {p:Str} {j:Nat} (h:j<fIx l p):cmpS (l.getD j default).name p<0:=by
 rw[← oh]
 exact zxv h
theorem z1f {l:List Shared} (hs:fo l) {p:Str} {j:Nat} (h:fIx l p≤j) (hj:j<l.length):0≤cmpS (l.getD j default).name p:=by
 rw[← oh]
 exact zxs hs h (by simpa using hj)
theorem lw (l:List Shared) (p:Str):hasF l p=(decide (fIx l p<l.length) && decide ((l.getD (fIx l p) default).name=p)):=by
 unfold hasF hasE fIx
 rw[oh,List.length_map]
theorem ld {l:List Shared} (hs:fo l) {p:Str}:hasF l p=true↔∃ s∈l,s.name=p:=by
 unfold hasF
 rw[pr hs]
 constructor
 ·rintro⟨x,hx,e⟩
  obtain⟨s,h1,rfl⟩:=List.mem_map.1 hx
  exact⟨s,h1,e⟩
 ·rintro⟨s,h1,e⟩
  exact⟨keyE s,List.mem_map_of_mem h1,e⟩
end Tether
namespace Go.VM.Tryz
def shE (s:Shared):List V:=[.str s.name,esV s.jn.base,.int .i64 s.jn.first,cmsV s.jn.commits]
theorem shE_eq (s:Shared):shE s=[.str s.name,esV s.jn.base,.int .i64 s.jn.first,cmsV s.jn.commits]:=rfl
abbrev shsV (l:List Shared):V:=lstV 4 shE default l
def hubE (h:Hub):List V:=[shsV h.folders,gsV h.grants,ssV h.ups.ss,.int .i64 h.ups.next,.int .i64 h.ups.lasts,.int .i64 h.ups.room,.int .i64 h.now]
theorem z2k (h:Hub):hubE h=[shsV h.folders,gsV h.grants,ssV h.ups.ss,.int .i64 h.ups.next,.int .i64 h.ups.lasts,.int .i64 h.ups.room,.int .i64 h.now]:=rfl
def anE (a:Answer):List V:=[.int .i64 a.err,.int .i64 a.number,.bool a.page.whole,esV a.page.tree,cmsV a.page.commits,.int .i64 a.page.cursor,.bool a.page.more]
theorem anE_eq (a:Answer):anE a=[.int .i64 a.err,.int .i64 a.number,.bool a.page.whole,esV a.page.tree,cmsV a.page.commits,.int .i64 a.page.cursor,.bool a.page.more]:=rfl
attribute [go_sem] shE_eq z2k anE_eq
def okSh (s:Shared):Prop:=s.name.length≤1048576∧okJ s.jn
def okShs (l:List Shared):Prop:=l.length≤1048576∧∀ s∈l,okSh s
def okGs (l:List Grant):Prop:=l.length≤1048576∧∀ g∈l,g.folder.length≤1048576∧g.who.length≤1048576
def okUs (u:Uploads):Prop:=u.ss.length≤1048576∧∀ s∈u.ss,s.who.length≤1048576∧s.text.length≤1048576
def dz (h:Hub):Prop:=okShs h.folders∧okGs h.grants∧okUs h.ups
theorem okGs.good {l:List Grant} (h:okGs l):Tether.okG l:=⟨by have:=h.1;omega,fun g hg=>⟨by have:=(h.2 g hg).1;omega,by have:=(h.2 g hg).2;omega⟩⟩
theorem okUs.good {u:Uploads} (h:okUs u):u.ok:=⟨by have:=h.1;omega,fun s hs=>⟨by have:=(h.2 s hs).1;omega,by have:=(h.2 s hs).2;omega⟩⟩
def noU:Uploads:=⟨[],0,0,0⟩
def noH:Hub:=⟨[],[],noU,0⟩
def noA:Answer:=⟨0,0,noG⟩
end Go.VM.Tryz
end
section
open Go Go.VM Go.Proofs Tether
namespace Go.VM.Tryz
theorem zbs (l:List Shared) (hl:l.length*72≤140737488355328):Meets Tryz.prog 78 [lstV 4 shE default l] (.own none 0 4 0 l.length .loose) [.arr 4 l.length (En shE default l)]:=by
 refine an (fn:=Tryz.f78) Tryz.func78 rfl fb78 (by kernel_rfl) (Nat.le_of_ble_eq_true rfl) ?_
 refine uc 0 rfl fun b hb=>?_
 refine aa ?_
 simp only[go_sem]
 repeat first|(with_reducible refine ad ?_ ?_;exact byD)|(with_reducible refine ae ?_ ?_;exact byQ)
 refine ab ?_
 refine aa ?_
 simp only[go_sem]
 intro t4 e4
 subst e4
 refine ah _ rfl (fun h4=>?_) (fun h4=>?_)
 ·
  (try simp only[go_sem] at h4)
  have hb:=hb h4
  refine aa ?_
  simp only[go_sem]
  refine fp 2 4 (En shE default l) rfl ?_
  simp only[go_sem]
  refine af ?_
  simp only[go_sem]
  exact ap 1 [0] rfl byC byC byC byC
 ·
  (try simp only[go_sem] at h4)
  refine ag ?_
  (try simp only[go_sem])
  refine aa ?_
  simp only[go_sem]
  repeat first|(with_reducible refine ad ?_ ?_;exact byD)|(with_reducible refine ae ?_ ?_;exact byQ)
  refine af ?_
  simp only[go_sem]
  exact ap 1 [1] rfl byC byC byC byC
theorem ql (l:List Grant) (hl:l.length*40≤140737488355328):Meets Tryz.prog 79 [lstV 3 Grant.enc default l] (.own none 0 3 0 l.length .loose) [.arr 3 l.length (En Grant.enc default l)]:=by
 refine an (fn:=Tryz.f79) Tryz.func79 rfl fb79 (by kernel_rfl) (Nat.le_of_ble_eq_true rfl) ?_
 refine uc 0 rfl fun b hb=>?_
 refine aa ?_
 simp only[go_sem]
 repeat first|(with_reducible refine ad ?_ ?_;exact byD)|(with_reducible refine ae ?_ ?_;exact byQ)
 refine ab ?_
 refine aa ?_
 simp only[go_sem]
 intro t4 e4
 subst e4
 refine ah _ rfl (fun h4=>?_) (fun h4=>?_)
 ·
  (try simp only[go_sem] at h4)
  have hb:=hb h4
  refine aa ?_
  simp only[go_sem]
  refine fp 2 3 (En Grant.enc default l) rfl ?_
  simp only[go_sem]
  refine af ?_
  simp only[go_sem]
  exact ap 1 [0] rfl byC byC byC byC
 ·
  (try simp only[go_sem] at h4)
  refine ag ?_
  (try simp only[go_sem])
  refine aa ?_
  simp only[go_sem]
  repeat first|(with_reducible refine ad ?_ ?_;exact byD)|(with_reducible refine ae ?_ ?_;exact byQ)
  refine af ?_
  simp only[go_sem]
  exact ap 1 [1] rfl byC byC byC byC
theorem nu (l:List Session) (hl:l.length*56≤140737488355328):Meets Tryz.prog 80 [lstV 5 Session.enc default l] (.own none 0 5 0 l.length .loose) [.arr 5 l.length (En Session.enc default l)]:=by
 refine an (fn:=Tryz.f80) Tryz.func80 rfl fb80 (by kernel_rfl) (Nat.le_of_ble_eq_true rfl) ?_
 refine uc 0 rfl fun b hb=>?_
 refine aa ?_
 simp only[go_sem]
 repeat first|(with_reducible refine ad ?_ ?_;exact byD)|(with_reducible refine ae ?_ ?_;exact byQ)
 refine ab ?_
 refine aa ?_
 simp only[go_sem]
 intro t4 e4
 subst e4
 refine ah _ rfl (fun h4=>?_) (fun h4=>?_)
 ·
  (try simp only[go_sem] at h4)
  have hb:=hb h4
  refine aa ?_
  simp only[go_sem]
  refine fp 2 5 (En Session.enc default l) rfl ?_
  simp only[go_sem]
  refine af ?_
  simp only[go_sem]
  exact ap 1 [0] rfl byC byC byC byC
 ·
  (try simp only[go_sem] at h4)
  refine ag ?_
  (try simp only[go_sem])
  refine aa ?_
  simp only[go_sem]
  repeat first|(with_reducible refine ad ?_ ?_;exact byD)|(with_reducible refine ae ?_ ?_;exact byQ)
  refine af ?_
  simp only[go_sem]
  exact ap 1 [1] rfl byC byC byC byC
theorem yi (f:Nat) (tg:Str) (c:Shared→Int) (hcmp:∀ x,Meets Tryz.prog f [.agg (shE x),.str tg] (.int .i64 (c x)) []) (l:List Shared) (hl:l.length<4611686018427387904)
  (k:Nat) (hk:k≤l.length) (h1:∀ j,j<k→c (l.getD j default)<0) (h2:∀ j,k≤j→j<l.length→0≤c (l.getD j default)) :
  Meets Tryz.prog 98 [lstV 4 shE default l,.str tg,.fn f [] []] (.tup [.int .i64 (k:Nat),.bool (decide (k<l.length) && decide (c (l.getD k default)=0))]) []:=by
 refine an (fn:=Tryz.f98) Tryz.func98 rfl fb98 (by kernel_rfl) (Nat.le_of_ble_eq_true rfl) ?_
 refine aa ?_
 simp only[go_sem]
 repeat first|(with_reducible refine ad ?_ ?_;exact byD)|(with_reducible refine ae ?_ ?_;exact byQ)
 refine aa ?_
 simp only[go_sem]
 refine aa ?_
 simp only[go_sem]
 refine ab (ai ?_)
 refine bm (σ:=Nat × Nat) (fun s=>s.1≤k∧k≤s.2∧s.2≤l.length) (fun s=>[⟨9,0,[],.int .i64 (s.1:Nat)⟩,⟨10,0,[],.int .i64 (s.2:Nat)⟩]) [0,1,2,6,7,8] (fun s=>s.2-s.1) (0,l.length) ⟨Nat.zero_le _,hk,Nat.le_refl _⟩ (Nat.zero_le _) byC (fun s hI1=>?_)
 simp only[go_sem]
 refine ab ?_
 refine aa ?_
 simp only[go_sem]
 repeat first|(with_reducible refine ad ?_ ?_;exact byD)|(with_reducible refine ae ?_ ?_;exact byQ)
 intro t17 e17
 subst e17
 refine ah _ rfl (fun h17=>?_) (fun h17=>?_)
 ·
  (try simp only[go_sem] at h17)
  refine ag ?_
  (try simp only[go_sem])
  refine ai ?_
  refine aa ?_
  simp only[go_sem]
  intro t20 e20
  (try replace e20:=w64 e20 (by omega) (by omega))
  repeat first|(with_reducible refine ad ?_ ?_;exact byD)|(with_reducible refine ae ?_ ?_;exact byQ)
  intro t21 e21
  repeat first|(with_reducible refine ad ?_ ?_;exact byD)|(with_reducible refine ae ?_ ?_;exact byQ)
  intro t22 e22
  repeat first|(with_reducible refine ad ?_ ?_;exact byD)|(with_reducible refine ae ?_ ?_;exact byQ)
  intro t23 e23
  have hm:t23=(((s.1+s.2) / 2:Nat):Int):=zlk (by omega) (by omega) e21 e22 e23
  clear e23
  subst hm
  have hlt:(s.1+s.2) / 2<s.2:=by omega
  have hge:s.1≤(s.1+s.2) / 2:=by omega
  refine aa ?_
  simp only[go_sem]
  repeat first|(with_reducible refine ad ?_ ?_;exact byD)|(with_reducible refine ae ?_ ?_;exact byQ)
  refine cw_m (hcmp (l.getD ((s.1+s.2) / 2) default)) byW byT ?_
  simp only[go_sem]
  intro t31 e31
  subst e31
  refine ah _ rfl (fun h31=>?_) (fun h31=>?_)
  ·
   (try simp only[go_sem] at h31)
   refine aj ?_
   simp only[go_sem]
   intro t33 e33
   (try replace e33:=w64 e33 (by omega) (by omega))
   have:(s.1+s.2) / 2<k:=by
    rcases Nat.lt_or_ge ((s.1+s.2) / 2) k with h|h
    ·exact h
    ·have:=h2 _ h (by omega);omega
   refine ay ((s.1+s.2) / 2+1,s.2) ⟨by dsimp only;omega,hI1.2.1,hI1.2.2⟩ (by first|omega|(dsimp only;omega)) byC
  ·
   (try simp only[go_sem] at h31)
   refine aj ?_
   simp only[go_sem]
   have:k≤(s.1+s.2) / 2:=by
    rcases Nat.lt_or_ge ((s.1+s.2) / 2) k with h|h
    ·have:=h1 _ h;omega
    ·exact h
   refine ay (s.1,(s.1+s.2) / 2) ⟨hI1.1,this,by dsimp only;omega⟩ (by first|omega|(dsimp only;omega)) byC
 ·
  (try simp only[go_sem] at h17)
  have hks:s.1=k:=by omega
  refine bk ?_
  simp only[go_sem]
  refine aa ?_
  simp only[go_sem]
  intro t38 e38
  repeat first|(with_reducible refine ad ?_ ?_;exact byD)|(with_reducible refine ae ?_ ?_;exact byQ)
  refine⟨_,fun hp=>cw_m (hcmp (l.getD s.1 default)) byW byT ⟨rfl,rfl⟩, ?_⟩
  simp only[go_sem]
  intro t47 e47
  intro t48 e48
  rw[ar] at e48
  subst e38 e47 e48
  refine af ?_
  simp only[go_sem]
  rw[← hks]
  refine cy rfl ?_
  exact byC
theorem zbf (l:List Shared) (i:Nat) (x:Shared) (hi:i≤l.length) (hl:(l.length+1)*72≤140737488355328) :
  Does Tryz.prog 123 [.own none 0 4 0 l.length .loose,.int .i64 (i:Nat),.own (some false) 1 4 0 1 (.exact 1)] [.arr 4 l.length (En shE default l),.arr 4 1 (fun _=>shE x)]
   (.own none 2 4 0 (l.length+1) .loose) [.dead,.dead,.arr 4 (l.length+1) (En shE default (l.take i++x::l.drop i))]:=by
 refine eb (fn:=Tryz.f123) Tryz.func123 rfl fb123 (by kernel_rfl) (Nat.le_of_ble_eq_true rfl) ?_
 refine qv 0 rfl fun C hC=>?_
 refine aa ?_
 simp only[go_sem]
 repeat first|(with_reducible refine ad ?_ ?_;exact byD)|(with_reducible refine ae ?_ ?_;exact byQ)
 refine aa ?_
 simp only[go_sem]
 repeat first|(with_reducible refine ad ?_ ?_;exact byD)|(with_reducible refine ae ?_ ?_;exact byQ)
 refine aa ?_
 simp only[go_sem]
 refine ab ?_
 refine aa ?_
 simp only[go_sem]
 intro t16 e16
 subst e16
 refine ah _ rfl (fun h16=>?_) (fun h16=>?_)
 ·simp at h16
 ·
  (try simp only[go_sem] at h16)
  refine ag ?_
  (try simp only[go_sem])
  refine aa ?_
  simp only[go_sem]
  refine ab ?_
  refine aa ?_
  simp only[go_sem]
  intro t22 e22
  subst e22
  refine ah _ rfl (fun h22=>?_) (fun h22=>?_)
  ·
   (try simp only[go_sem] at h22)
   have hil:i=l.length:=by omega
   subst hil
   refine aa ?_
   simp only[go_sem]
   repeat first|(with_reducible refine ad ?_ ?_;exact byD)|(with_reducible refine ae ?_ ?_;exact byQ)
   refine⟨fun hC25=>?_,fun hC25=>?_⟩
   ·
    repeat first|(with_reducible refine ad ?_ ?_;exact byD)|(with_reducible refine ae ?_ ?_;exact byQ)
    refine ix 0 rfl ?_
    simp only[go_sem]
    refine af ?_
    simp only[go_sem]
    refine⟨[0,1,2],rfl,rfl, ?_, ?_⟩
    ·exact byC
    ·simp only[go_sem,wk,wks,wkB,wkH]
     exact⟨by omega,fun q hq=>dh (fun _=>rfl) (zex (fun _=>rfl) rfl hq)⟩
   ·
    repeat first|(with_reducible refine ad ?_ ?_;exact byD)|(with_reducible refine ae ?_ ?_;exact byQ)
    refine ix 0 rfl ?_
    simp only[go_sem]
    refine af ?_
    simp only[go_sem]
    refine⟨[0,1,2],rfl,rfl, ?_, ?_⟩
    ·exact byC
    ·simp only[go_sem,wk,wks,wkB,wkH]
     exact fun q hq=>dh (fun _=>rfl) (zay (fun _=>rfl) rfl hq)
  ·
   (try simp only[go_sem] at h22)
   refine ag ?_
   (try simp only[go_sem])
   refine ab ?_
   refine aa ?_
   simp only[go_sem]
   intro t28 e28
   (try replace e28:=w64 e28 (by omega) (by omega))
   repeat first|(with_reducible refine ad ?_ ?_;exact byD)|(with_reducible refine ae ?_ ?_;exact byQ)
   intro t31 e31
   subst e31
   refine ah _ rfl (fun h31=>?_) (fun h31=>?_)
   ·
    (try simp only[go_sem] at h31)
    refine aa ?_
    simp only[go_sem]
    repeat first|(with_reducible refine ad ?_ ?_;exact byD)|(with_reducible refine ae ?_ ?_;exact byQ)
    intro t37 e37
    (try replace e37:=w64 e37 (by omega) (by omega))
    intro t39 e39
    (try replace e39:=w64 e39 (by omega) (by omega))
    repeat first|(with_reducible refine ad ?_ ?_;exact byD)|(with_reducible refine ae ?_ ?_;exact byQ)
    refine aa ?_
    simp only[go_sem]
    repeat first|(with_reducible refine ad ?_ ?_;exact byD)|(with_reducible refine ae ?_ ?_;exact byQ)
    refine ab (bc cj [8] (.first 0 (.first 1 (.first 2 (.first 3 (.first 4 (.first 5 (.first 6 (.first 7 (.one 8 (.done)))))))))) (by kernel_rfl) ?_)
    simp only[go_sem]
    intro t49 e49
    (try replace e49:=w64 e49 (by omega) (by omega))
    repeat first|(with_reducible refine ad ?_ ?_;exact byD)|(with_reducible refine ae ?_ ?_;exact byQ)
    refine aa ?_
    simp only[go_sem]
    refine af ?_
    simp only[go_sem]
    have h39:t39.toNat=l.length+1-i:=by omega
    have h49:t49.toNat=i+1:=by omega
    refine⟨[0,1,2],rfl,rfl, ?_, ?_⟩
    ·exact byC
    ·simp only[go_sem,wk,wks,wkB,wkH,h39,h49]
     refine⟨by omega,fun q hq=>dh (fun _=>rfl) ?_⟩
     exact zas (fun _=>rfl) (by omega) hq (by omega) (by omega)
   ·
    (try simp only[go_sem] at h31)
    refine ag ?_
    (try simp only[go_sem])
    refine aa ?_
    simp only[go_sem]
    intro t59 e59
    (try replace e59:=w64 e59 (by omega) (by omega))
    repeat first|(with_reducible refine ad ?_ ?_;exact byD)|(with_reducible refine ae ?_ ?_;exact byQ)
    refine ab ?_
    refine aa ?_
    simp only[go_sem]
    intro t65 e65
    (try replace e65:=w64 e65 (by omega) (by omega))
    repeat first|(with_reducible refine ad ?_ ?_;exact byD)|(with_reducible refine ae ?_ ?_;exact byQ)
    refine zok (tS:=22) (tR:=4) Tryz.func150 (by kernel_rfl) (by kernel_rfl) (by kernel_rfl) (by kernel_rfl) te22 rfl rfl (by decide) (by omega) ?_
    simp only[go_sem]
    intro t68 e68
    subst e68
    refine ah _ rfl (fun h68=>?_) (fun h68=>ew h68)
    refine ab (bc cj [8] (.first 0 (.first 1 (.first 2 (.first 3 (.first 4 (.first 5 (.first 6 (.first 7 (.one 8 (.done)))))))))) (by kernel_rfl) ?_)
    simp only[go_sem]
    intro t72 e72
    (try replace e72:=w64 e72 (by omega) (by omega))
    repeat first|(with_reducible refine ad ?_ ?_;exact byD)|(with_reducible refine ae ?_ ?_;exact byQ)
    refine aa ?_
    simp only[go_sem]
    repeat first|(with_reducible refine ad ?_ ?_;exact byD)|(with_reducible refine ae ?_ ?_;exact byQ)
    refine aa ?_
    simp only[go_sem]
    refine ix 0 rfl ?_
    simp only[go_sem]
    refine af ?_
    simp only[go_sem]
    have h59:t59.toNat=l.length+1:=by omega
    have h72:t72.toNat=i+1:=by omega
    refine⟨[0,1,2],rfl,rfl, ?_, ?_⟩
    ·exact byC
    ·simp only[go_sem,wk,wks,wkB,wkH,h59,h72]
     refine⟨by omega,fun q hq=>dh (fun _=>rfl) ?_⟩
     exact zqo (fun _=>rfl) (by omega) hq (by omega) (by omega)
theorem fcmp_c (s:Shared) (p:Str):Meets Tryz.prog 99 [.agg (shE s),.str p] (.int .i64 (cmpS s.name p)) []:=by
 refine an (fn:=Tryz.f99) Tryz.func99 rfl fb99 (by kernel_rfl) (Nat.le_of_ble_eq_true rfl) ?_
 refine aa ?_
 simp only[go_sem]
 repeat first|(with_reducible refine ad ?_ ?_;exact byD)|(with_reducible refine ae ?_ ?_;exact byQ)
 refine aa ?_
 simp only[go_sem]
 refine cw_m (rq s.name p) byW byT ?_
 simp only[go_sem]
 refine af ?_
 simp only[go_sem]
 exact am rfl
theorem tz (h:Hub) (p:Str) (hs:fo h.folders) (hl:h.folders.length<4611686018427387904):Meets Tryz.prog 58 [.agg (hubE h),.str p] (.tup [.int .i64 (fIx h.folders p:Nat),.bool (hasF h.folders p)]) []:=by
 have hB:=yi 99 p (fun x=>cmpS x.name p) (fun x=>fcmp_c x p) h.folders hl (fIx h.folders p) (zpw h.folders p) (fun j hj=>z1z hj) (fun j h1 h2=>z1f hs h1 h2)
 have hh:hasF h.folders p=(decide (fIx h.folders p<h.folders.length) && decide (cmpS (h.folders.getD (fIx h.folders p) default).name p=0)):=by
  rw[lw]
  congr 1
  exact decide_eq_decide.2 cmpS_eq.symm
 rw[hh]
 refine an (fn:=Tryz.f58) Tryz.func58 rfl fb58 (by kernel_rfl) (Nat.le_of_ble_eq_true rfl) ?_
 refine aa ?_
 simp only[go_sem]
 repeat first|(with_reducible refine ad ?_ ?_;exact byD)|(with_reducible refine ae ?_ ?_;exact byQ)
 refine aa ?_
 simp only[go_sem]
 refine cw_m (hB) byW byT ?_
 simp only[go_sem]
 refine af ?_
 simp only[go_sem]
 exact cy rfl (bf _)
def allK (l:List Grant):List Str:=l.map (·.folder)
def jq (l:List Shared):List Str:=l.map (·.name)
def gm (h:Hub):Bool:=(h.grants.all fun g=>h.folders.any fun s=>decide (s.name=g.folder)) && h.folders.all fun s=>h.grants.any fun g=>decide (g.folder=s.name)
theorem zgf {l:List Shared} (hs:fo l):(jq l).Nodup:=by
 unfold fo bo at hs
 rw[List.pairwise_map] at hs
 unfold jq List.Nodup
 rw[List.pairwise_map]
 refine hs.imp fun {x y} h e=>?_
 have h:x.name<y.name:=h
 rw[e] at h
 exact eq _ h
theorem zja {h:Hub} (hs:fo h.folders) (hA:∀ g∈h.grants,hasF h.folders g.folder=true):decide ((jf (allK h.grants)).length=h.folders.length)=gm h:=by
 have hA':∀ a∈allK h.grants,a∈jq h.folders:=fun a ha=>by
  obtain⟨g,hg,rfl⟩:=List.mem_map.1 ha
  obtain⟨s,h1,h2⟩:=(ld hs).1 (hA g hg)
  exact List.mem_map.2 ⟨s,h1,h2⟩
 have hB:(jf (jq h.folders)).length=h.folders.length:=by
  rw[keysF_lt.2 (zgf hs)]
  simp[jq]
 have hk:=zcm hA'
 rw[hB] at hk
 have h1:(h.grants.all fun g=>h.folders.any fun s=>decide (s.name=g.folder))=true:=by
  rw[List.all_eq_true]
  intro g hg
  obtain⟨s,h1,h2⟩:=(ld hs).1 (hA g hg)
  exact List.any_eq_true.2 ⟨s,h1,by simp[h2]⟩
 unfold gm
 rw[h1,Bool.true_and,Bool.eq_iff_iff,decide_eq_true_eq,hk,List.all_eq_true]
 constructor
 ·intro h2 s hsm
  obtain⟨g,hg,e⟩:=List.mem_map.1 (h2 s.name (List.mem_map_of_mem hsm))
  exact List.any_eq_true.2 ⟨g,hg,by simp[e]⟩
 ·intro h2 b hb
  obtain⟨s,hsm,rfl⟩:=List.mem_map.1 hb
  obtain⟨g,hg,e⟩:=List.any_eq_true.1 (h2 s hsm)
  exact List.mem_map.2 ⟨g,hg,by simpa using e⟩
theorem zfr {h:Hub} (hs:fo h.folders) {g:Grant} (hg:g∈h.grants) (hA:hasF h.folders g.folder=false):gm h=false:=by
 unfold gm
 have:(h.grants.all fun g=>h.folders.any fun s=>decide (s.name=g.folder))=false:=by
  rw[List.all_eq_false]
  refine⟨g,hg, ?_⟩
  intro h1
  obtain⟨s,h2,h3⟩:=List.any_eq_true.1 h1
  rw[(ld hs).2 ⟨s,h2,by simpa using h3⟩] at hA
  cases hA
 rw[this]
 rfl
theorem zpe (h:Hub) (hs:fo h.folders) (ok:dz h):Meets Tryz.prog 40 [.agg (hubE h)] (.bool (gm h)) []:=by
 refine an (fn:=Tryz.f40) Tryz.func40 rfl fb40 (by kernel_rfl) (Nat.le_of_ble_eq_true rfl) ?_
 have hfl:=ok.1.1
 have hgl:=ok.2.1.1
 refine aa ?_
 simp only[go_sem]
 repeat first|(with_reducible refine ad ?_ ?_;exact byD)|(with_reducible refine ae ?_ ?_;exact byQ)
 refine aa ?_
 simp only[go_sem]
 refine ab ?_
 refine aa ?_
 simp only[go_sem]
 refine ai ?_
 refine gz (σ:=Nat) (fun i=>i≤h.grants.length∧∀ j,j<i→hasF h.folders (h.grants.getD j default).folder=true) (fun i=>[⟨12,0,[],.int .i64 (i:Nat)⟩]) [1,3,10,11] (fun i=>[.box (hubE h),.mp (mE boE (jf (allK (h.grants.take i))))]) (fun i=>h.grants.length-i) 0 ⟨Nat.zero_le _,fun j hj=>absurd hj (Nat.not_lt_zero j)⟩ (fun _=>(Nat.zero_le _)) byC (fun i hI1=>?_)
 simp only[go_sem]
 refine aa ?_
 simp only[go_sem]
 repeat first|(with_reducible refine ad ?_ ?_;exact byD)|(with_reducible refine ae ?_ ?_;exact byQ)
 intro t13 e13
 subst e13
 refine ab ?_
 refine ah _ rfl (fun h13=>?_) (fun h13=>?_)
 ·
  (try simp only[go_sem] at h13)
  have hK:jf (allK (h.grants.take (i+1)))=aSet (jf (allK (h.grants.take i))) (h.grants.getD i default).folder true:=by
   rw[List.take_succ_eq_append_getElem (by omega),allK,List.map_append]
   have e:h.grants.getD i default=h.grants[i]'(by omega):=by simp[List.getD,show i<h.grants.length by omega]
   rw[e]
   exact sc _ _
  refine ag ?_
  (try simp only[go_sem])
  refine ab (ai ?_)
  refine aa ?_
  simp only[go_sem]
  repeat first|(with_reducible refine ad ?_ ?_;exact byD)|(with_reducible refine ae ?_ ?_;exact byQ)
  refine aa ?_
  simp only[go_sem]
  repeat first|(with_reducible refine ad ?_ ?_;exact byD)|(with_reducible refine ae ?_ ?_;exact byQ)
  refine aa ?_
  simp only[go_sem]
  refine cw_m (tz h (h.grants.getD i default).folder hs (by omega)) byW byT ?_
  simp only[go_sem]
  refine aa ?_
  simp only[go_sem]
  intro t27 e27
  subst e27
  refine ah _ rfl (fun h27=>?_) (fun h27=>?_)
  ·
   (try simp only[go_sem] at h27)
   refine aa ?_
   simp only[go_sem]
   refine af ?_
   simp only[go_sem]
   refine aq ?_
   exact (zfr hs (bj (l:=h.grants) (d:=default) (show i<h.grants.length by omega)) (by simpa using h27)).symm
  ·
   (try simp only[go_sem] at h27)
   refine ag ?_
   (try simp only[go_sem])
   refine aj ?_
   simp only[go_sem]
   intro t28 e28
   (try replace e28:=w64 e28 (by omega) (by omega))
   refine ay (i+1) ⟨by omega,bw hI1.2 (by simpa using h27)⟩ (by first|omega|(dsimp only;omega)) ?_
   rw[hK]
   exact byC
 ·
  (try simp only[go_sem] at h13)
  refine bk ?_
  simp only[go_sem]
  refine aa ?_
  simp only[go_sem]
  intro t34 e34
  subst e34
  refine af ?_
  simp only[go_sem]
  refine aq ?_
  rw[← zja hs fun g hg=>by
   obtain⟨j,hj,rfl⟩:=List.getElem_of_mem hg
   have:=hI1.2 j (by omega)
   simpa [List.getD,hj] using this]
  rw[List.take_of_length_le (by omega)]
  simp only[Int.natCast_inj]
end Go.VM.Tryz
end
section
open Go Go.VM Go.Proofs Tether
namespace Go.VM.Tryz
def sw (s:Shared):Int:=if ba s.name=false then 1 else (bl s.jn).2
def oo (l:List Shared) (i:Nat):Bool:=blt (l.getD (i-1) default).name (l.getD i default).name
def dn (h:Hub):Int :=
 if h.now<0∨1099511627776<h.now then 3 else if 8<(h.folders.length:Int) then 2 else if bh sw h.folders≠0 then bh sw h.folders
 else if ((List.range h.folders.length).all fun i=>decide (i=0) || oo h.folders i)=false then 4
 else if eo h.grants≠0 then eo h.grants else if gm h=false then 5 else dj h.ups
theorem zsg (l:List Shared):((List.range l.length).all fun i=>decide (i=0) || oo l i)=ll (l.map keyE):=by
 unfold ll
 rw[List.length_map]
 congr 1
 funext i
 rw[oh,oh]
 rfl
theorem rises_sorted {l:List Shared}:((List.range l.length).all fun i=>decide (i=0) || oo l i)=true↔fo l:=by
 rw[zsg]
 exact sortedB_iff
theorem leq_F {a b:Str}:(blt a b || decide (a=b))=false↔blt b a=true:=by
 rcases qk a b with h|h|h
 ·have:=xj h
  rw[← blt_iff] at h this
  simp[h,this]
 ·subst h
  have:=eq a
  rw[← blt_iff] at this
  simp[this]
 ·have h1:=xj h
  have h2:a≠b:=fun e=>by subst e;exact eq _ h
  rw[← blt_iff] at h h1
  simp[h,h1,h2]
theorem nz (h:Hub) (ok:dz h):Meets Tryz.prog 16 [.agg (hubE h)] (.int .i64 (dn h)) []:=by
 refine an (fn:=Tryz.f16) Tryz.func16 rfl fb16 (by kernel_rfl) (Nat.le_of_ble_eq_true rfl) ?_
 have hfl:=ok.1.1
 have hsh:=ok.1.2
 refine aa ?_
 simp only[go_sem]
 repeat first|(with_reducible refine ad ?_ ?_;exact byD)|(with_reducible refine ae ?_ ?_;exact byQ)
 refine ab (ai ?_)
 refine aa ?_
 simp only[go_sem]
 intro t11 e11
 intro t15 e15
 intro t16 e16
 rw[az] at e16
 subst e11 e15 e16
 refine ah _ rfl (fun h8=>?_) (fun h8=>?_)
 ·
  (try simp only[go_sem] at h8)
  refine aa ?_
  simp only[go_sem]
  refine af ?_
  simp only[go_sem]
  refine am ?_
  rw[dn,if_pos (by omega)]
 ·
  (try simp only[go_sem] at h8)
  have hb:¬ (h.now<0∨1099511627776<h.now):=by omega
  refine aa ?_
  simp only[go_sem]
  intro t21 e21
  subst e21
  refine ah _ rfl (fun h17=>?_) (fun h17=>?_)
  ·
   (try simp only[go_sem] at h17)
   refine aa ?_
   simp only[go_sem]
   refine af ?_
   simp only[go_sem]
   refine am ?_
   rw[dn,if_neg hb,if_pos (by omega)]
  ·
   (try simp only[go_sem] at h17)
   refine ag ?_
   (try simp only[go_sem])
   refine ab ?_
   refine aa ?_
   simp only[go_sem]
   refine ai ?_
   refine bm (σ:=Nat) (fun i=>i≤h.folders.length∧∀ j,j<i→sw (h.folders.getD j default)=0) (fun i=>[⟨25,0,[],.int .i64 (i:Nat)⟩]) [1,23,24] (fun i=>h.folders.length-i) 0 ⟨Nat.zero_le _,fun j hj=>absurd hj (Nat.not_lt_zero j)⟩ (Nat.zero_le _) byC (fun i hI1=>?_)
   simp only[go_sem]
   refine aa ?_
   simp only[go_sem]
   repeat first|(with_reducible refine ad ?_ ?_;exact byD)|(with_reducible refine ae ?_ ?_;exact byQ)
   intro t26 e26
   subst e26
   refine ab ?_
   refine ah _ rfl (fun h26=>?_) (fun h26=>?_)
   ·
    (try simp only[go_sem] at h26)
    have hm:=hsh _ (bj (l:=h.folders) (d:=default) (show i<h.folders.length by omega))
    refine ag ?_
    (try simp only[go_sem])
    refine ab (ai ?_)
    refine aa ?_
    simp only[go_sem]
    repeat first|(with_reducible refine ad ?_ ?_;exact byD)|(with_reducible refine ae ?_ ?_;exact byQ)
    refine ab ?_
    refine aa ?_
    simp only[go_sem]
    refine cw_m (jc (h.folders.getD i default).name (by have:=hm.1;omega)) byW byT ?_
    simp only[go_sem]
    intro t32 e32
    subst e32
    refine ah _ rfl (fun h32=>?_) (fun h32=>?_)
    ·
     (try simp only[go_sem] at h32)
     refine aa ?_
     simp only[go_sem]
     refine af ?_
     simp only[go_sem]
     refine am ?_
     have he:sw (h.folders.getD i default)=1:=by rw[sw,if_pos (by simpa using h32)]
     have h1:=dq (f:=sw) (l:=h.folders) (d:=default) (i:=i) (by omega) hI1.2 (by rw[he];decide)
     rw[dn,if_neg hb,if_neg (by omega),if_pos (by rw[h1,he];decide),h1,he]
    ·
     (try simp only[go_sem] at h32)
     have he:sw (h.folders.getD i default)=(bl (h.folders.getD i default).jn).2:=by rw[sw,if_neg (by simpa using h32)]
     refine ag ?_
     (try simp only[go_sem])
     refine aa ?_
     simp only[go_sem]
     refine cw_m (zti (h.folders.getD i default).jn hm.2) byW byT ?_
     simp only[go_sem]
     refine aa ?_
     simp only[go_sem]
     intro t37 e37
     subst e37
     refine ah _ rfl (fun h37=>?_) (fun h37=>?_)
     ·
      (try simp only[go_sem] at h37)
      refine aa ?_
      simp only[go_sem]
      refine af ?_
      simp only[go_sem]
      refine am ?_
      have h1:=dq (f:=sw) (l:=h.folders) (d:=default) (i:=i) (by omega) hI1.2 (by rw[he];exact h37)
      rw[dn,if_neg hb,if_neg (by omega),if_pos (by rw[h1,he];exact h37),h1,he]
     ·
      (try simp only[go_sem] at h37)
      refine ag ?_
      (try simp only[go_sem])
      refine aj ?_
      simp only[go_sem]
      intro t39 e39
      (try replace e39:=w64 e39 (by omega) (by omega))
      refine ay (i+1) ⟨by omega,bw hI1.2 (by rw[he];simpa using h37)⟩ (by first|omega|(dsimp only;omega)) byC
   ·
    (try simp only[go_sem] at h26)
    have hE:bh sw h.folders=0:=fw (d:=default) fun j hj=>hI1.2 j (by omega)
    refine bk ?_
    simp only[go_sem]
    refine ab ?_
    refine aa ?_
    simp only[go_sem]
    refine ai ?_
    refine bm (σ:=Nat) (fun i=>1≤i∧(i≤h.folders.length∨i=1)∧∀ j,j<i→1≤j→oo h.folders j=true) (fun i=>[⟨6,0,[],.int .i64 (i:Nat)⟩]) [1] (fun i=>h.folders.length-i) 1 ⟨Nat.le_refl _,.inr rfl,fun j h1 h2=>by omega⟩ (Nat.zero_le _) byC (fun i hI2=>?_)
    simp only[go_sem]
    refine ab ?_
    refine aa ?_
    simp only[go_sem]
    repeat first|(with_reducible refine ad ?_ ?_;exact byD)|(with_reducible refine ae ?_ ?_;exact byQ)
    intro t44 e44
    subst e44
    refine ah _ rfl (fun h44=>?_) (fun h44=>?_)
    ·
     (try simp only[go_sem] at h44)
     refine ag ?_
     (try simp only[go_sem])
     refine ab (ai ?_)
     refine ab (bc cj [] (.first 0 (.first 1 (.first 2 (.first 3 (.first 4 (.first 5 (.first 6 (.first 7 (.first 8 (.first 9 (.first 10 (.first 11 (.first 12 (.first 13 (.done))))))))))))))) (by kernel_rfl) ?_)
     simp only[go_sem]
     repeat first|(with_reducible refine ad ?_ ?_;exact byD)|(with_reducible refine ae ?_ ?_;exact byQ)
     intro t56 e56
     (try replace e56:=w64 e56 (by omega) (by omega))
     repeat first|(with_reducible refine ad ?_ ?_;exact byD)|(with_reducible refine ae ?_ ?_;exact byQ)
     intro t60 e60
     subst e60
     refine ah _ rfl (fun h60=>?_) (fun h60=>?_)
     ·
      (try simp only[go_sem] at h60)
      refine aa ?_
      simp only[go_sem]
      refine af ?_
      simp only[go_sem]
      refine am ?_
      have hk:((i:Int)-1).toNat=i-1:=by omega
      subst e56
      rw[hk] at h60
      have hr:((List.range h.folders.length).all fun i=>decide (i=0) || oo h.folders i)=false:=dl (i:=i) (by omega) (by
       have h0:¬ i=0:=by omega
       simp only[h0,decide_false,Bool.false_or,oo]
       grind [leq_F])
      rw[dn,if_neg hb,if_neg (by omega),if_neg (by simp[hE]),if_pos hr]
     ·
      (try simp only[go_sem] at h60)
      refine ag ?_
      (try simp only[go_sem])
      refine aj ?_
      simp only[go_sem]
      intro t46 e46
      (try replace e46:=w64 e46 (by omega) (by omega))
      have hk:((i:Int)-1).toNat=i-1:=by omega
      subst e56
      rw[hk] at h60
      have hb2:oo h.folders i=true:=by
       unfold oo
       grind [leq_F]
      refine ay (i+1) ⟨by omega,by omega,fun j h1 h2=>?_⟩ (by first|omega|(dsimp only;omega)) byC
      exact bw (p:=fun j=>1≤j→oo h.folders j=true) (fun j hj h1=>hI2.2.2 j hj h1) (fun _=>hb2) j h1 h2
    ·
     (try simp only[go_sem] at h44)
     have hR:((List.range h.folders.length).all fun i=>decide (i=0) || oo h.folders i)=true:=dk fun j hj=>by
      by_cases h0:j=0
      ·simp[h0]
      ·simp[hI2.2.2 j (by omega) (by omega)]
     have hs:=rises_sorted.1 hR
     refine bk ?_
     simp only[go_sem]
     refine ab ?_
     refine aa ?_
     simp only[go_sem]
     refine cw_m (Gr.checkG_c h.grants ok.2.1.good) byW byT ?_
     simp only[go_sem]
     refine aa ?_
     simp only[go_sem]
     intro t65 e65
     subst e65
     refine ah _ rfl (fun h65=>?_) (fun h65=>?_)
     ·
      (try simp only[go_sem] at h65)
      refine aa ?_
      simp only[go_sem]
      refine af ?_
      simp only[go_sem]
      refine am ?_
      rw[dn,if_neg hb,if_neg (by omega),if_neg (by simp[hE]),if_neg (by simp[hR]),if_pos (by simpa using h65)]
     ·
      (try simp only[go_sem] at h65)
      have hg:eo h.grants=0:=by simpa using h65
      refine ag ?_
      (try simp only[go_sem])
      refine ab ?_
      refine aa ?_
      simp only[go_sem]
      refine cw_m (zpe h hs ok) byW byT ?_
      simp only[go_sem]
      intro t69 e69
      subst e69
      refine ah _ rfl (fun h69=>?_) (fun h69=>?_)
      ·
       (try simp only[go_sem] at h69)
       refine aa ?_
       simp only[go_sem]
       refine af ?_
       simp only[go_sem]
       refine am ?_
       rw[dn,if_neg hb,if_neg (by omega),if_neg (by simp[hE]),if_neg (by simp[hR]),if_neg (by simp[hg]),if_pos (by simpa using h69)]
      ·
       (try simp only[go_sem] at h69)
       refine ag ?_
       (try simp only[go_sem])
       refine aa ?_
       simp only[go_sem]
       refine cw_m (Up.Check_c h.ups ok.2.2.good.len (fun s hs=>(ok.2.2.good.2 s hs).1)) byW byT ?_
       simp only[go_sem]
       refine af ?_
       simp only[go_sem]
       refine am ?_
       rw[dn,if_neg hb,if_neg (by omega),if_neg (by simp[hE]),if_neg (by simp[hR]),if_neg (by simp[hg]),if_neg (by simpa using h69)]
end Go.VM.Tryz
end
section
open Go Go.VM Go.Proofs Tether
namespace Tether
structure Request where
 kind:Int
 who:Str
 folder:Str
 name:Str
 key:Str
 text:Str
 number:Int
 offset:Int
 base:Int
 changes:List Change
 deriving Inhabited,DecidableEq
end Tether
namespace Go.VM.Tryz
def rqE (r:Request):List V:=[.int .i64 r.kind,.str r.who,.str r.folder,.str r.name,.str r.key,.str r.text,.int .i64 r.number,.int .i64 r.offset,.int .i64 r.base,csV r.changes]
theorem rqE_eq (r:Request):rqE r=[.int .i64 r.kind,.str r.who,.str r.folder,.str r.name,.str r.key,.str r.text,.int .i64 r.number,.int .i64 r.offset,.int .i64 r.base,csV r.changes]:=rfl
attribute [go_sem] rqE_eq
end Go.VM.Tryz
end
section
open Go Go.VM Go.Proofs Tether
namespace Go.VM.Tryz
theorem own_c (j:Journal) (ok:okJ j):Meets Tryz.prog 81 [.agg (jnE j)] (.agg (jnE j)) []:=by
 refine an (fn:=Tryz.f81) Tryz.func81 rfl fb81 (by kernel_rfl) (Nat.le_of_ble_eq_true rfl) ?_
 have hbl:=ok.1.1
 have hcl:=ok.2.1
 refine aa ?_
 simp only[go_sem]
 repeat first|(with_reducible refine ad ?_ ?_;exact byD)|(with_reducible refine ae ?_ ?_;exact byQ)
 refine ab (jd cj [] [7,9] (.firstZ 0 (.firstZ 3 (.first 1 (.first 4 (.one 2 (.firstZ 6 (.one 5 (.one 7 (.firstZ 8 (.one 9 (.done))))))))))) (by kernel_rfl) ?_)
 simp only[go_sem]
 refine ek (jy j.base (by omega)) byW byT ?_
 simp only[go_sem]
 refine ek (tn j.commits (by omega)) byW byT ?_
 simp only[go_sem]
 refine ab ?_
 refine aa ?_
 simp only[go_sem]
 refine ai ?_
 refine bm (σ:=Nat) (fun i=>i≤j.commits.length) (fun i=>[⟨16,0,[],.int .i64 (i:Nat)⟩]) [1,2,14,15] (fun i=>j.commits.length-i) 0 (by first|trivial|omega|simp) (Nat.zero_le _) byC (fun i hI1=>?_)
 simp only[go_sem]
 refine aa ?_
 simp only[go_sem]
 repeat first|(with_reducible refine ad ?_ ?_;exact byD)|(with_reducible refine ae ?_ ?_;exact byQ)
 intro t17 e17
 subst e17
 refine ab ?_
 refine ah _ rfl (fun h17=>?_) (fun h17=>?_)
 ·
  (try simp only[go_sem] at h17)
  have hcc:=ok.2.2 _ (bj (l:=j.commits) (i:=i) (d:=default) (by omega))
  have hch:=hcc.2.1
  refine ag ?_
  (try simp only[go_sem])
  refine ab (ai ?_)
  refine aa ?_
  simp only[go_sem]
  repeat first|(with_reducible refine ad ?_ ?_;exact byD)|(with_reducible refine ae ?_ ?_;exact byQ)
  refine jd cj [] [8] (.firstZ 0 (.firstZ 2 (.firstZ 3 (.first 1 (.first 4 (.one 5 (.firstZ 6 (.firstZ 7 (.one 8 (.done)))))))))) (by kernel_rfl) ?_
  simp only[go_sem]
  refine ek (lq (j.commits.getD i default).changes (by omega)) byW byT ?_
  simp only[go_sem]
  repeat first|(with_reducible refine ad ?_ ?_;exact byD)|(with_reducible refine ae ?_ ?_;exact byQ)
  refine aj ?_
  simp only[go_sem]
  intro t29 e29
  (try replace e29:=w64 e29 (by omega) (by omega))
  refine ke (i+1) [0,1,2] (by omega) (by first|omega|(dsimp only;omega)) ⟨rfl,rfl, ?_, ?_⟩
  ·exact byC
  ·simp only[go_sem,wk,wks,wkB,wkH]
   exact fun q hq=>dh (fun _=>rfl) (zag rfl)
 ·
  (try simp only[go_sem] at h17)
  refine bk ?_
  simp only[go_sem]
  refine aa ?_
  simp only[go_sem]
  refine af ?_
  simp only[go_sem]
  exact ap 1 [] rfl byC byC byC byC
theorem zbe (l:List Grant) (hl:l.length*40≤140737488355328):Meets Tryz.prog 79 [gsV l] (gsV l) [] :=
 ((ql l hl).freeze 1 byC).wk (ak _) byC rfl
theorem xn (l:List Session) (hl:l.length*56≤140737488355328):Meets Tryz.prog 80 [ssV l] (ssV l) [] :=
 ((nu l hl).freeze 1 byC).wk (ak _) byC rfl
def hubO (k:Nat) (h:Hub):List V:=[.own none k 4 0 h.folders.length .loose,gsV h.grants,ssV h.ups.ss,.int .i64 h.ups.next,.int .i64 h.ups.lasts,.int .i64 h.ups.room,.int .i64 h.now]
theorem z0f (k:Nat) (h:Hub):hubO k h=[.own none k 4 0 h.folders.length .loose,gsV h.grants,ssV h.ups.ss,.int .i64 h.ups.next,.int .i64 h.ups.lasts,.int .i64 h.ups.room,.int .i64 h.now]:=rfl
attribute [go_sem] z0f
theorem ow (h:Hub) (ok:dz h):Meets Tryz.prog 44 [.agg (hubE h)] (.agg (hubO 0 h)) [.arr 4 h.folders.length (En shE default h.folders)]:=by
 refine an (fn:=Tryz.f44) Tryz.func44 rfl fb44 (by kernel_rfl) (Nat.le_of_ble_eq_true rfl) ?_
 have hfl:=ok.1.1
 have hgl:=ok.2.1.1
 have hul:=ok.2.2.1
 refine aa ?_
 simp only[go_sem]
 repeat first|(with_reducible refine ad ?_ ?_;exact byD)|(with_reducible refine ae ?_ ?_;exact byQ)
 refine ab (jd cj [] [11,13,16] (.firstZ 0 (.firstZ 3 (.firstZ 6 (.firstZ 7 (.first 1 (.first 4 (.first 8 (.one 2 (.firstZ 10 (.one 5 (.one 9 (.one 11 (.firstZ 12 (.one 13 (.firstZ 14 (.firstZ 15 (.one 16 (.done)))))))))))))))))) (by kernel_rfl) ?_)
 simp only[go_sem]
 refine ek (zbs h.folders (by omega)) byW byT ?_
 simp only[go_sem]
 refine ek (zbe h.grants (by omega)) byW byT ?_
 simp only[go_sem]
 refine ek (xn h.ups.ss (by omega)) byW byT ?_
 simp only[go_sem]
 refine ab ?_
 refine aa ?_
 simp only[go_sem]
 refine ai ?_
 refine bm (σ:=Nat) (fun i=>i≤h.folders.length) (fun i=>[⟨22,0,[],.int .i64 (i:Nat)⟩]) [1,2,20,21] (fun i=>h.folders.length-i) 0 (by first|trivial|omega|simp) (Nat.zero_le _) byC (fun i hI1=>?_)
 simp only[go_sem]
 refine aa ?_
 simp only[go_sem]
 repeat first|(with_reducible refine ad ?_ ?_;exact byD)|(with_reducible refine ae ?_ ?_;exact byQ)
 intro t23 e23
 subst e23
 refine ab ?_
 refine ah _ rfl (fun h23=>?_) (fun h23=>?_)
 ·
  (try simp only[go_sem] at h23)
  have hcc:=ok.1.2 _ (bj (l:=h.folders) (i:=i) (d:=default) (by omega))
  refine ag ?_
  (try simp only[go_sem])
  refine ab (ai ?_)
  refine aa ?_
  simp only[go_sem]
  repeat first|(with_reducible refine ad ?_ ?_;exact byD)|(with_reducible refine ae ?_ ?_;exact byQ)
  refine jd cj [] [8] (.firstZ 0 (.firstZ 2 (.firstZ 3 (.first 1 (.first 4 (.one 5 (.firstZ 6 (.firstZ 7 (.one 8 (.done)))))))))) (by kernel_rfl) ?_
  simp only[go_sem]
  refine ek (own_c (h.folders.getD i default).jn hcc.2) byW byT ?_
  simp only[go_sem]
  repeat first|(with_reducible refine ad ?_ ?_;exact byD)|(with_reducible refine ae ?_ ?_;exact byQ)
  refine aj ?_
  simp only[go_sem]
  intro t35 e35
  (try replace e35:=w64 e35 (by omega) (by omega))
  refine ke (i+1) [0,1,2] (by omega) (by first|omega|(dsimp only;omega)) ⟨rfl,rfl, ?_, ?_⟩
  ·exact byC
  ·simp only[go_sem,wk,wks,wkB,wkH]
   exact fun q hq=>dh (fun _=>rfl) (zag rfl)
 ·
  (try simp only[go_sem] at h23)
  refine bk ?_
  simp only[go_sem]
  refine aa ?_
  simp only[go_sem]
  refine af ?_
  simp only[go_sem]
  exact ap 1 [2] rfl byC byC byC byC
def newH (lasts room:Int):Hub:=⟨[],[],⟨[],1,lasts,room⟩,0⟩
def xw (lasts room:Int):Hub:=if dj (newH lasts room).ups=0 then newH lasts room else noH
theorem zxy (lasts room:Int):Meets Tryz.prog 12 [.int .i64 lasts,.int .i64 room] (.tup [.agg (hubE (xw lasts room)),.int .i64 (dj (newH lasts room).ups)]) []:=by
 refine an (fn:=Tryz.f12) Tryz.func12 rfl fb12 (by kernel_rfl) (Nat.le_of_ble_eq_true rfl) ?_
 refine aa ?_
 simp only[go_sem]
 repeat first|(with_reducible refine ad ?_ ?_;exact byD)|(with_reducible refine ae ?_ ?_;exact byQ)
 refine aa ?_
 simp only[go_sem]
 refine ab ?_
 refine aa ?_
 simp only[go_sem]
 refine cw_m (Up.Check_c (newH lasts room).ups (by simp[newH]) (by simp[newH])) byW byT ?_
 simp only[go_sem]
 refine aa ?_
 simp only[go_sem]
 intro t16 e16
 subst e16
 refine ah _ rfl (fun h16=>?_) (fun h16=>?_)
 ·
  (try simp only[go_sem] at h16)
  refine aa ?_
  simp only[go_sem]
  refine af ?_
  simp only[go_sem]
  have h:¬ dj (newH lasts room).ups=0:=by simpa using h16
  rw[xw,if_neg h]
  exact ap 2 [] rfl byC byC byC byC
 ·
  (try simp only[go_sem] at h16)
  refine ag ?_
  (try simp only[go_sem])
  refine aa ?_
  simp only[go_sem]
  refine af ?_
  simp only[go_sem]
  have h:dj (newH lasts room).ups=0:=by simpa using h16
  rw[xw,if_pos h,h]
  exact ap 2 [] rfl byC byC byC byC
def svE (k:Nat) (h:Hub) (r:Request):List V:=hubO k h++rqE r
theorem svE_eq (k:Nat) (h:Hub) (r:Request):svE k h r=[.own none k 4 0 h.folders.length .loose,gsV h.grants,ssV h.ups.ss,.int .i64 h.ups.next,.int .i64 h.ups.lasts,.int .i64 h.ups.room,.int .i64 h.now,
  .int .i64 r.kind,.str r.who,.str r.folder,.str r.name,.str r.key,.str r.text,.int .i64 r.number,.int .i64 r.offset,.int .i64 r.base,csV r.changes]:=rfl
attribute [go_sem] svE_eq
def svH (h:Hub) (r:Request):Heap:=[.box (svE 1 h r),.arr 4 h.folders.length (En shE default h.folders)]
theorem svH_eq (h:Hub) (r:Request):svH h r=[.box (svE 1 h r),.arr 4 h.folders.length (En shE default h.folders)]:=rfl
attribute [go_sem] svH_eq
theorem zzp (h:Hub) (r:Request) (ok:dz h) (hs:ec h.grants):Does Tryz.prog 127 [.ptr 0 0] (svH h r) (.int .i64 (dm h.grants r.folder r.who)) (svH h r):=by
 refine eb (fn:=Tryz.f127) Tryz.func127 rfl fb127 (by kernel_rfl) (Nat.le_of_ble_eq_true rfl) ?_
 have hgl:=ok.2.1.1
 refine aa ?_
 simp only[go_sem]
 repeat first|(with_reducible refine ad ?_ ?_;exact byD)|(with_reducible refine ae ?_ ?_;exact byQ)
 refine ab (bc cj [] (.first 0 (.first 1 (.first 2 (.first 3 (.first 4 (.first 5 (.first 6 (.first 7 (.first 8 (.first 9 (.first 10 (.first 11 (.first 12 (.first 13 (.first 14 (.one 15 (.first 16 (.done)))))))))))))))))) (by kernel_rfl) ?_)
 simp only[go_sem]
 refine ek (Gr.Of_c h.grants (by omega) hs r.folder r.who) byW byT ?_
 simp only[go_sem]
 refine af ?_
 simp only[go_sem]
 exact⟨[0,1],rfl,rfl,byC,byC⟩
end Go.VM.Tryz
end
section
open Go Go.VM
namespace Go.VM.Tryz
theorem zpu {α:Type} {enc:α→List V} {d x:α} {l:List α} {k o i:Nat} {vs:List V} (hk:k<l.length) (hx:spl (enc (l.getD k d)) o vs=enc x):stF (En enc d l) k o vs i=En enc d (l.set k x) i:=by
 unfold stF
 cases hb:Nat.beq i k with
 | true =>
   have e:i=k:=Nat.eq_of_beq_eq_true hb
   subst e
   simp only[cond,En]
   rw[hx]
   simp[List.getD,hk]
 | false =>
   have hne:i≠k:=Nat.ne_of_beq_eq_false hb
   simp only[cond,En]
   simp[List.getD,List.getElem?_set,Ne.symm hne]
end Go.VM.Tryz
end
section
open Go Go.VM Go.Proofs Tether
namespace Go.VM.Tryz
def okRq (r:Request):Prop:=r.who.length≤1048576∧r.folder.length≤1048576∧r.name.length≤1048576∧r.key.length≤1048576∧r.text.length≤1048576∧okCs r.changes
def mayE (h:Hub) (r:Request) (k:Int):Int:=if dm h.grants r.folder r.who<k then 9 else 0
theorem zrf (h:Hub) (r:Request) (k:Int) (ok:dz h) (hs:ec h.grants):Does Tryz.prog 89 [.ptr 0 0,.int .i64 k] (svH h r) (.int .i64 (mayE h r k)) (svH h r):=by
 refine eb (fn:=Tryz.f89) Tryz.func89 rfl fb89 (by kernel_rfl) (Nat.le_of_ble_eq_true rfl) ?_
 refine aa ?_
 simp only[go_sem]
 repeat first|(with_reducible refine ad ?_ ?_;exact byD)|(with_reducible refine ae ?_ ?_;exact byQ)
 refine ab ?_
 refine aa ?_
 simp only[go_sem]
 refine ce (zzp h r ok hs) [0,1] rfl byC byC ?_
 simp only[go_sem]
 intro t8 e8
 subst e8
 refine ah _ rfl (fun h8=>?_) (fun h8=>?_)
 ·
  (try simp only[go_sem] at h8)
  refine aa ?_
  simp only[go_sem]
  refine af ?_
  simp only[go_sem]
  rw[mayE,if_pos (by omega)]
  exact⟨[0,1],rfl,rfl,byC,byC⟩
 ·
  (try simp only[go_sem] at h8)
  refine ag ?_
  (try simp only[go_sem])
  refine aa ?_
  simp only[go_sem]
  refine af ?_
  simp only[go_sem]
  rw[mayE,if_neg (by omega)]
  exact⟨[0,1],rfl,rfl,byC,byC⟩
def qj (h:Hub) (r:Request):Int:=if mayE h r 1≠0 then mayE h r 1 else (Gr.giveG h.grants r.folder r.who r.name r.number).2
def qs (h:Hub) (r:Request):Hub:=if qj h r=0 then { h with grants:=(Gr.giveG h.grants r.folder r.who r.name r.number).1 } else h
theorem zzn (h:Hub) (r:Request) (ok:dz h) (okr:okRq r) (hs:ec h.grants):Does Tryz.prog 83 [.ptr 0 0] (svH h r) (.tup [.agg (anE noA),.int .i64 (qj h r)]) (svH (qs h r) r):=by
 refine eb (fn:=Tryz.f83) Tryz.func83 rfl fb83 (by kernel_rfl) (Nat.le_of_ble_eq_true rfl) ?_
 refine aa ?_
 simp only[go_sem]
 repeat first|(with_reducible refine ad ?_ ?_;exact byD)|(with_reducible refine ae ?_ ?_;exact byQ)
 refine ab ?_
 refine aa ?_
 simp only[go_sem]
 refine ce (zrf h r 1 ok hs) [0,1] rfl byC byC ?_
 simp only[go_sem]
 refine aa ?_
 simp only[go_sem]
 intro t10 e10
 subst e10
 refine ah _ rfl (fun h10=>?_) (fun h10=>?_)
 ·
  (try simp only[go_sem] at h10)
  refine aa ?_
  simp only[go_sem]
  refine af ?_
  simp only[go_sem]
  have he:qj h r=mayE h r 1:=by rw[qj,if_pos (by simpa using h10)]
  have hh:qs h r=h:=by rw[qs,if_neg (by rw[he];simpa using h10)]
  rw[hh,he]
  exact⟨[0,1],rfl,rfl,byC,byC⟩
 ·
  (try simp only[go_sem] at h10)
  have h1:mayE h r 1=0:=by simpa using h10
  have he:qj h r=(Gr.giveG h.grants r.folder r.who r.name r.number).2:=by rw[qj,if_neg (by simpa using h1)]
  refine ag ?_
  (try simp only[go_sem])
  refine ab (bc cj [] (.first 0 (.first 1 (.first 2 (.first 3 (.first 4 (.first 5 (.first 6 (.first 7 (.first 8 (.first 9 (.first 10 (.first 11 (.first 12 (.first 13 (.first 14 (.first 15 (.first 16 (.first 17 (.first 18 (.first 19 (.first 20 (.first 21 (.first 22 (.first 23 (.first 24 (.one 25 (.first 26 (.first 27 (.first 28 (.first 29 (.first 30 (.done)))))))))))))))))))))))))))))))) (by kernel_rfl) ?_)
  simp only[go_sem]
  refine ek (Gr.Give_c h.grants ok.2.1.good r.folder r.who r.name (by have:=okr.2.1;omega) (by have:=okr.1;omega) (by have:=okr.2.2.1;omega) r.number) byW byT ?_
  simp only[go_sem]
  refine ab ?_
  refine aa ?_
  simp only[go_sem]
  intro t43 e43
  subst e43
  refine ah _ rfl (fun h43=>?_) (fun h43=>?_)
  ·
   (try simp only[go_sem] at h43)
   refine aj ?_
   simp only[go_sem]
   refine aa ?_
   simp only[go_sem]
   refine af ?_
   simp only[go_sem]
   have hz:(Gr.giveG h.grants r.folder r.who r.name r.number).2=0:=by simpa using h43
   have hh:qs h r = { h with grants:=(Gr.giveG h.grants r.folder r.who r.name r.number).1 }:=by rw[qs,if_pos (by rw[he];exact hz)]
   rw[hh,he]
   exact⟨[0,1],rfl,rfl,byC,byC⟩
  ·
   (try simp only[go_sem] at h43)
   refine ag ?_
   (try simp only[go_sem])
   refine aa ?_
   simp only[go_sem]
   refine af ?_
   simp only[go_sem]
   have hz:¬ (Gr.giveG h.grants r.folder r.who r.name r.number).2=0:=by simpa using h43
   have hh:qs h r=h:=by rw[qs,if_neg (by rw[he];exact hz)]
   rw[hh,he]
   exact⟨[0,1],rfl,rfl,byC,byC⟩
def jk (h:Hub) (r:Request):Page × Int:=if mayE h r 1≠0 then (noG,mayE h r 1) else px (h.folders.getD (fIx h.folders r.folder) default).jn r.number 10
theorem z1w (h:Hub) (r:Request) (ok:dz h) (okr:okRq r) (hs:ec h.grants) (hf:fo h.folders) (hm:mayE h r 1=0→hasF h.folders r.folder=true) :
  Does Tryz.prog 84 [.ptr 0 0] (svH h r) (.tup [.agg (anE ⟨0,0,(jk h r).1⟩),.int .i64 (jk h r).2]) (svH h r):=by
 refine eb (fn:=Tryz.f84) Tryz.func84 rfl fb84 (by kernel_rfl) (Nat.le_of_ble_eq_true rfl) ?_
 have hfl:=ok.1.1
 refine aa ?_
 simp only[go_sem]
 repeat first|(with_reducible refine ad ?_ ?_;exact byD)|(with_reducible refine ae ?_ ?_;exact byQ)
 refine ab ?_
 refine aa ?_
 simp only[go_sem]
 refine ce (zrf h r 1 ok hs) [0,1] rfl byC byC ?_
 simp only[go_sem]
 refine aa ?_
 simp only[go_sem]
 intro t12 e12
 subst e12
 refine ah _ rfl (fun h12=>?_) (fun h12=>?_)
 ·
  (try simp only[go_sem] at h12)
  refine aa ?_
  simp only[go_sem]
  refine af ?_
  simp only[go_sem]
  have he:jk h r=(noG,mayE h r 1):=by rw[jk,if_pos (by simpa using h12)]
  rw[he]
  exact⟨[0,1],rfl,rfl,byC,byC⟩
 ·
  (try simp only[go_sem] at h12)
  have h1:mayE h r 1=0:=by simpa using h12
  have hp:jk h r=px (h.folders.getD (fIx h.folders r.folder) default).jn r.number 10:=by rw[jk,if_neg (by simpa using h1)]
  have hh:=hm h1
  have hix:fIx h.folders r.folder<h.folders.length:=by rw[lw] at hh;simp at hh;exact hh.1
  have hmem:=ok.1.2 _ (bj (l:=h.folders) (d:=default) hix)
  refine ag ?_
  (try simp only[go_sem])
  refine ab (bc cj [] (.first 0 (.first 1 (.first 2 (.first 3 (.first 4 (.first 5 (.first 6 (.first 7 (.first 8 (.one 9 (.first 10 (.first 11 (.first 12 (.first 13 (.first 14 (.done)))))))))))))))) (by kernel_rfl) ?_)
  simp only[go_sem]
  refine zil 2 (tz h r.folder hf (by omega)) byV byC rfl ?_
  simp only[go_sem]
  refine ab (jd cj [0,1] [19] (.firstZ 0 (.firstZ 1 (.firstZ 2 (.firstZ 3 (.firstZ 4 (.firstZ 5 (.firstZ 6 (.firstZ 7 (.firstZ 8 (.firstZ 9 (.firstZ 10 (.firstZ 11 (.firstZ 12 (.firstZ 13 (.alt 14 (.firstZ 15 (.firstZ 16 (.firstZ 17 (.one 18 (.one 19 (.firstZ 20 (.done))))))) (.one 18 (.one 14 (.firstZ 15 (.firstZ 16 (.firstZ 17 (.one 19 (.firstZ 20 (.done))))))))))))))))))))))) (by kernel_rfl) ?_)
  simp only[go_sem]
  repeat first|(with_reducible refine ad ?_ ?_;exact byD)|(with_reducible refine ae ?_ ?_;exact byQ)
  refine⟨?_, ?_⟩
  ·
   refine ek (zye (h.folders.getD (fIx h.folders r.folder) default).jn r.number 10 hmem.2) byW byT ?_
   simp only[go_sem]
   refine aa ?_
   simp only[go_sem]
   refine af ?_
   simp only[go_sem]
   rw[hp]
   exact⟨[0,1],rfl,rfl,byC,byC⟩
  ·
   refine ek (zye (h.folders.getD (fIx h.folders r.folder) default).jn r.number 10 hmem.2) byW byT ?_
   simp only[go_sem]
   refine aa ?_
   simp only[go_sem]
   refine af ?_
   simp only[go_sem]
   rw[hp]
   exact⟨[0,1],rfl,rfl,byC,byC⟩
def upsH (h:Hub) (u:Uploads) (e:Int):Hub:=if e=0 then { h with ups:=u } else h
theorem zyb (h:Hub) (r:Request) (u:Uploads) (n e:Int):Does Tryz.prog 85 [.ptr 0 0,u.enc,.int .i64 n,.int .i64 e] (svH h r) (.tup [.agg (anE ⟨0,n,noG⟩),.int .i64 e]) (svH (upsH h u e) r):=by
 refine eb (fn:=Tryz.f85) Tryz.func85 rfl fb85 (by kernel_rfl) (Nat.le_of_ble_eq_true rfl) ?_
 refine aa ?_
 simp only[go_sem]
 repeat first|(with_reducible refine ad ?_ ?_;exact byD)|(with_reducible refine ae ?_ ?_;exact byQ)
 refine ab ?_
 refine aa ?_
 simp only[go_sem]
 intro t11 e11
 subst e11
 refine ah _ rfl (fun h11=>?_) (fun h11=>?_)
 ·
  (try simp only[go_sem] at h11)
  refine aj ?_
  simp only[go_sem]
  refine aa ?_
  simp only[go_sem]
  refine af ?_
  simp only[go_sem]
  rw[upsH,if_pos (by simpa using h11)]
  exact⟨[0,1],rfl,rfl,byC,byC⟩
 ·
  (try simp only[go_sem] at h11)
  refine ag ?_
  (try simp only[go_sem])
  refine aa ?_
  simp only[go_sem]
  refine af ?_
  simp only[go_sem]
  rw[upsH,if_neg (by simpa using h11)]
  exact⟨[0,1],rfl,rfl,byC,byC⟩
def setJ (h:Hub) (p:Str) (j:Journal):Hub:={ h with folders:=h.folders.set (fIx h.folders p) ⟨(h.folders.getD (fIx h.folders p) default).name,j⟩ }
def comP (h:Hub) (r:Request) (l:List Change):Journal × Int × Int:=ci (h.folders.getD (fIx h.folders r.folder) default).jn r.key l
def comH (h:Hub) (r:Request) (l:List Change):Hub:=if (comP h r l).2.2=0 then setJ h r.folder (comP h r l).1 else h
theorem vz (h:Hub) (r:Request) (l:List Change) (ok:dz h) (okr:okRq r) (okl:okCs l) (hf:fo h.folders) (hh:hasF h.folders r.folder=true) :
  Does Tryz.prog 91 [.ptr 0 0,csV l] (svH h r) (.tup [.agg (anE ⟨0,(comP h r l).2.1,noG⟩),.int .i64 (comP h r l).2.2]) (svH (comH h r l) r):=by
 refine eb (fn:=Tryz.f91) Tryz.func91 rfl fb91 (by kernel_rfl) (Nat.le_of_ble_eq_true rfl) ?_
 have hfl:=ok.1.1
 have hix:fIx h.folders r.folder<h.folders.length:=by rw[lw] at hh;simp at hh;exact hh.1
 have hmem:=ok.1.2 _ (bj (l:=h.folders) (d:=default) hix)
 refine aa ?_
 simp only[go_sem]
 repeat first|(with_reducible refine ad ?_ ?_;exact byD)|(with_reducible refine ae ?_ ?_;exact byQ)
 refine ab (bc cj [] (.first 0 (.first 1 (.first 2 (.first 3 (.first 4 (.first 5 (.first 6 (.first 7 (.first 8 (.one 9 (.first 10 (.first 11 (.first 12 (.first 13 (.first 14 (.done)))))))))))))))) (by kernel_rfl) ?_)
 simp only[go_sem]
 refine zil 2 (tz h r.folder hf (by omega)) byV byC rfl ?_
 simp only[go_sem]
 refine ab (jd cj [0,1] [21] (.firstZ 0 (.firstZ 1 (.firstZ 2 (.firstZ 3 (.firstZ 4 (.firstZ 5 (.firstZ 6 (.firstZ 7 (.firstZ 8 (.firstZ 9 (.firstZ 10 (.firstZ 11 (.firstZ 12 (.firstZ 13 (.firstZ 14 (.alt 15 (.firstZ 16 (.firstZ 17 (.firstZ 18 (.firstZ 19 (.one 20 (.one 21 (.firstZ 22 (.firstZ 23 (.done))))))))) (.one 20 (.one 15 (.firstZ 16 (.firstZ 17 (.firstZ 18 (.firstZ 19 (.one 21 (.firstZ 22 (.firstZ 23 (.done)))))))))))))))))))))))))) (by kernel_rfl) ?_)
 simp only[go_sem]
 repeat first|(with_reducible refine ad ?_ ?_;exact byD)|(with_reducible refine ae ?_ ?_;exact byQ)
 refine⟨?_, ?_⟩
 ·
  refine ek (zhf (h.folders.getD (fIx h.folders r.folder) default).jn r.key l hmem.2 okr.2.2.2.1 okl) byW byT ?_
  simp only[go_sem]
  refine ab ?_
  refine aa ?_
  simp only[go_sem]
  intro t45 e45
  subst e45
  refine ah _ rfl (fun h45=>?_) (fun h45=>?_)
  ·
   (try simp only[go_sem] at h45)
   have hz:(comP h r l).2.2=0:=h45
   have he:comH h r l=setJ h r.folder (comP h r l).1:=by rw[comH,if_pos hz]
   refine jd cj [0,3] [9] (.firstZ 0 (.firstZ 1 (.firstZ 2 (.firstZ 3 (.firstZ 4 (.firstZ 5 (.firstZ 6 (.firstZ 7 (.firstZ 8 (.one 9 (.done))))))))))) (by kernel_rfl) ?_
   simp only[go_sem]
   repeat first|(with_reducible refine ad ?_ ?_;exact byD)|(with_reducible refine ae ?_ ?_;exact byQ)
   refine aa ?_
   simp only[go_sem]
   refine af ?_
   simp only[go_sem]
   rw[he,setJ]
   refine⟨[0,1],rfl,rfl, ?_, ?_⟩
   ·exact byC
   ·simp only[go_sem,wk,wks,wkB,wkH,List.length_set]
    and_intros<;>first|trivial|rfl|(intros;exact ak _)|exact fun q hq=>dh (fun _=>rfl) (zpu (x:=⟨(h.folders.getD (fIx h.folders r.folder) default).name,(comP h r l).1⟩) hix rfl)
  ·
   (try simp only[go_sem] at h45)
   have hz:¬ (comP h r l).2.2=0:=h45
   have he:comH h r l=h:=by rw[comH,if_neg hz]
   refine ag ?_
   (try simp only[go_sem])
   refine aa ?_
   simp only[go_sem]
   refine af ?_
   simp only[go_sem]
   rw[he]
   exact⟨[0,1],rfl,rfl,byC,byC⟩
 ·
  refine ek (zhf (h.folders.getD (fIx h.folders r.folder) default).jn r.key l hmem.2 okr.2.2.2.1 okl) byW byT ?_
  simp only[go_sem]
  refine ab ?_
  refine aa ?_
  simp only[go_sem]
  intro t45 e45
  subst e45
  refine ah _ rfl (fun h45=>?_) (fun h45=>?_)
  ·
   (try simp only[go_sem] at h45)
   have hz:(comP h r l).2.2=0:=h45
   have he:comH h r l=setJ h r.folder (comP h r l).1:=by rw[comH,if_pos hz]
   refine jd cj [0,3] [9] (.firstZ 0 (.firstZ 1 (.firstZ 2 (.firstZ 3 (.firstZ 4 (.firstZ 5 (.firstZ 6 (.firstZ 7 (.firstZ 8 (.one 9 (.done))))))))))) (by kernel_rfl) ?_
   simp only[go_sem]
   repeat first|(with_reducible refine ad ?_ ?_;exact byD)|(with_reducible refine ae ?_ ?_;exact byQ)
   refine aa ?_
   simp only[go_sem]
   refine af ?_
   simp only[go_sem]
   rw[he,setJ]
   refine⟨[0,1],rfl,rfl, ?_, ?_⟩
   ·exact byC
   ·simp only[go_sem,wk,wks,wkB,wkH,List.length_set]
    and_intros<;>first|trivial|rfl|(intros;exact ak _)|exact fun q hq=>dh (fun _=>rfl) (zpu (x:=⟨(h.folders.getD (fIx h.folders r.folder) default).name,(comP h r l).1⟩) hix rfl)
  ·
   (try simp only[go_sem] at h45)
   have hz:¬ (comP h r l).2.2=0:=h45
   have he:comH h r l=h:=by rw[comH,if_neg hz]
   refine ag ?_
   (try simp only[go_sem])
   refine aa ?_
   simp only[go_sem]
   refine af ?_
   simp only[go_sem]
   rw[he]
   exact⟨[0,1],rfl,rfl,byC,byC⟩
end Go.VM.Tryz
end
