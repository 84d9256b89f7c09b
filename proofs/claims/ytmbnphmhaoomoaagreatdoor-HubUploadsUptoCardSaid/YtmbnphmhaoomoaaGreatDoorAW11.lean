import Derived.Test.YtmbnphmhaoomoaaGreatDoorAW2
import Derived.Test.YtmbnphmhaoomoaaGreatDoorAV13
import Derived.Test.YtmbnphmhaoomoaaGreatDoorAW4
import Derived.Test.YtmbnphmhaoomoaaGreatDoorAW5
import Derived.Test.YtmbnphmhaoomoaaGreatDoorAW9
import Derived.Test.YtmbnphmhaoomoaaGreatDoorAW8
import Derived.Test.YtmbnphmhaoomoaaGreatDoorRows
import Derived.Deep.DeepHandedRow
import Derived.Lib.LaidTab
set_option maxHeartbeats 4000000
set_option linter.unusedVariables false
set_option linter.unusedSimpArgs false
section
open Go Go.VM Go.Proofs
namespace Go.VM.Tryz
open Go.VM.U Go.Proofs.YtmbnphmhaoomoaaGreatDoor
theorem ig:Rdr Tryz.prog 3 1 (fun n:Int=>[V.int .i64 n]) (fun n=>(Lit.int .i64 n).wf=true):=Rdr.int Tryz.underlying3 (by kernel_rfl)
theorem z1v:Rdr Tryz.prog 4 1 (fun b:Bool=>[V.bool b]) (fun _=>True):=Rdr.bool Tryz.underlying4 (by kernel_rfl)
theorem jo:Rdr Tryz.prog 9 1 (fun s:List UInt8=>[V.str s]) (fun s=>s.length≤upB):=Rdr.str Tryz.underlying9 (by kernel_rfl)
theorem ar_int:ARd Tryz.prog 3 (fun n:Int=>V.int .i64 n) (fun n=>(Lit.int .i64 n).wf=true):=ARd.cell ig (by rw[Tryz.underlying3];trivial)
theorem laidOut:laidOutB Tryz.prog=true:=by kernel_rfl
theorem own:ownKnob Tryz.prog.godebug=none:=by kernel_rfl
mutual
theorem zm {H:Type}:∀ d:DataW H,Rows.uptoBulk d=bulk d
 | .lit l=>by cases l<;>simp[Rows.uptoBulk,bulk]
 | .nil=>by simp[Rows.uptoBulk,bulk]
 | .ptr d=>by simp[Rows.uptoBulk,bulk,zm d]
 | .slice a b=>by simp[Rows.uptoBulk,bulk,lz a,lz b]
 | .agg a=>by simp[Rows.uptoBulk,bulk,lz a]
 | .iface _ d=>by simp[Rows.uptoBulk,bulk,zm d]
 | .map es=>by simp[Rows.uptoBulk,bulk,pz es]
 | .held _=>by simp[Rows.uptoBulk,bulk]
theorem lz {H:Type}:∀ l:List (DataW H),Rows.uptoBulkAll l=bulkAll l
 | []=>by simp[Rows.uptoBulkAll,bulkAll]
 | d::r=>by simp[Rows.uptoBulkAll,bulkAll,zm d,lz r]
theorem pz {H:Type}:∀ l:List (Lit × DataW H),Rows.uptoBulkEntries l=kd l
 | []=>by simp[Rows.uptoBulkEntries,kd]
 | x::r=>by simp[Rows.uptoBulkEntries,kd,zdb x,pz r]
theorem zdb {H:Type}:∀ x:Lit × DataW H,Rows.uptoBulkEntry x=ww x
 | (k,d)=>by cases k<;>simp[Rows.uptoBulkEntry,ww,zm d]
end
theorem upto_bulk {H:Type} {l:List (DataW H)} (h:Rows.uptoSmall H l=true):bulkAll l≤upB:=by
 rw[← lz]
 exact of_decide_eq_true h
def litC:DataW Unit→List Value
 | .lit (.int k n)=>[.int k n]
 | .lit (.bool b)=>[.bool b]
 | _=>[]
def litD:DataW Unit→List Value
 | .agg l=>l.flatMap litC
 | d=>litC d
def litE:DataW Unit→Array Value
 | .agg l=>(l.flatMap litD).toArray
 | d=>(litD d).toArray
def zxm (d:DataW Unit):Obj→Obj
 | .cells _ t frozen=>.cells (litE d) t frozen
 | o=>o
noncomputable def laidWorld (os:Os):World :=
 { World.holding Tryz.prog os ⟨#[],#[],[]⟩ with heap:=(World.holding Tryz.prog os ⟨#[],#[],[]⟩).heap.modify 1 (zxm Rows.laid_unicode_utf8_first) |>.modify 2 (zxm Rows.laid_unicode_utf8_acceptRanges) }
end Go.VM.Tryz
end
section
open Go Go.VM Go.Proofs Tether
namespace Go.VM.Tryz
open Go.VM.U
theorem zrj:Rdr Tryz.prog 72 4 Entry.enc (fun x=>x.path.length≤1048576∧x.text.length≤1048576) :=
 (Rdr.struct Tryz.underlying72 (FRd.cons jo (FRd.cons z1v (FRd.cons jo (FRd.cons ig (FRd.nil 4) rfl) rfl) rfl) rfl) (by kernel_rfl)).as
  (fun p=>(⟨p.1,p.2.1,p.2.2.1,p.2.2.2.1⟩:Entry)) (fun _=>rfl) (fun _ h=>⟨h.1,h.2.2.1⟩) (fun _=>rfl)
theorem ziy:Rdr Tryz.prog 41 1 (fun l=>[esV l]) okE :=
 (Rdr.slice zrj (by decide) default Tryz.underlying41 (by kernel_rfl)).as id (fun _=>rfl) (fun l h=>h) (fun _=>rfl)
theorem zlt:Rdr Tryz.prog 81 5 Change.enc okC :=
 (Rdr.struct Tryz.underlying81 (FRd.cons ig (FRd.cons jo (FRd.cons jo (FRd.cons jo (FRd.cons ig (FRd.nil 5) rfl) rfl) rfl) rfl) rfl) (by kernel_rfl)).as
  (fun p=>(⟨p.1,p.2.1,p.2.2.1,p.2.2.2.1,p.2.2.2.2.1⟩:Change)) (fun _=>rfl) (fun _ h=>⟨h.2.1,h.2.2.1,h.2.2.2.1⟩) (fun _=>rfl)
theorem yx:Rdr Tryz.prog 38 1 (fun l=>[csV l]) okCs :=
 (Rdr.slice zlt (by decide) default Tryz.underlying38 (by kernel_rfl)).as id (fun _=>rfl) (fun l h=>h) (fun _=>rfl)
end Go.VM.Tryz
end
section
open Go Go.VM Go.Proofs Tether
namespace Go.VM.Tryz
open Go.VM.U
theorem znh:Rdr Tryz.prog 70 3 cmE okM :=
 (Rdr.struct Tryz.underlying70 (FRd.cons ig (FRd.cons jo (FRd.cons yx (FRd.nil 3) rfl) rfl) rfl) (by kernel_rfl)).as
  (fun p=>(⟨p.1,p.2.1,p.2.2.1⟩:Commit)) (fun _=>rfl) (fun _ h=>⟨h.2.1,h.2.2.1⟩) (fun _=>rfl)
theorem zju:Rdr Tryz.prog 42 1 (fun l=>[cmsV l]) okMs :=
 (Rdr.slice znh (by decide) default Tryz.underlying42 (by kernel_rfl)).as id (fun _=>rfl) (fun l h=>h) (fun _=>rfl)
theorem zku:Rdr Tryz.prog 60 3 jnE okJ :=
 (Rdr.struct Tryz.underlying60 (FRd.cons ziy (FRd.cons ig (FRd.cons zju (FRd.nil 3) rfl) rfl) rfl) (by kernel_rfl)).as
  (fun p=>(⟨p.1,p.2.1,p.2.2.1⟩:Journal)) (fun _=>rfl) (fun _ h=>⟨h.1,h.2.2.1⟩) (fun _=>rfl)
end Go.VM.Tryz
end
section
open Go Go.VM Go.Proofs Tether
namespace Go.VM.Tryz
open Go.VM.U
theorem zwc:Rdr Tryz.prog 88 3 Grant.enc (fun g=>g.folder.length≤1048576∧g.who.length≤1048576) :=
 (Rdr.struct Tryz.underlying88 (FRd.cons jo (FRd.cons jo (FRd.cons ig (FRd.nil 3) rfl) rfl) rfl) (by kernel_rfl)).as
  (fun p=>(⟨p.1,p.2.1,p.2.2.1⟩:Grant)) (fun _=>rfl) (fun _ h=>⟨h.1,h.2.1⟩) (fun _=>rfl)
theorem zlq:Rdr Tryz.prog 23 1 (fun l=>[gsV l]) okGs :=
 (Rdr.slice zwc (by decide) default Tryz.underlying23 (by kernel_rfl)).as id (fun _=>rfl) (fun l h=>h) (fun _=>rfl)
theorem zis:Rdr Tryz.prog 78 5 Session.enc (fun s=>s.who.length≤1048576∧s.text.length≤1048576) :=
 (Rdr.struct Tryz.underlying78 (FRd.cons ig (FRd.cons jo (FRd.cons jo (FRd.cons ig (FRd.cons ig (FRd.nil 5) rfl) rfl) rfl) rfl) rfl) (by kernel_rfl)).as
  (fun p=>(⟨p.1,p.2.1,p.2.2.1,p.2.2.2.1,p.2.2.2.2.1⟩:Session)) (fun _=>rfl) (fun _ h=>⟨h.2.1,h.2.2.1⟩) (fun _=>rfl)
theorem zfn:Rdr Tryz.prog 24 1 (fun l=>[ssV l]) (fun l=>l.length≤1048576∧∀ s∈l,s.who.length≤1048576∧s.text.length≤1048576) :=
 (Rdr.slice zis (by decide) default Tryz.underlying24 (by kernel_rfl)).as id (fun _=>rfl) (fun l h=>h) (fun _=>rfl)
def upE (u:Uploads):List V:=[ssV u.ss,.int .i64 u.next,.int .i64 u.lasts,.int .i64 u.room]
theorem zkh:Rdr Tryz.prog 26 4 upE okUs :=
 (Rdr.struct Tryz.underlying26 (FRd.cons zfn (FRd.cons ig (FRd.cons ig (FRd.cons ig (FRd.nil 4) rfl) rfl) rfl) rfl) (by kernel_rfl)).as
  (fun p=>(⟨p.1,p.2.1,p.2.2.1,p.2.2.2.1⟩:Uploads)) (fun _=>rfl) (fun _ h=>h.1) (fun _=>rfl)
theorem zpf:Rdr Tryz.prog 62 4 shE okSh :=
 (Rdr.struct Tryz.underlying62 (FRd.cons jo (FRd.cons zku (FRd.nil 4) rfl) rfl) (by kernel_rfl)).as
  (fun p=>(⟨p.1,p.2.1⟩:Shared)) (fun _=>rfl) (fun _ h=>⟨h.1,h.2.1⟩) (fun _=>rfl)
theorem zka:Rdr Tryz.prog 22 1 (fun l=>[shsV l]) okShs :=
 (Rdr.slice zpf (by decide) default Tryz.underlying22 (by kernel_rfl)).as id (fun _=>rfl) (fun l h=>h) (fun _=>rfl)
theorem rd_Hub:Rdr Tryz.prog 28 7 hubE dz :=
 (Rdr.struct Tryz.underlying28 (FRd.cons zka (FRd.cons zlq (FRd.cons zkh (FRd.cons ig (FRd.nil 7) rfl) rfl) rfl) rfl) (by kernel_rfl)).as
  (fun p=>(⟨p.1,p.2.1,p.2.2.1,p.2.2.2.1⟩:Hub)) (fun _=>rfl) (fun _ h=>⟨h.1,h.2.1,h.2.2.1⟩) (fun _=>rfl)
theorem ar_Hub:ARd Tryz.prog 28 (fun h:Hub=>.agg (hubE h)) dz:=ARd.struct rd_Hub Tryz.underlying28
end Go.VM.Tryz
end
section
open Go Go.VM Go.Proofs Tether
namespace Go.VM.Tryz
open Go.VM.U
theorem zkf:Rdr Tryz.prog 40 10 rqE okRq :=
 (Rdr.struct Tryz.underlying40 (FRd.cons ig (FRd.cons jo (FRd.cons jo (FRd.cons jo (FRd.cons jo (FRd.cons jo (FRd.cons ig (FRd.cons ig (FRd.cons ig (FRd.cons yx (FRd.nil 10) rfl) rfl) rfl) rfl) rfl) rfl) rfl) rfl) rfl) rfl) (by kernel_rfl)).as
  (fun p=>(⟨p.1,p.2.1,p.2.2.1,p.2.2.2.1,p.2.2.2.2.1,p.2.2.2.2.2.1,p.2.2.2.2.2.2.1,p.2.2.2.2.2.2.2.1,p.2.2.2.2.2.2.2.2.1,p.2.2.2.2.2.2.2.2.2.1⟩:Request)) (fun _=>rfl)
  (fun _ h=>⟨h.2.1,h.2.2.1,h.2.2.2.1,h.2.2.2.2.1,h.2.2.2.2.2.1,h.2.2.2.2.2.2.2.2.2.1⟩) (fun _=>rfl)
theorem ar_Request:ARd Tryz.prog 40 (fun r:Request=>.agg (rqE r)) okRq:=ARd.struct zkf Tryz.underlying40
end Go.VM.Tryz
end
