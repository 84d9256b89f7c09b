import Derived.Test.YtmbnphmhaoomoaaGreatDoorAW11
import Derived.Test.YtmbnphmhaoomoaaGreatDoorAV14
import Derived.LaidSub
set_option maxHeartbeats 4000000
set_option linter.unusedVariables false
set_option linter.unusedSimpArgs false
open Go Go.VM Go.Proofs
namespace Go.VM.Tryz
theorem gt_of {l:List (String × DataW Unit)} {W:World} (h:laidMetH Tryz.prog l W) (hl:(true=true)):GT Tryz.prog W:=by
 intro n hn g hg
 simp only[GN,List.mem_cons,List.not_mem_nil,or_false] at hn
 rcases hn with rfl|rfl|rfl
 ·rw[show Tryz.prog.globalNamed "internal/strconv.uint64pow10"=none by kernel_rfl] at hg
  cases hg
 ·rw[show Tryz.prog.globalNamed "strconv.ErrSyntax"=none by kernel_rfl] at hg
  cases hg
 ·rw[show Tryz.prog.globalNamed "strconv.ErrRange"=none by kernel_rfl] at hg
  cases hg
end Go.VM.Tryz
