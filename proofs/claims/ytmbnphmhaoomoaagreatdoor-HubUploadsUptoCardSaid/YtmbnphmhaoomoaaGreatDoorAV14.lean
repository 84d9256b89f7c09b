import Derived.Test.YtmbnphmhaoomoaaGreatDoorAV11
import Derived.Shelf.Strconv.Itoa3
set_option linter.unusedVariables false
set_option linter.unusedSimpArgs false
set_option maxHeartbeats 4000000
namespace Go.VM
end Go.VM
