/-
  WALK: lists of sums that were answered share nothing.
-/
import Derived.Test.YtcdlmjbjpeokfaaDoorApp
import Derived.Test.YtcdlmjbjpeokfaaDoorSumsW
import Derived.Test.YtcdlmjbjpeokfaaDoorMem
import Derived.Outline
import Derived.RegionTactic
import Derived.ChangeAlike
import Derived.BigRegion
namespace Go.Proofs.YtcdlmjbjpeokfaaDoor
open Go.RowKit
set_option linter.unusedVariables false

theorem partsinfo : (Tryd.prog.info? 23).map (fun i => (i.zero, i.size, i.bytes)) = some (some (.slice none 0 0), 1, 24) := by kernel_rfl

end Go.Proofs.YtcdlmjbjpeokfaaDoor
