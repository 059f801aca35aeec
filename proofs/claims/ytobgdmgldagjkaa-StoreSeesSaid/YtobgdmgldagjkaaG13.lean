/- The example escheatlaw30.works, by the kernel. No condition. -/
import Derived.Test.YtobgdmgldagjkaaG12
set_option linter.unusedVariables false
set_option linter.unusedSimpArgs false
set_option maxRecDepth 100000
set_option maxHeartbeats 4000000
set_option linter.defProp false
section
namespace Go.Proofs.Ytobgdmgldagjkaa
open Go.Vm
theorem zkz : runD (cR e25) 100000 7 [] = some (.ret (.d (.bool true))) := by kernel_rfl
end Go.Proofs.Ytobgdmgldagjkaa
end
