/- The example escheatlaw31.works, by the kernel. No condition. -/
import Derived.Test.YtobgdmgldagjkaaK11
/-! The example escheatlaw31.works, by the kernel. No condition. -/
section
set_option linter.unusedVariables false
set_option maxRecDepth 100000
set_option maxHeartbeats 4000000
namespace Go.Proofs.Ytobgdmgldagjkaa
open Go.Vm
theorem works_run : runD (cR e31) 100000 28 [] = some (.ret (.d (.bool true))) := by kernel_rfl
end Go.Proofs.Ytobgdmgldagjkaa
end
