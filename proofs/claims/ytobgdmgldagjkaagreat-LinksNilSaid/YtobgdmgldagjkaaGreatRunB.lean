/- The example of the page on links (escheatlaw32.works) comes to true: run by the kernel, with the calls apart told ahead. No condition. -/
import Derived.Test.YtobgdmgldagjkaaGreatRows
import Derived.Test.YtobgdmgldagjkaaGreatV05
set_option maxRecDepth 100000
namespace Go.Proofs.YtobgdmgldagjkaaGreat
open Go.Vm
theorem works_run : runD (cR e15) 3000 15 [] = some (.ret (.d (.bool true))) := by kernel_rfl
end Go.Proofs.YtobgdmgldagjkaaGreat
