/- The example of the page on stores (escheatlaw30.works) comes to true: run by Lean's kernel on the value machine. No condition. -/
import Derived.Test.YtljefklfoieecaaRows
import Derived.Test.YtljefklfoieecaaVmKc
import Derived.Test.YtljefklfoieecaaVmZ
namespace Go.Proofs.Ytljefklfoieecaa
open Go.Vm
/-- The functions that work on the caller's store, as a number's bits. -/
def sharedMask : Nat := 7975368632138326579262689555588611872
noncomputable def cfg0 : Cfg := { P := Try.prog, mixed := by kernel_rfl, shared := fun f => Nat.testBit sharedMask f, ext := fun _ => .none, catch_ := fun _ => .none }
theorem works30 : runK cfg0 3000 15 [] = some (.ret (.d (.bool true))) := by kernel_rfl
end Go.Proofs.Ytljefklfoieecaa
