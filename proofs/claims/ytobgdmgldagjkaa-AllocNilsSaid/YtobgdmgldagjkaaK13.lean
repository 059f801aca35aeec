/- AllocNils: the machine is told the example. -/
import Derived.Test.YtobgdmgldagjkaaK12
/-! AllocNils: the machine is told the example. -/
section
set_option linter.unusedVariables false
set_option linter.unusedSimpArgs false
set_option maxRecDepth 100000
set_option maxHeartbeats 4000000
namespace Go.Proofs.Ytobgdmgldagjkaa
open Go.Vm
theorem ext_ok : ExtOk cfg := by
  intro f g h ds o ho
  have hf : f = 28 := by
    cases hb : Nat.beq f 28 with
    | true => exact Nat.eq_of_beq_eq_true hb
    | false => simp [cfg, hb] at h
  subst hf
  have hg : g = worksX := by
    have h : some worksX = some g := h
    exact (Option.some.inj h).symm
  subst hg
  cases ds with
  | cons x r => cases ho
  | nil =>
    have ho : some (Out.ret (.d (.bool true))) = some o := ho
    simp only [Option.some.injEq] at ho
    subst ho
    exact runD_ok works_ext catchR 100000 28 [] _ works_run
theorem catch_ok : CatchOk cfg := fun f post h => by cases h
end Go.Proofs.Ytobgdmgldagjkaa
end
