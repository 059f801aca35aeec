/- The statement's code, for every input; the example. -/
import Derived.Test.YtobgdmgldagjkaaF11
/-! The statement's code, for every input; the example. -/
section
set_option linter.unusedVariables false
set_option linter.unusedSimpArgs false
set_option maxRecDepth 100000
set_option maxHeartbeats 4000000
namespace Go.Proofs.Ytobgdmgldagjkaa
open Go.Vm
theorem rinode_ok : RInode := ⟨1000, by kernel_rfl⟩
theorem formats_ok (l : Lay) (hb : InB l.blocks) (hi : InB l.inodes) (hM : 0 ≤ l.merge ∧ l.merge < 18446744073709551616) (n fuse : Int) (hf : InB fuse) : Ev cfg 3 [encLay l, .int .i64 n, .int .i64 fuse] (.ret (.d (.bool true))) := by
  by_cases hs : n < 16 ∨ n > 60
  · exact law_small l n fuse hs
  obtain ⟨N, rfl⟩ : ∃ N : Nat, n = (N : Int) := ⟨n.toNat, by omega⟩
  have hN : 16 ≤ N ∧ N ≤ 60 := by omega
  by_cases hm : MayL l
  · by_cases he : l.blocks = (N : Int)
    · by_cases hfu : fuse ≥ 0 ∧ fuse < 2 + l.inodes.tdiv 8
      · exact law_down l hb hi hM N hN fuse hf hm he hfu
      · exact law_good rinode_ok l hb hi hM N hN fuse hf hm he hfu
    · exact law_other l hb hi hM N hN fuse hf hm he
  · exact law_bad l hb hi N hN fuse hf hm
theorem ext_ok : ExtOk cfg := by
  intro f g h ds o ho
  have hf : f = 7 := by
    cases hb : Nat.beq f 7 with
    | true => exact Nat.eq_of_beq_eq_true hb
    | false => simp [cfg, hb] at h
  subst hf
  have hg : g = worksX := by
    have h : some worksX = some g := h
    exact (Option.some.inj h).symm
  subst hg
  cases ds with
  | cons x r => cases ho
  | nil =>
    have ho : some (Out.ret (.d (.bool true))) = some o := ho
    simp only [Option.some.injEq] at ho
    subst ho
    exact runD_ok works_ext catchR 100000 7 [] _ works_run
theorem catch_ok : CatchOk cfg := fun f post h => by cases h
end Go.Proofs.Ytobgdmgldagjkaa
end
