/-
  No cell of these rows narrows 'for every input' (looked for: loops, veiled, ifaces, maps, wideKeys, modest, calm, conditions, laid).
  DERIVED. THE GIVEN ROWS OF THIS SEAT. 7 by the template 'for every input the law returns true; each argument reads behind the call as it read before'; 0 by the template 'total and deterministic' (their statements: YtghllhghboaagaaTotals.lean).
  GIVEN WITH THE SEED: the statements are not yours to turn. If you find one false, say at which input.
  Laid BY PROGRAM, IN A SANDBOX (cutbox-rows.mjs): the forced cells as the released guide's own fill.sh prints them over the translation 1f105e6ae0b5c473… (all of the seat's roots in one cut). By AI agents, Wed Nov 11 2026. No macro, syntax, notation, axiom, sorry.
-/
import Derived.Test.YtghllhghboaagaaChecked
import GoSem.Claim
import GoSem.ClaimJoined
import GoSem.ClaimMapViews
import Derived.JoinedTies
import Derived.KernelRfl
namespace Go.Proofs.Ytghllhghboaagaa
/- THE CELL 'sum', in the pinned program and in every row, IS THE sha256 OF THE DUMP (.gsa) THAT YtghllhghboaagaaProg.lean LOADS. Nothing in Lean hashes anything: it is a label: what it is worth is what the hold of that sum in a sandbox is worth. -/
noncomputable def Try.pinned : Pinned := { name := "ytghllhghboaagaa", sum := "1f105e6ae0b5c4731daa802310541cd035272b409bcd68339fda807586094faa", checked := Try.checked }
namespace Rows
def none {H : Type} : Left H := { results := [], args := [] }

/-- 'escheatlaw29.HistUps': WHATEVER THE INPUT: true; the input reads as it did. -/
def histUpsSpec : ChangeSpec := { name := "histUps", fn := fun _ => fun
  | [d] => { results := [.lit (.bool true)], args := [d] }
  | _ => none }
def histUpsRow : OpenClaim := { program := "ytghllhghboaagaa", sum := "1f105e6ae0b5c4731daa802310541cd035272b409bcd68339fda807586094faa", func := "escheat/escheatlaw29.HistUps", spec := "histUps", plainKeys := false, apart := false }
def HistUpsSaid : Prop := histUpsRow.holds Try.pinned (OpenSpec.ofChange histUpsSpec)

/-- ITS FALSE NEIGHBOUR: 'it returns false'. Refute it at one input. -/
def histUpsWrong : ChangeSpec := { name := "histUps", fn := fun _ => fun
  | [d] => { results := [.lit (.bool false)], args := [d] }
  | _ => none }
def HistUpsWrongFalsely : Prop := histUpsRow.holds Try.pinned (OpenSpec.ofChange histUpsWrong)

/-- 'escheatlaw28.ModelSteps': WHATEVER THE INPUT: true; the input reads as it did. -/
def modelStepsSpec : ChangeSpec := { name := "modelSteps", fn := fun _ => fun
  | [d] => { results := [.lit (.bool true)], args := [d] }
  | _ => none }
def modelStepsRow : OpenClaim := { program := "ytghllhghboaagaa", sum := "1f105e6ae0b5c4731daa802310541cd035272b409bcd68339fda807586094faa", func := "escheat/escheatlaw28.ModelSteps", spec := "modelSteps", unfollowed := true, recurses := true, plainKeys := false, apart := false }
def ModelStepsSaid : Prop := modelStepsRow.holds Try.pinned (OpenSpec.ofChange modelStepsSpec)

/-- ITS FALSE NEIGHBOUR: 'it returns false'. Refute it at one input. -/
def modelStepsWrong : ChangeSpec := { name := "modelSteps", fn := fun _ => fun
  | [d] => { results := [.lit (.bool false)], args := [d] }
  | _ => none }
def ModelStepsWrongFalsely : Prop := modelStepsRow.holds Try.pinned (OpenSpec.ofChange modelStepsWrong)

/-- 'escheatlaw28.ModelRight': WHATEVER THE INPUT: true; the input reads as it did. -/
def modelRightSpec : ChangeSpec := { name := "modelRight", fn := fun _ => fun
  | [d] => { results := [.lit (.bool true)], args := [d] }
  | _ => none }
def modelRightRow : OpenClaim := { program := "ytghllhghboaagaa", sum := "1f105e6ae0b5c4731daa802310541cd035272b409bcd68339fda807586094faa", func := "escheat/escheatlaw28.ModelRight", spec := "modelRight", unfollowed := true, recurses := true, plainKeys := false, apart := false }
def ModelRightSaid : Prop := modelRightRow.holds Try.pinned (OpenSpec.ofChange modelRightSpec)

/-- ITS FALSE NEIGHBOUR: 'it returns false'. Refute it at one input. -/
def modelRightWrong : ChangeSpec := { name := "modelRight", fn := fun _ => fun
  | [d] => { results := [.lit (.bool false)], args := [d] }
  | _ => none }
def ModelRightWrongFalsely : Prop := modelRightRow.holds Try.pinned (OpenSpec.ofChange modelRightWrong)

/-- 'escheatlaw28.ModelReads': WHATEVER THE INPUT: true; the input reads as it did. -/
def modelReadsSpec : ChangeSpec := { name := "modelReads", fn := fun _ => fun
  | [d1, d2, d3] => { results := [.lit (.bool true)], args := [d1, d2, d3] }
  | _ => none }
def modelReadsRow : OpenClaim := { program := "ytghllhghboaagaa", sum := "1f105e6ae0b5c4731daa802310541cd035272b409bcd68339fda807586094faa", func := "escheat/escheatlaw28.ModelReads", spec := "modelReads", unfollowed := true, recurses := true, plainKeys := false, apart := false }
def ModelReadsSaid : Prop := modelReadsRow.holds Try.pinned (OpenSpec.ofChange modelReadsSpec)

/-- ITS FALSE NEIGHBOUR: 'it returns false'. Refute it at one input. -/
def modelReadsWrong : ChangeSpec := { name := "modelReads", fn := fun _ => fun
  | [d1, d2, d3] => { results := [.lit (.bool false)], args := [d1, d2, d3] }
  | _ => none }
def ModelReadsWrongFalsely : Prop := modelReadsRow.holds Try.pinned (OpenSpec.ofChange modelReadsWrong)

/-- 'escheatlaw28.ModelPaths': WHATEVER THE INPUT: true; the input reads as it did. -/
def modelPathsSpec : ChangeSpec := { name := "modelPaths", fn := fun _ => fun
  | [d1, d2] => { results := [.lit (.bool true)], args := [d1, d2] }
  | _ => none }
def modelPathsRow : OpenClaim := { program := "ytghllhghboaagaa", sum := "1f105e6ae0b5c4731daa802310541cd035272b409bcd68339fda807586094faa", func := "escheat/escheatlaw28.ModelPaths", spec := "modelPaths", unfollowed := true, recurses := true, plainKeys := false, apart := false }
def ModelPathsSaid : Prop := modelPathsRow.holds Try.pinned (OpenSpec.ofChange modelPathsSpec)

/-- ITS FALSE NEIGHBOUR: 'it returns false'. Refute it at one input. -/
def modelPathsWrong : ChangeSpec := { name := "modelPaths", fn := fun _ => fun
  | [d1, d2] => { results := [.lit (.bool false)], args := [d1, d2] }
  | _ => none }
def ModelPathsWrongFalsely : Prop := modelPathsRow.holds Try.pinned (OpenSpec.ofChange modelPathsWrong)

/-- 'escheatlaw28.ModelKeeps': WHATEVER THE INPUT: true; the input reads as it did. -/
def modelKeepsSpec : ChangeSpec := { name := "modelKeeps", fn := fun _ => fun
  | [d1, d2] => { results := [.lit (.bool true)], args := [d1, d2] }
  | _ => none }
def modelKeepsRow : OpenClaim := { program := "ytghllhghboaagaa", sum := "1f105e6ae0b5c4731daa802310541cd035272b409bcd68339fda807586094faa", func := "escheat/escheatlaw28.ModelKeeps", spec := "modelKeeps", unfollowed := true, recurses := true, plainKeys := false, apart := false }
def ModelKeepsSaid : Prop := modelKeepsRow.holds Try.pinned (OpenSpec.ofChange modelKeepsSpec)

/-- ITS FALSE NEIGHBOUR: 'it returns false'. Refute it at one input. -/
def modelKeepsWrong : ChangeSpec := { name := "modelKeeps", fn := fun _ => fun
  | [d1, d2] => { results := [.lit (.bool false)], args := [d1, d2] }
  | _ => none }
def ModelKeepsWrongFalsely : Prop := modelKeepsRow.holds Try.pinned (OpenSpec.ofChange modelKeepsWrong)

/-- 'escheatlaw29.HistStill': WHATEVER THE INPUT: true; the input reads as it did. -/
def histStillSpec : ChangeSpec := { name := "histStill", fn := fun _ => fun
  | [d1, d2] => { results := [.lit (.bool true)], args := [d1, d2] }
  | _ => none }
def histStillRow : OpenClaim := { program := "ytghllhghboaagaa", sum := "1f105e6ae0b5c4731daa802310541cd035272b409bcd68339fda807586094faa", func := "escheat/escheatlaw29.HistStill", spec := "histStill", unfollowed := true, recurses := true, plainKeys := false, apart := false }
def HistStillSaid : Prop := histStillRow.holds Try.pinned (OpenSpec.ofChange histStillSpec)

/-- ITS FALSE NEIGHBOUR: 'it returns false'. Refute it at one input. -/
def histStillWrong : ChangeSpec := { name := "histStill", fn := fun _ => fun
  | [d1, d2] => { results := [.lit (.bool false)], args := [d1, d2] }
  | _ => none }
def HistStillWrongFalsely : Prop := histStillRow.holds Try.pinned (OpenSpec.ofChange histStillWrong)

/- THE SECOND FORM. 'bulk': how many values and letters a reading holds, each counted each time it is reached (what is shared counts as often as it is met; a slice's spare places count too). A statement '..UptoSaid' is the law's where the arguments, and the package variables that the reading takes, are together of bulk at most 1048576: NARROWER than '..Said'. Prove '..Said' where nothing that the law and all that it calls make is longer than what came in: it says more and counts as full. Else prove '..UptoSaid'. A law counts once. -/
mutual
def uptoBulk {H : Type} : DataW H → Nat
  | .lit (.string bytes) => bytes.length + 1
  | .lit _ => 1
  | .nil => 1
  | .ptr d => uptoBulk d + 1
  | .slice elems spare => uptoBulkAll elems + uptoBulkAll spare + 1
  | .agg parts => uptoBulkAll parts + 1
  | .iface _ d => uptoBulk d + 1
  | .map entries => uptoBulkEntries entries + 1
  | .held _ => 1
def uptoBulkAll {H : Type} : List (DataW H) → Nat
  | [] => 0
  | d :: r => uptoBulk d + uptoBulkAll r
def uptoBulkEntries {H : Type} : List (Lit × DataW H) → Nat
  | [] => 0
  | x :: r => uptoBulkEntry x + uptoBulkEntries r
def uptoBulkEntry {H : Type} : Lit × DataW H → Nat
  | (.string bytes, d) => bytes.length + uptoBulk d + 1
  | (_, d) => uptoBulk d + 1
 end
def uptoSmall : (H : Type) → List (DataW H) → Bool := fun _ ds => decide (uptoBulkAll ds ≤ 1048576)
def OpenSpec.upto (s : _root_.Go.ChangeSpec) : _root_.Go.OpenSpec := { _root_.Go.OpenSpec.ofChange s with cond := some uptoSmall }

/-- 'escheatlaw29.HistUps', WHERE WHAT IT READS IS OF BULK AT MOST 1048576: true; the input reads as it did. -/
def histUpsUptoRow : OpenClaim := { program := "ytghllhghboaagaa", sum := "1f105e6ae0b5c4731daa802310541cd035272b409bcd68339fda807586094faa", func := "escheat/escheatlaw29.HistUps", spec := "histUps", plainKeys := false, apart := false, narrowed := true }
def HistUpsUptoSaid : Prop := histUpsUptoRow.holds Try.pinned (OpenSpec.upto histUpsSpec)

/-- 'escheatlaw28.ModelSteps', WHERE WHAT IT READS IS OF BULK AT MOST 1048576: true; the input reads as it did. -/
def modelStepsUptoRow : OpenClaim := { program := "ytghllhghboaagaa", sum := "1f105e6ae0b5c4731daa802310541cd035272b409bcd68339fda807586094faa", func := "escheat/escheatlaw28.ModelSteps", spec := "modelSteps", unfollowed := true, recurses := true, plainKeys := false, apart := false, narrowed := true }
def ModelStepsUptoSaid : Prop := modelStepsUptoRow.holds Try.pinned (OpenSpec.upto modelStepsSpec)

/-- 'escheatlaw28.ModelRight', WHERE WHAT IT READS IS OF BULK AT MOST 1048576: true; the input reads as it did. -/
def modelRightUptoRow : OpenClaim := { program := "ytghllhghboaagaa", sum := "1f105e6ae0b5c4731daa802310541cd035272b409bcd68339fda807586094faa", func := "escheat/escheatlaw28.ModelRight", spec := "modelRight", unfollowed := true, recurses := true, plainKeys := false, apart := false, narrowed := true }
def ModelRightUptoSaid : Prop := modelRightUptoRow.holds Try.pinned (OpenSpec.upto modelRightSpec)

/-- 'escheatlaw28.ModelReads', WHERE WHAT IT READS IS OF BULK AT MOST 1048576: true; the input reads as it did. -/
def modelReadsUptoRow : OpenClaim := { program := "ytghllhghboaagaa", sum := "1f105e6ae0b5c4731daa802310541cd035272b409bcd68339fda807586094faa", func := "escheat/escheatlaw28.ModelReads", spec := "modelReads", unfollowed := true, recurses := true, plainKeys := false, apart := false, narrowed := true }
def ModelReadsUptoSaid : Prop := modelReadsUptoRow.holds Try.pinned (OpenSpec.upto modelReadsSpec)

/-- 'escheatlaw28.ModelPaths', WHERE WHAT IT READS IS OF BULK AT MOST 1048576: true; the input reads as it did. -/
def modelPathsUptoRow : OpenClaim := { program := "ytghllhghboaagaa", sum := "1f105e6ae0b5c4731daa802310541cd035272b409bcd68339fda807586094faa", func := "escheat/escheatlaw28.ModelPaths", spec := "modelPaths", unfollowed := true, recurses := true, plainKeys := false, apart := false, narrowed := true }
def ModelPathsUptoSaid : Prop := modelPathsUptoRow.holds Try.pinned (OpenSpec.upto modelPathsSpec)

/-- 'escheatlaw28.ModelKeeps', WHERE WHAT IT READS IS OF BULK AT MOST 1048576: true; the input reads as it did. -/
def modelKeepsUptoRow : OpenClaim := { program := "ytghllhghboaagaa", sum := "1f105e6ae0b5c4731daa802310541cd035272b409bcd68339fda807586094faa", func := "escheat/escheatlaw28.ModelKeeps", spec := "modelKeeps", unfollowed := true, recurses := true, plainKeys := false, apart := false, narrowed := true }
def ModelKeepsUptoSaid : Prop := modelKeepsUptoRow.holds Try.pinned (OpenSpec.upto modelKeepsSpec)

/-- 'escheatlaw29.HistStill', WHERE WHAT IT READS IS OF BULK AT MOST 1048576: true; the input reads as it did. -/
def histStillUptoRow : OpenClaim := { program := "ytghllhghboaagaa", sum := "1f105e6ae0b5c4731daa802310541cd035272b409bcd68339fda807586094faa", func := "escheat/escheatlaw29.HistStill", spec := "histStill", unfollowed := true, recurses := true, plainKeys := false, apart := false, narrowed := true }
def HistStillUptoSaid : Prop := histStillUptoRow.holds Try.pinned (OpenSpec.upto histStillSpec)

end Rows
end Go.Proofs.Ytghllhghboaagaa
