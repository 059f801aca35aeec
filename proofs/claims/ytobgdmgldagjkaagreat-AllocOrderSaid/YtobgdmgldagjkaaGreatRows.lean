/-
  No cell of these rows narrows 'for every input' (looked for: loops, veiled, ifaces, maps, wideKeys, modest, calm, conditions, laid).
  DERIVED. THE GIVEN ROWS OF THIS SEAT. 7 by the template 'for every input the law returns true; each argument reads behind the call as it read before'; 0 by the template 'total and deterministic' (their statements: YtobgdmgldagjkaaGreatTotals.lean).
  GIVEN WITH THE SEED: the statements are not yours to turn. If you find one false, say at which input.
  Laid BY PROGRAM, IN A SANDBOX (cutbox-rows.mjs): the forced cells as the released guide's own fill.sh prints them over the translation 688bb3b062791a2c… (all of the seat's roots in one cut). By AI agents, Wed Nov 11 2026. No macro, syntax, notation, axiom, sorry.
-/
import Derived.Test.YtobgdmgldagjkaaGreatChecked
import GoSem.Claim
import GoSem.ClaimJoined
import GoSem.ClaimMapViews
import Derived.JoinedTies
import Derived.KernelRfl
namespace Go.Proofs.YtobgdmgldagjkaaGreat
/- THE CELL 'sum', in the pinned program and in every row, IS THE sha256 OF THE DUMP (.gsa) THAT YtobgdmgldagjkaaGreatProg.lean LOADS. Nothing in Lean hashes anything: it is a label: what it is worth is what the hold of that sum in a sandbox is worth. -/
noncomputable def Tryz.pinned : Pinned := { name := "ytobgdmgldagjkaagreat", sum := "688bb3b062791a2ca29248eb8786ef5f56ccd9d936cc90ba4af8f5676140354e", checked := Tryz.checked }
namespace Rows
def none {H : Type} : Left H := { results := [], args := [] }

/-- 'escheatlaw32.LinksNil': WHATEVER THE INPUT: true; the input reads as it did. -/
def linksNilSpec : ChangeSpec := { name := "linksNil", fn := fun _ => fun
  | [d1, d2, d3] => { results := [.lit (.bool true)], args := [d1, d2, d3] }
  | _ => none }
def linksNilRow : OpenClaim := { program := "ytobgdmgldagjkaagreat", sum := "688bb3b062791a2ca29248eb8786ef5f56ccd9d936cc90ba4af8f5676140354e", func := "escheat/escheatlaw32.LinksNil", spec := "linksNil", unfollowed := true, recurses := true, apart := false }
def LinksNilSaid : Prop := linksNilRow.holds Tryz.pinned (OpenSpec.ofChange linksNilSpec)

/-- ITS FALSE NEIGHBOUR: 'it returns false'. Refute it at one input. -/
def linksNilWrong : ChangeSpec := { name := "linksNil", fn := fun _ => fun
  | [d1, d2, d3] => { results := [.lit (.bool false)], args := [d1, d2, d3] }
  | _ => none }
def LinksNilWrongFalsely : Prop := linksNilRow.holds Tryz.pinned (OpenSpec.ofChange linksNilWrong)

/-- 'escheatlaw31.AllocOnce': WHATEVER THE INPUT: true; the input reads as it did. -/
def allocOnceSpec : ChangeSpec := { name := "allocOnce", fn := fun _ => fun
  | [d1, d2] => { results := [.lit (.bool true)], args := [d1, d2] }
  | _ => none }
def allocOnceRow : OpenClaim := { program := "ytobgdmgldagjkaagreat", sum := "688bb3b062791a2ca29248eb8786ef5f56ccd9d936cc90ba4af8f5676140354e", func := "escheat/escheatlaw31.AllocOnce", spec := "allocOnce", unfollowed := true, recurses := true, apart := false }
def AllocOnceSaid : Prop := allocOnceRow.holds Tryz.pinned (OpenSpec.ofChange allocOnceSpec)

/-- ITS FALSE NEIGHBOUR: 'it returns false'. Refute it at one input. -/
def allocOnceWrong : ChangeSpec := { name := "allocOnce", fn := fun _ => fun
  | [d1, d2] => { results := [.lit (.bool false)], args := [d1, d2] }
  | _ => none }
def AllocOnceWrongFalsely : Prop := allocOnceRow.holds Tryz.pinned (OpenSpec.ofChange allocOnceWrong)

/-- 'escheatlaw32.LinksGo': WHATEVER THE INPUT: true; the input reads as it did. -/
def linksGoSpec : ChangeSpec := { name := "linksGo", fn := fun _ => fun
  | [d1, d2] => { results := [.lit (.bool true)], args := [d1, d2] }
  | _ => none }
def linksGoRow : OpenClaim := { program := "ytobgdmgldagjkaagreat", sum := "688bb3b062791a2ca29248eb8786ef5f56ccd9d936cc90ba4af8f5676140354e", func := "escheat/escheatlaw32.LinksGo", spec := "linksGo", unfollowed := true, recurses := true, apart := false }
def LinksGoSaid : Prop := linksGoRow.holds Tryz.pinned (OpenSpec.ofChange linksGoSpec)

/-- ITS FALSE NEIGHBOUR: 'it returns false'. Refute it at one input. -/
def linksGoWrong : ChangeSpec := { name := "linksGo", fn := fun _ => fun
  | [d1, d2] => { results := [.lit (.bool false)], args := [d1, d2] }
  | _ => none }
def LinksGoWrongFalsely : Prop := linksGoRow.holds Tryz.pinned (OpenSpec.ofChange linksGoWrong)

/-- 'escheatlaw31.AllocTakes': WHATEVER THE INPUT: true; the input reads as it did. -/
def allocTakesSpec : ChangeSpec := { name := "allocTakes", fn := fun _ => fun
  | [d1, d2, d3] => { results := [.lit (.bool true)], args := [d1, d2, d3] }
  | _ => none }
def allocTakesRow : OpenClaim := { program := "ytobgdmgldagjkaagreat", sum := "688bb3b062791a2ca29248eb8786ef5f56ccd9d936cc90ba4af8f5676140354e", func := "escheat/escheatlaw31.AllocTakes", spec := "allocTakes", unfollowed := true, recurses := true, apart := false }
def AllocTakesSaid : Prop := allocTakesRow.holds Tryz.pinned (OpenSpec.ofChange allocTakesSpec)

/-- ITS FALSE NEIGHBOUR: 'it returns false'. Refute it at one input. -/
def allocTakesWrong : ChangeSpec := { name := "allocTakes", fn := fun _ => fun
  | [d1, d2, d3] => { results := [.lit (.bool false)], args := [d1, d2, d3] }
  | _ => none }
def AllocTakesWrongFalsely : Prop := allocTakesRow.holds Tryz.pinned (OpenSpec.ofChange allocTakesWrong)

/-- 'escheatlaw31.AllocGives': WHATEVER THE INPUT: true; the input reads as it did. -/
def allocGivesSpec : ChangeSpec := { name := "allocGives", fn := fun _ => fun
  | [d1, d2, d3] => { results := [.lit (.bool true)], args := [d1, d2, d3] }
  | _ => none }
def allocGivesRow : OpenClaim := { program := "ytobgdmgldagjkaagreat", sum := "688bb3b062791a2ca29248eb8786ef5f56ccd9d936cc90ba4af8f5676140354e", func := "escheat/escheatlaw31.AllocGives", spec := "allocGives", unfollowed := true, recurses := true, apart := false }
def AllocGivesSaid : Prop := allocGivesRow.holds Tryz.pinned (OpenSpec.ofChange allocGivesSpec)

/-- ITS FALSE NEIGHBOUR: 'it returns false'. Refute it at one input. -/
def allocGivesWrong : ChangeSpec := { name := "allocGives", fn := fun _ => fun
  | [d1, d2, d3] => { results := [.lit (.bool false)], args := [d1, d2, d3] }
  | _ => none }
def AllocGivesWrongFalsely : Prop := allocGivesRow.holds Tryz.pinned (OpenSpec.ofChange allocGivesWrong)

/-- 'escheatlaw31.AllocOrder': WHATEVER THE INPUT: true; the input reads as it did. -/
def allocOrderSpec : ChangeSpec := { name := "allocOrder", fn := fun _ => fun
  | [d1, d2] => { results := [.lit (.bool true)], args := [d1, d2] }
  | _ => none }
def allocOrderRow : OpenClaim := { program := "ytobgdmgldagjkaagreat", sum := "688bb3b062791a2ca29248eb8786ef5f56ccd9d936cc90ba4af8f5676140354e", func := "escheat/escheatlaw31.AllocOrder", spec := "allocOrder", unfollowed := true, recurses := true, apart := false }
def AllocOrderSaid : Prop := allocOrderRow.holds Tryz.pinned (OpenSpec.ofChange allocOrderSpec)

/-- ITS FALSE NEIGHBOUR: 'it returns false'. Refute it at one input. -/
def allocOrderWrong : ChangeSpec := { name := "allocOrder", fn := fun _ => fun
  | [d1, d2] => { results := [.lit (.bool false)], args := [d1, d2] }
  | _ => none }
def AllocOrderWrongFalsely : Prop := allocOrderRow.holds Tryz.pinned (OpenSpec.ofChange allocOrderWrong)

/-- 'escheatlaw32.LinksOrder': WHATEVER THE INPUT: true; the input reads as it did. -/
def linksOrderSpec : ChangeSpec := { name := "linksOrder", fn := fun _ => fun
  | [d1, d2, d3] => { results := [.lit (.bool true)], args := [d1, d2, d3] }
  | _ => none }
def linksOrderRow : OpenClaim := { program := "ytobgdmgldagjkaagreat", sum := "688bb3b062791a2ca29248eb8786ef5f56ccd9d936cc90ba4af8f5676140354e", func := "escheat/escheatlaw32.LinksOrder", spec := "linksOrder", unfollowed := true, recurses := true, apart := false }
def LinksOrderSaid : Prop := linksOrderRow.holds Tryz.pinned (OpenSpec.ofChange linksOrderSpec)

/-- ITS FALSE NEIGHBOUR: 'it returns false'. Refute it at one input. -/
def linksOrderWrong : ChangeSpec := { name := "linksOrder", fn := fun _ => fun
  | [d1, d2, d3] => { results := [.lit (.bool false)], args := [d1, d2, d3] }
  | _ => none }
def LinksOrderWrongFalsely : Prop := linksOrderRow.holds Tryz.pinned (OpenSpec.ofChange linksOrderWrong)

/- THE SECOND FORM. 'bulk': how many values and letters a reading holds, each counted each time it is reached (what is shared counts as often as it is met; a slice's spare places count too). A statement '..UptoSaid' is the law's where the arguments, and the package variables that the reading takes, are together of bulk at most 1048576: NARROWER than '..Said'. Prove '..Said' where nothing that the law and all that it calls make is longer than what came in: it says more and counts as full. Else prove '..UptoSaid'. A law counts once. -/
mutual
def uptoBulk {H : Type} : DataW H → Nat
  | .lit (.string bytes) => bytes.length + 1
  | .lit _ => 1
  | .nil => 1
  | .ptr d => uptoBulk d + 1
  | .slice elems spare => uptoBulkAll elems + uptoBulkAll spare + 1
  | .agg parts => uptoBulkAll parts + 1
  | .iface _ d => uptoBulk d + 1
  | .map entries => uptoBulkEntries entries + 1
  | .held _ => 1
def uptoBulkAll {H : Type} : List (DataW H) → Nat
  | [] => 0
  | d :: r => uptoBulk d + uptoBulkAll r
def uptoBulkEntries {H : Type} : List (Lit × DataW H) → Nat
  | [] => 0
  | x :: r => uptoBulkEntry x + uptoBulkEntries r
def uptoBulkEntry {H : Type} : Lit × DataW H → Nat
  | (.string bytes, d) => bytes.length + uptoBulk d + 1
  | (_, d) => uptoBulk d + 1
 end
def uptoSmall : (H : Type) → List (DataW H) → Bool := fun _ ds => decide (uptoBulkAll ds ≤ 1048576)
def OpenSpec.upto (s : _root_.Go.ChangeSpec) : _root_.Go.OpenSpec := { _root_.Go.OpenSpec.ofChange s with cond := some uptoSmall }

/-- 'escheatlaw32.LinksNil', WHERE WHAT IT READS IS OF BULK AT MOST 1048576: true; the input reads as it did. -/
def linksNilUptoRow : OpenClaim := { program := "ytobgdmgldagjkaagreat", sum := "688bb3b062791a2ca29248eb8786ef5f56ccd9d936cc90ba4af8f5676140354e", func := "escheat/escheatlaw32.LinksNil", spec := "linksNil", unfollowed := true, recurses := true, apart := false, narrowed := true }
def LinksNilUptoSaid : Prop := linksNilUptoRow.holds Tryz.pinned (OpenSpec.upto linksNilSpec)

/-- 'escheatlaw31.AllocOnce', WHERE WHAT IT READS IS OF BULK AT MOST 1048576: true; the input reads as it did. -/
def allocOnceUptoRow : OpenClaim := { program := "ytobgdmgldagjkaagreat", sum := "688bb3b062791a2ca29248eb8786ef5f56ccd9d936cc90ba4af8f5676140354e", func := "escheat/escheatlaw31.AllocOnce", spec := "allocOnce", unfollowed := true, recurses := true, apart := false, narrowed := true }
def AllocOnceUptoSaid : Prop := allocOnceUptoRow.holds Tryz.pinned (OpenSpec.upto allocOnceSpec)

/-- 'escheatlaw32.LinksGo', WHERE WHAT IT READS IS OF BULK AT MOST 1048576: true; the input reads as it did. -/
def linksGoUptoRow : OpenClaim := { program := "ytobgdmgldagjkaagreat", sum := "688bb3b062791a2ca29248eb8786ef5f56ccd9d936cc90ba4af8f5676140354e", func := "escheat/escheatlaw32.LinksGo", spec := "linksGo", unfollowed := true, recurses := true, apart := false, narrowed := true }
def LinksGoUptoSaid : Prop := linksGoUptoRow.holds Tryz.pinned (OpenSpec.upto linksGoSpec)

/-- 'escheatlaw31.AllocTakes', WHERE WHAT IT READS IS OF BULK AT MOST 1048576: true; the input reads as it did. -/
def allocTakesUptoRow : OpenClaim := { program := "ytobgdmgldagjkaagreat", sum := "688bb3b062791a2ca29248eb8786ef5f56ccd9d936cc90ba4af8f5676140354e", func := "escheat/escheatlaw31.AllocTakes", spec := "allocTakes", unfollowed := true, recurses := true, apart := false, narrowed := true }
def AllocTakesUptoSaid : Prop := allocTakesUptoRow.holds Tryz.pinned (OpenSpec.upto allocTakesSpec)

/-- 'escheatlaw31.AllocGives', WHERE WHAT IT READS IS OF BULK AT MOST 1048576: true; the input reads as it did. -/
def allocGivesUptoRow : OpenClaim := { program := "ytobgdmgldagjkaagreat", sum := "688bb3b062791a2ca29248eb8786ef5f56ccd9d936cc90ba4af8f5676140354e", func := "escheat/escheatlaw31.AllocGives", spec := "allocGives", unfollowed := true, recurses := true, apart := false, narrowed := true }
def AllocGivesUptoSaid : Prop := allocGivesUptoRow.holds Tryz.pinned (OpenSpec.upto allocGivesSpec)

/-- 'escheatlaw31.AllocOrder', WHERE WHAT IT READS IS OF BULK AT MOST 1048576: true; the input reads as it did. -/
def allocOrderUptoRow : OpenClaim := { program := "ytobgdmgldagjkaagreat", sum := "688bb3b062791a2ca29248eb8786ef5f56ccd9d936cc90ba4af8f5676140354e", func := "escheat/escheatlaw31.AllocOrder", spec := "allocOrder", unfollowed := true, recurses := true, apart := false, narrowed := true }
def AllocOrderUptoSaid : Prop := allocOrderUptoRow.holds Tryz.pinned (OpenSpec.upto allocOrderSpec)

/-- 'escheatlaw32.LinksOrder', WHERE WHAT IT READS IS OF BULK AT MOST 1048576: true; the input reads as it did. -/
def linksOrderUptoRow : OpenClaim := { program := "ytobgdmgldagjkaagreat", sum := "688bb3b062791a2ca29248eb8786ef5f56ccd9d936cc90ba4af8f5676140354e", func := "escheat/escheatlaw32.LinksOrder", spec := "linksOrder", unfollowed := true, recurses := true, apart := false, narrowed := true }
def LinksOrderUptoSaid : Prop := linksOrderUptoRow.holds Tryz.pinned (OpenSpec.upto linksOrderSpec)

end Rows
end Go.Proofs.YtobgdmgldagjkaaGreat
