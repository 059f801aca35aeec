/-
  No cell of these rows narrows 'for every input' (looked for: loops, veiled, ifaces, maps, wideKeys, modest, calm, conditions, laid).
  DERIVED. THE GIVEN ROWS OF THIS SEAT. 4 by the template 'for every input the law returns true; each argument reads behind the call as it read before'; 0 by the template 'total and deterministic' (their statements: YtobgdmgldagjkaaTotals.lean).
  GIVEN WITH THE SEED: the statements are not yours to turn. If you find one false, say at which input.
  Laid BY PROGRAM, IN A SANDBOX (cutbox-rows.mjs): the forced cells as the released guide's own fill.sh prints them over the translation 596a801f471fa73e… (all of the seat's roots in one cut). By AI agents, Wed Nov 11 2026. No macro, syntax, notation, axiom, sorry.
-/
import Derived.Test.YtobgdmgldagjkaaChecked
import GoSem.Claim
import GoSem.ClaimJoined
import GoSem.ClaimMapViews
import Derived.JoinedTies
import Derived.KernelRfl
namespace Go.Proofs.Ytobgdmgldagjkaa
/- THE CELL 'sum', in the pinned program and in every row, IS THE sha256 OF THE DUMP (.gsa) THAT YtobgdmgldagjkaaProg.lean LOADS. Nothing in Lean hashes anything: it is a label: what it is worth is what the hold of that sum in a sandbox is worth. -/
noncomputable def Try.pinned : Pinned := { name := "ytobgdmgldagjkaa", sum := "596a801f471fa73ea828e39527d9a1aef951a4062e038e4f8b615750543f6186", checked := Try.checked }
namespace Rows
def none {H : Type} : Left H := { results := [], args := [] }

/-- 'escheatlaw30.StoreFormats': WHATEVER THE INPUT: true; the input reads as it did. -/
def storeFormatsSpec : ChangeSpec := { name := "storeFormats", fn := fun _ => fun
  | [d1, d2, d3] => { results := [.lit (.bool true)], args := [d1, d2, d3] }
  | _ => none }
def storeFormatsRow : OpenClaim := { program := "ytobgdmgldagjkaa", sum := "596a801f471fa73ea828e39527d9a1aef951a4062e038e4f8b615750543f6186", func := "escheat/escheatlaw30.StoreFormats", spec := "storeFormats", unfollowed := true, recurses := true, apart := false }
def StoreFormatsSaid : Prop := storeFormatsRow.holds Try.pinned (OpenSpec.ofChange storeFormatsSpec)

/-- ITS FALSE NEIGHBOUR: 'it returns false'. Refute it at one input. -/
def storeFormatsWrong : ChangeSpec := { name := "storeFormats", fn := fun _ => fun
  | [d1, d2, d3] => { results := [.lit (.bool false)], args := [d1, d2, d3] }
  | _ => none }
def StoreFormatsWrongFalsely : Prop := storeFormatsRow.holds Try.pinned (OpenSpec.ofChange storeFormatsWrong)

/-- 'escheatlaw30.StoreNils': WHATEVER THE INPUT: true; the input reads as it did. -/
def storeNilsSpec : ChangeSpec := { name := "storeNils", fn := fun _ => fun
  | [d1, d2, d3] => { results := [.lit (.bool true)], args := [d1, d2, d3] }
  | _ => none }
def storeNilsRow : OpenClaim := { program := "ytobgdmgldagjkaa", sum := "596a801f471fa73ea828e39527d9a1aef951a4062e038e4f8b615750543f6186", func := "escheat/escheatlaw30.StoreNils", spec := "storeNils", unfollowed := true, recurses := true, apart := false }
def StoreNilsSaid : Prop := storeNilsRow.holds Try.pinned (OpenSpec.ofChange storeNilsSpec)

/-- ITS FALSE NEIGHBOUR: 'it returns false'. Refute it at one input. -/
def storeNilsWrong : ChangeSpec := { name := "storeNils", fn := fun _ => fun
  | [d1, d2, d3] => { results := [.lit (.bool false)], args := [d1, d2, d3] }
  | _ => none }
def StoreNilsWrongFalsely : Prop := storeNilsRow.holds Try.pinned (OpenSpec.ofChange storeNilsWrong)

/-- 'escheatlaw31.AllocNils': WHATEVER THE INPUT: true; the input reads as it did. -/
def allocNilsSpec : ChangeSpec := { name := "allocNils", fn := fun _ => fun
  | [d1, d2, d3] => { results := [.lit (.bool true)], args := [d1, d2, d3] }
  | _ => none }
def allocNilsRow : OpenClaim := { program := "ytobgdmgldagjkaa", sum := "596a801f471fa73ea828e39527d9a1aef951a4062e038e4f8b615750543f6186", func := "escheat/escheatlaw31.AllocNils", spec := "allocNils", unfollowed := true, recurses := true, apart := false }
def AllocNilsSaid : Prop := allocNilsRow.holds Try.pinned (OpenSpec.ofChange allocNilsSpec)

/-- ITS FALSE NEIGHBOUR: 'it returns false'. Refute it at one input. -/
def allocNilsWrong : ChangeSpec := { name := "allocNils", fn := fun _ => fun
  | [d1, d2, d3] => { results := [.lit (.bool false)], args := [d1, d2, d3] }
  | _ => none }
def AllocNilsWrongFalsely : Prop := allocNilsRow.holds Try.pinned (OpenSpec.ofChange allocNilsWrong)

/-- 'escheatlaw30.StoreSees': WHATEVER THE INPUT: true; the input reads as it did. -/
def storeSeesSpec : ChangeSpec := { name := "storeSees", fn := fun _ => fun
  | [d1, d2] => { results := [.lit (.bool true)], args := [d1, d2] }
  | _ => none }
def storeSeesRow : OpenClaim := { program := "ytobgdmgldagjkaa", sum := "596a801f471fa73ea828e39527d9a1aef951a4062e038e4f8b615750543f6186", func := "escheat/escheatlaw30.StoreSees", spec := "storeSees", unfollowed := true, recurses := true, apart := false }
def StoreSeesSaid : Prop := storeSeesRow.holds Try.pinned (OpenSpec.ofChange storeSeesSpec)

/-- ITS FALSE NEIGHBOUR: 'it returns false'. Refute it at one input. -/
def storeSeesWrong : ChangeSpec := { name := "storeSees", fn := fun _ => fun
  | [d1, d2] => { results := [.lit (.bool false)], args := [d1, d2] }
  | _ => none }
def StoreSeesWrongFalsely : Prop := storeSeesRow.holds Try.pinned (OpenSpec.ofChange storeSeesWrong)

/- THE SECOND FORM. 'bulk': how many values and letters a reading holds, each counted each time it is reached (what is shared counts as often as it is met; a slice's spare places count too). A statement '..UptoSaid' is the law's where the arguments, and the package variables that the reading takes, are together of bulk at most 1048576: NARROWER than '..Said'. Prove '..Said' where nothing that the law and all that it calls make is longer than what came in: it says more and counts as full. Else prove '..UptoSaid'. A law counts once. -/
mutual
def uptoBulk {H : Type} : DataW H → Nat
  | .lit (.string bytes) => bytes.length + 1
  | .lit _ => 1
  | .nil => 1
  | .ptr d => uptoBulk d + 1
  | .slice elems spare => uptoBulkAll elems + uptoBulkAll spare + 1
  | .agg parts => uptoBulkAll parts + 1
  | .iface _ d => uptoBulk d + 1
  | .map entries => uptoBulkEntries entries + 1
  | .held _ => 1
def uptoBulkAll {H : Type} : List (DataW H) → Nat
  | [] => 0
  | d :: r => uptoBulk d + uptoBulkAll r
def uptoBulkEntries {H : Type} : List (Lit × DataW H) → Nat
  | [] => 0
  | x :: r => uptoBulkEntry x + uptoBulkEntries r
def uptoBulkEntry {H : Type} : Lit × DataW H → Nat
  | (.string bytes, d) => bytes.length + uptoBulk d + 1
  | (_, d) => uptoBulk d + 1
 end
def uptoSmall : (H : Type) → List (DataW H) → Bool := fun _ ds => decide (uptoBulkAll ds ≤ 1048576)
def OpenSpec.upto (s : _root_.Go.ChangeSpec) : _root_.Go.OpenSpec := { _root_.Go.OpenSpec.ofChange s with cond := some uptoSmall }

/-- 'escheatlaw30.StoreFormats', WHERE WHAT IT READS IS OF BULK AT MOST 1048576: true; the input reads as it did. -/
def storeFormatsUptoRow : OpenClaim := { program := "ytobgdmgldagjkaa", sum := "596a801f471fa73ea828e39527d9a1aef951a4062e038e4f8b615750543f6186", func := "escheat/escheatlaw30.StoreFormats", spec := "storeFormats", unfollowed := true, recurses := true, apart := false, narrowed := true }
def StoreFormatsUptoSaid : Prop := storeFormatsUptoRow.holds Try.pinned (OpenSpec.upto storeFormatsSpec)

/-- 'escheatlaw30.StoreNils', WHERE WHAT IT READS IS OF BULK AT MOST 1048576: true; the input reads as it did. -/
def storeNilsUptoRow : OpenClaim := { program := "ytobgdmgldagjkaa", sum := "596a801f471fa73ea828e39527d9a1aef951a4062e038e4f8b615750543f6186", func := "escheat/escheatlaw30.StoreNils", spec := "storeNils", unfollowed := true, recurses := true, apart := false, narrowed := true }
def StoreNilsUptoSaid : Prop := storeNilsUptoRow.holds Try.pinned (OpenSpec.upto storeNilsSpec)

/-- 'escheatlaw31.AllocNils', WHERE WHAT IT READS IS OF BULK AT MOST 1048576: true; the input reads as it did. -/
def allocNilsUptoRow : OpenClaim := { program := "ytobgdmgldagjkaa", sum := "596a801f471fa73ea828e39527d9a1aef951a4062e038e4f8b615750543f6186", func := "escheat/escheatlaw31.AllocNils", spec := "allocNils", unfollowed := true, recurses := true, apart := false, narrowed := true }
def AllocNilsUptoSaid : Prop := allocNilsUptoRow.holds Try.pinned (OpenSpec.upto allocNilsSpec)

/-- 'escheatlaw30.StoreSees', WHERE WHAT IT READS IS OF BULK AT MOST 1048576: true; the input reads as it did. -/
def storeSeesUptoRow : OpenClaim := { program := "ytobgdmgldagjkaa", sum := "596a801f471fa73ea828e39527d9a1aef951a4062e038e4f8b615750543f6186", func := "escheat/escheatlaw30.StoreSees", spec := "storeSees", unfollowed := true, recurses := true, apart := false, narrowed := true }
def StoreSeesUptoSaid : Prop := storeSeesUptoRow.holds Try.pinned (OpenSpec.upto storeSeesSpec)

end Rows
end Go.Proofs.Ytobgdmgldagjkaa
