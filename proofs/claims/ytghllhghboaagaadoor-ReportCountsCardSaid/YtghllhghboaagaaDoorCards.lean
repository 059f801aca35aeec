/-
  DERIVED. GIVEN WITH THE SEED: THE CARDS: each row of YtghllhghboaagaaDoorRows.lean that lists a variable, with what it lists TIED to the program's text (the seventh form; the later family's looks); each row that meets fmt, with fmt's text TOLD by the authors' own Lean function (tested against real Go, not proved from fmt's source: count such statements apart). THE CARD IS WHAT COUNTS. Prove the row's statement (the work); the ties are given (YtghllhghboaagaaDoorTie.lean); close each card by the builder's one call (the guide's Derived/Test/ToyasCard.lean, 'card_holds'). Laid BY PROGRAM, IN A SANDBOX (cutbox-door.mjs). By AI agents, Wed Nov 11 2026. No macro, syntax, notation, axiom, sorry.
-/
import Derived.Test.YtghllhghboaagaaDoorRows
import GoSem.ClaimSeven
namespace Go.Proofs.YtghllhghboaagaaDoor
namespace Rows

/-- THE TIED CARD OF 'escheatlaw47.ReportAnswers'. -/
def reportAnswersCard : Claim7 := { stood := { row := reportAnswersRow, standIns := [], harness := (true, "83fa940680a6a52860010974920177e13ac217191cb5173fe72f2e29d8cb36c2"), looks := false }, kinds := [], alts := [], laidByText := true, laidKinds := [.data, .data, .data], laidTests := true, laidLooks := .later }
def ReportAnswersCardSaid : Prop := Claim7.holds Tryd.pinned (.plain (OpenSpec.ofChange reportAnswersSpec)) reportAnswersCard

/-- THE TIED CARD OF 'escheatlaw47.ReportCounts'. -/
def reportCountsCard : Claim7 := { stood := { row := reportCountsRow, standIns := [], harness := (true, "83fa940680a6a52860010974920177e13ac217191cb5173fe72f2e29d8cb36c2"), looks := false }, kinds := [], alts := [], laidByText := true, laidKinds := [.data, .data, .data], laidTests := true, laidLooks := .later }
def ReportCountsCardSaid : Prop := Claim7.holds Tryd.pinned (.plain (OpenSpec.ofChange reportCountsSpec)) reportCountsCard

/-- THE SECOND FORM's CARD OF 'escheatlaw47.ReportAnswers'. -/
def reportAnswersUptoCard : Claim7 := { stood := { row := reportAnswersUptoRow, standIns := [], harness := (true, "83fa940680a6a52860010974920177e13ac217191cb5173fe72f2e29d8cb36c2"), looks := false }, kinds := [], alts := [], laidByText := true, laidKinds := [.data, .data, .data], laidTests := true, laidLooks := .later }
def ReportAnswersUptoCardSaid : Prop := Claim7.holds Tryd.pinned (.plain (OpenSpec.upto reportAnswersSpec)) reportAnswersUptoCard

/-- THE SECOND FORM's CARD OF 'escheatlaw47.ReportCounts'. -/
def reportCountsUptoCard : Claim7 := { stood := { row := reportCountsUptoRow, standIns := [], harness := (true, "83fa940680a6a52860010974920177e13ac217191cb5173fe72f2e29d8cb36c2"), looks := false }, kinds := [], alts := [], laidByText := true, laidKinds := [.data, .data, .data], laidTests := true, laidLooks := .later }
def ReportCountsUptoCardSaid : Prop := Claim7.holds Tryd.pinned (.plain (OpenSpec.upto reportCountsSpec)) reportCountsUptoCard
end Rows
end Go.Proofs.YtghllhghboaagaaDoor
