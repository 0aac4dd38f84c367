/-
  DERIVED. GIVEN WITH THE SEED: THE CARDS: each row of YtjljigccgaadaaaDoorRows.lean that lists a variable, with what it lists TIED to the program's text (the seventh form; the later family's looks); each row that meets fmt, with fmt's text TOLD by the authors' own Lean function (tested against real Go, not proved from fmt's source: count such statements apart). THE CARD IS WHAT COUNTS. Prove the row's statement (the work); the ties are given (YtjljigccgaadaaaDoorTie.lean); close each card by the builder's one call (the guide's Derived/Test/ToyasCard.lean, 'card_holds'). Laid BY PROGRAM, IN A SANDBOX (cutbox-door.mjs). By AI agents, Wed Nov 11 2026. No macro, syntax, notation, axiom, sorry.
-/
import Derived.Test.YtjljigccgaadaaaDoorRows
import GoSem.ClaimSeven
namespace Go.Proofs.YtjljigccgaadaaaDoor
namespace Rows

/-- THE TIED CARD OF 'majordomolaw09.CoreKnown'. -/
def coreKnownCard : Claim7 := { stood := { row := coreKnownRow, standIns := [], harness := (true, "6dab60f233bd8439ff8fe409b450334163ae6ccffc9bf526fefcab8b25b60dcb"), looks := false }, kinds := [], alts := [], laidByText := true, laidKinds := [.data], laidTests := true, laidLooks := .later }
def CoreKnownCardSaid : Prop := Claim7.holds Tryd.pinned (.plain (OpenSpec.ofChange coreKnownSpec)) coreKnownCard

/-- THE TIED CARD OF 'majordomolaw09.CoreDual'. -/
def coreDualCard : Claim7 := { stood := { row := coreDualRow, standIns := [], harness := (true, "6dab60f233bd8439ff8fe409b450334163ae6ccffc9bf526fefcab8b25b60dcb"), looks := false }, kinds := [], alts := [], laidByText := true, laidKinds := [.data], laidTests := true, laidLooks := .later }
def CoreDualCardSaid : Prop := Claim7.holds Tryd.pinned (.plain (OpenSpec.ofChange coreDualSpec)) coreDualCard

/-- THE TIED CARD OF 'majordomolaw09.CoreLists'. -/
def coreListsCard : Claim7 := { stood := { row := coreListsRow, standIns := [], harness := (true, "6dab60f233bd8439ff8fe409b450334163ae6ccffc9bf526fefcab8b25b60dcb"), looks := false }, kinds := [], alts := [], laidByText := true, laidKinds := [.data], laidTests := true, laidLooks := .later }
def CoreListsCardSaid : Prop := Claim7.holds Tryd.pinned (.plain (OpenSpec.ofChange coreListsSpec)) coreListsCard

/-- THE TIED CARD OF 'majordomolaw09.CoreIrreducible'. -/
def coreIrreducibleCard : Claim7 := { stood := { row := coreIrreducibleRow, standIns := [], harness := (true, "6dab60f233bd8439ff8fe409b450334163ae6ccffc9bf526fefcab8b25b60dcb"), looks := false }, kinds := [], alts := [], laidByText := true, laidKinds := [.data], laidTests := true, laidLooks := .later }
def CoreIrreducibleCardSaid : Prop := Claim7.holds Tryd.pinned (.plain (OpenSpec.ofChange coreIrreducibleSpec)) coreIrreducibleCard

/-- THE TIED CARD OF 'majordomolaw09.CoreSorted'. -/
def coreSortedCard : Claim7 := { stood := { row := coreSortedRow, standIns := [], harness := (true, "6dab60f233bd8439ff8fe409b450334163ae6ccffc9bf526fefcab8b25b60dcb"), looks := false }, kinds := [], alts := [], laidByText := true, laidKinds := [.data], laidTests := true, laidLooks := .later }
def CoreSortedCardSaid : Prop := Claim7.holds Tryd.pinned (.plain (OpenSpec.ofChange coreSortedSpec)) coreSortedCard

/-- THE TIED CARD OF 'majordomolaw09.CoreOrdinary'. -/
def coreOrdinaryCard : Claim7 := { stood := { row := coreOrdinaryRow, standIns := [], harness := (true, "6dab60f233bd8439ff8fe409b450334163ae6ccffc9bf526fefcab8b25b60dcb"), looks := false }, kinds := [], alts := [], laidByText := true, laidKinds := [.data], laidTests := true, laidLooks := .later }
def CoreOrdinaryCardSaid : Prop := Claim7.holds Tryd.pinned (.plain (OpenSpec.ofChange coreOrdinarySpec)) coreOrdinaryCard

/-- THE TIED CARD OF 'majordomolaw09.CoreTables'. -/
def coreTablesCard : Claim7 := { stood := { row := coreTablesRow, standIns := [], harness := (true, "6dab60f233bd8439ff8fe409b450334163ae6ccffc9bf526fefcab8b25b60dcb"), looks := false }, kinds := [], alts := [], laidByText := true, laidKinds := [.data], laidTests := true, laidLooks := .later }
def CoreTablesCardSaid : Prop := Claim7.holds Tryd.pinned (.plain (OpenSpec.ofChange coreTablesSpec)) coreTablesCard

/-- THE TIED CARD OF 'majordomolaw09.CoreHits'. -/
def coreHitsCard : Claim7 := { stood := { row := coreHitsRow, standIns := [], harness := (true, "6dab60f233bd8439ff8fe409b450334163ae6ccffc9bf526fefcab8b25b60dcb"), looks := false }, kinds := [], alts := [], laidByText := true, laidKinds := [.data], laidTests := true, laidLooks := .later }
def CoreHitsCardSaid : Prop := Claim7.holds Tryd.pinned (.plain (OpenSpec.ofChange coreHitsSpec)) coreHitsCard

/-- THE SECOND FORM's CARD OF 'majordomolaw09.CoreKnown'. -/
def coreKnownUptoCard : Claim7 := { stood := { row := coreKnownUptoRow, standIns := [], harness := (true, "6dab60f233bd8439ff8fe409b450334163ae6ccffc9bf526fefcab8b25b60dcb"), looks := false }, kinds := [], alts := [], laidByText := true, laidKinds := [.data], laidTests := true, laidLooks := .later }
def CoreKnownUptoCardSaid : Prop := Claim7.holds Tryd.pinned (.plain (OpenSpec.upto coreKnownSpec)) coreKnownUptoCard

/-- THE SECOND FORM's CARD OF 'majordomolaw09.CoreDual'. -/
def coreDualUptoCard : Claim7 := { stood := { row := coreDualUptoRow, standIns := [], harness := (true, "6dab60f233bd8439ff8fe409b450334163ae6ccffc9bf526fefcab8b25b60dcb"), looks := false }, kinds := [], alts := [], laidByText := true, laidKinds := [.data], laidTests := true, laidLooks := .later }
def CoreDualUptoCardSaid : Prop := Claim7.holds Tryd.pinned (.plain (OpenSpec.upto coreDualSpec)) coreDualUptoCard

/-- THE SECOND FORM's CARD OF 'majordomolaw09.CoreLists'. -/
def coreListsUptoCard : Claim7 := { stood := { row := coreListsUptoRow, standIns := [], harness := (true, "6dab60f233bd8439ff8fe409b450334163ae6ccffc9bf526fefcab8b25b60dcb"), looks := false }, kinds := [], alts := [], laidByText := true, laidKinds := [.data], laidTests := true, laidLooks := .later }
def CoreListsUptoCardSaid : Prop := Claim7.holds Tryd.pinned (.plain (OpenSpec.upto coreListsSpec)) coreListsUptoCard

/-- THE SECOND FORM's CARD OF 'majordomolaw09.CoreIrreducible'. -/
def coreIrreducibleUptoCard : Claim7 := { stood := { row := coreIrreducibleUptoRow, standIns := [], harness := (true, "6dab60f233bd8439ff8fe409b450334163ae6ccffc9bf526fefcab8b25b60dcb"), looks := false }, kinds := [], alts := [], laidByText := true, laidKinds := [.data], laidTests := true, laidLooks := .later }
def CoreIrreducibleUptoCardSaid : Prop := Claim7.holds Tryd.pinned (.plain (OpenSpec.upto coreIrreducibleSpec)) coreIrreducibleUptoCard

/-- THE SECOND FORM's CARD OF 'majordomolaw09.CoreSorted'. -/
def coreSortedUptoCard : Claim7 := { stood := { row := coreSortedUptoRow, standIns := [], harness := (true, "6dab60f233bd8439ff8fe409b450334163ae6ccffc9bf526fefcab8b25b60dcb"), looks := false }, kinds := [], alts := [], laidByText := true, laidKinds := [.data], laidTests := true, laidLooks := .later }
def CoreSortedUptoCardSaid : Prop := Claim7.holds Tryd.pinned (.plain (OpenSpec.upto coreSortedSpec)) coreSortedUptoCard

/-- THE SECOND FORM's CARD OF 'majordomolaw09.CoreOrdinary'. -/
def coreOrdinaryUptoCard : Claim7 := { stood := { row := coreOrdinaryUptoRow, standIns := [], harness := (true, "6dab60f233bd8439ff8fe409b450334163ae6ccffc9bf526fefcab8b25b60dcb"), looks := false }, kinds := [], alts := [], laidByText := true, laidKinds := [.data], laidTests := true, laidLooks := .later }
def CoreOrdinaryUptoCardSaid : Prop := Claim7.holds Tryd.pinned (.plain (OpenSpec.upto coreOrdinarySpec)) coreOrdinaryUptoCard

/-- THE SECOND FORM's CARD OF 'majordomolaw09.CoreTables'. -/
def coreTablesUptoCard : Claim7 := { stood := { row := coreTablesUptoRow, standIns := [], harness := (true, "6dab60f233bd8439ff8fe409b450334163ae6ccffc9bf526fefcab8b25b60dcb"), looks := false }, kinds := [], alts := [], laidByText := true, laidKinds := [.data], laidTests := true, laidLooks := .later }
def CoreTablesUptoCardSaid : Prop := Claim7.holds Tryd.pinned (.plain (OpenSpec.upto coreTablesSpec)) coreTablesUptoCard

/-- THE SECOND FORM's CARD OF 'majordomolaw09.CoreHits'. -/
def coreHitsUptoCard : Claim7 := { stood := { row := coreHitsUptoRow, standIns := [], harness := (true, "6dab60f233bd8439ff8fe409b450334163ae6ccffc9bf526fefcab8b25b60dcb"), looks := false }, kinds := [], alts := [], laidByText := true, laidKinds := [.data], laidTests := true, laidLooks := .later }
def CoreHitsUptoCardSaid : Prop := Claim7.holds Tryd.pinned (.plain (OpenSpec.upto coreHitsSpec)) coreHitsUptoCard
end Rows
end Go.Proofs.YtjljigccgaadaaaDoor
