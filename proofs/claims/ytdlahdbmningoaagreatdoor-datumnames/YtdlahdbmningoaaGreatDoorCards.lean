/-
  DERIVED. GIVEN WITH THE SEED: THE CARDS: each row of YtdlahdbmningoaaGreatDoorRows.lean that lists a variable, with what it lists TIED to the program's text (the seventh form; the later family's looks); each row that meets fmt, with fmt's text TOLD by the authors' own Lean function (tested against real Go, not proved from fmt's source: count such statements apart). THE CARD IS WHAT COUNTS. Prove the row's statement (the work); the ties are given (YtdlahdbmningoaaGreatDoorTie.lean); close each card by the builder's one call (the guide's Derived/Test/ToyasCard.lean, 'card_holds'). Laid BY PROGRAM, IN A SANDBOX (cutbox-door.mjs). By AI agents, Wed Nov 11 2026. No macro, syntax, notation, axiom, sorry.
-/
import Derived.Test.YtdlahdbmningoaaGreatDoorRows
import GoSem.ClaimSeven
namespace Go.Proofs.YtdlahdbmningoaaGreatDoor
namespace Rows

/-- THE TIED CARD OF 'distafflaw05.DatumWords'. -/
def datumWordsCard : Claim7 := { stood := { row := datumWordsRow, standIns := [], harness := (true, "8f165d09ea5b948e1729bde0cab94be3446c1fdb9cee188bb5796b3c5bd97b70"), looks := true }, kinds := [], alts := [], laidByText := true, laidKinds := [.data, .data, .widerDeep, .widerDeep, .data, .data, .data, .data, .data, .data, .sentinel, .sentinel, .pinned, .pinned, .pinned], laidTests := true, laidLooks := .later }
def DatumWordsCardSaid : Prop := Claim7.holds Tryz.pinned (.plain (OpenSpec.ofChange datumWordsSpec)) datumWordsCard

/-- THE TIED CARD OF 'distafflaw05.DatumTells'. -/
def datumTellsCard : Claim7 := { stood := { row := datumTellsRow, standIns := [], harness := (true, "8f165d09ea5b948e1729bde0cab94be3446c1fdb9cee188bb5796b3c5bd97b70"), looks := true }, kinds := [], alts := [], laidByText := true, laidKinds := [.data, .data, .widerDeep, .widerDeep, .data, .data, .data, .data, .data, .data, .sentinel, .sentinel, .pinned, .pinned, .pinned], laidTests := true, laidLooks := .later }
def DatumTellsCardSaid : Prop := Claim7.holds Tryz.pinned (.plain (OpenSpec.ofChange datumTellsSpec)) datumTellsCard

/-- THE TIED CARD OF 'distafflaw05.DatumCopies'. -/
def datumCopiesCard : Claim7 := { stood := { row := datumCopiesRow, standIns := [], harness := (true, "8f165d09ea5b948e1729bde0cab94be3446c1fdb9cee188bb5796b3c5bd97b70"), looks := true }, kinds := [], alts := [], laidByText := true, laidKinds := [.data, .data, .widerDeep, .widerDeep, .data, .data, .data, .data, .data, .data, .sentinel, .sentinel, .pinned, .pinned, .pinned], laidTests := true, laidLooks := .later }
def DatumCopiesCardSaid : Prop := Claim7.holds Tryz.pinned (.plain (OpenSpec.ofChange datumCopiesSpec)) datumCopiesCard

/-- THE TIED CARD OF 'distafflaw05.DatumApart'. -/
def datumApartCard : Claim7 := { stood := { row := datumApartRow, standIns := [], harness := (true, "8f165d09ea5b948e1729bde0cab94be3446c1fdb9cee188bb5796b3c5bd97b70"), looks := true }, kinds := [], alts := [], laidByText := true, laidKinds := [.data, .data, .widerDeep, .widerDeep, .data, .data, .data, .data, .data, .data, .sentinel, .sentinel, .pinned, .pinned, .pinned], laidTests := true, laidLooks := .later }
def DatumApartCardSaid : Prop := Claim7.holds Tryz.pinned (.plain (OpenSpec.ofChange datumApartSpec)) datumApartCard

/-- THE TIED CARD OF 'distafflaw05.DatumNames'. -/
def datumNamesCard : Claim7 := { stood := { row := datumNamesRow, standIns := [], harness := (true, "8f165d09ea5b948e1729bde0cab94be3446c1fdb9cee188bb5796b3c5bd97b70"), looks := true }, kinds := [], alts := [], laidByText := true, laidKinds := [.data, .data, .widerDeep, .widerDeep, .data, .data, .data, .data, .data, .data, .sentinel, .sentinel, .pinned, .pinned, .pinned], laidTests := true, laidLooks := .later }
def DatumNamesCardSaid : Prop := Claim7.holds Tryz.pinned (.plain (OpenSpec.ofChange datumNamesSpec)) datumNamesCard

/-- THE TIED CARD OF 'distafflaw05.DatumMakes'. -/
def datumMakesCard : Claim7 := { stood := { row := datumMakesRow, standIns := [], harness := (true, "8f165d09ea5b948e1729bde0cab94be3446c1fdb9cee188bb5796b3c5bd97b70"), looks := true }, kinds := [], alts := [], laidByText := true, laidKinds := [.data, .data, .widerDeep, .widerDeep, .data, .data, .data, .data, .data, .data, .sentinel, .sentinel, .pinned, .pinned, .pinned], laidTests := true, laidLooks := .later }
def DatumMakesCardSaid : Prop := Claim7.holds Tryz.pinned (.plain (OpenSpec.ofChange datumMakesSpec)) datumMakesCard

/-- THE SECOND FORM's CARD OF 'distafflaw05.DatumWords'. -/
def datumWordsUptoCard : Claim7 := { stood := { row := datumWordsUptoRow, standIns := [], harness := (true, "8f165d09ea5b948e1729bde0cab94be3446c1fdb9cee188bb5796b3c5bd97b70"), looks := true }, kinds := [], alts := [], laidByText := true, laidKinds := [.data, .data, .widerDeep, .widerDeep, .data, .data, .data, .data, .data, .data, .sentinel, .sentinel, .pinned, .pinned, .pinned], laidTests := true, laidLooks := .later }
def DatumWordsUptoCardSaid : Prop := Claim7.holds Tryz.pinned (.plain (OpenSpec.upto datumWordsSpec)) datumWordsUptoCard

/-- THE SECOND FORM's CARD OF 'distafflaw05.DatumTells'. -/
def datumTellsUptoCard : Claim7 := { stood := { row := datumTellsUptoRow, standIns := [], harness := (true, "8f165d09ea5b948e1729bde0cab94be3446c1fdb9cee188bb5796b3c5bd97b70"), looks := true }, kinds := [], alts := [], laidByText := true, laidKinds := [.data, .data, .widerDeep, .widerDeep, .data, .data, .data, .data, .data, .data, .sentinel, .sentinel, .pinned, .pinned, .pinned], laidTests := true, laidLooks := .later }
def DatumTellsUptoCardSaid : Prop := Claim7.holds Tryz.pinned (.plain (OpenSpec.upto datumTellsSpec)) datumTellsUptoCard

/-- THE SECOND FORM's CARD OF 'distafflaw05.DatumCopies'. -/
def datumCopiesUptoCard : Claim7 := { stood := { row := datumCopiesUptoRow, standIns := [], harness := (true, "8f165d09ea5b948e1729bde0cab94be3446c1fdb9cee188bb5796b3c5bd97b70"), looks := true }, kinds := [], alts := [], laidByText := true, laidKinds := [.data, .data, .widerDeep, .widerDeep, .data, .data, .data, .data, .data, .data, .sentinel, .sentinel, .pinned, .pinned, .pinned], laidTests := true, laidLooks := .later }
def DatumCopiesUptoCardSaid : Prop := Claim7.holds Tryz.pinned (.plain (OpenSpec.upto datumCopiesSpec)) datumCopiesUptoCard

/-- THE SECOND FORM's CARD OF 'distafflaw05.DatumApart'. -/
def datumApartUptoCard : Claim7 := { stood := { row := datumApartUptoRow, standIns := [], harness := (true, "8f165d09ea5b948e1729bde0cab94be3446c1fdb9cee188bb5796b3c5bd97b70"), looks := true }, kinds := [], alts := [], laidByText := true, laidKinds := [.data, .data, .widerDeep, .widerDeep, .data, .data, .data, .data, .data, .data, .sentinel, .sentinel, .pinned, .pinned, .pinned], laidTests := true, laidLooks := .later }
def DatumApartUptoCardSaid : Prop := Claim7.holds Tryz.pinned (.plain (OpenSpec.upto datumApartSpec)) datumApartUptoCard

/-- THE SECOND FORM's CARD OF 'distafflaw05.DatumNames'. -/
def datumNamesUptoCard : Claim7 := { stood := { row := datumNamesUptoRow, standIns := [], harness := (true, "8f165d09ea5b948e1729bde0cab94be3446c1fdb9cee188bb5796b3c5bd97b70"), looks := true }, kinds := [], alts := [], laidByText := true, laidKinds := [.data, .data, .widerDeep, .widerDeep, .data, .data, .data, .data, .data, .data, .sentinel, .sentinel, .pinned, .pinned, .pinned], laidTests := true, laidLooks := .later }
def DatumNamesUptoCardSaid : Prop := Claim7.holds Tryz.pinned (.plain (OpenSpec.upto datumNamesSpec)) datumNamesUptoCard

/-- THE SECOND FORM's CARD OF 'distafflaw05.DatumMakes'. -/
def datumMakesUptoCard : Claim7 := { stood := { row := datumMakesUptoRow, standIns := [], harness := (true, "8f165d09ea5b948e1729bde0cab94be3446c1fdb9cee188bb5796b3c5bd97b70"), looks := true }, kinds := [], alts := [], laidByText := true, laidKinds := [.data, .data, .widerDeep, .widerDeep, .data, .data, .data, .data, .data, .data, .sentinel, .sentinel, .pinned, .pinned, .pinned], laidTests := true, laidLooks := .later }
def DatumMakesUptoCardSaid : Prop := Claim7.holds Tryz.pinned (.plain (OpenSpec.upto datumMakesSpec)) datumMakesUptoCard
end Rows
end Go.Proofs.YtdlahdbmningoaaGreatDoor
