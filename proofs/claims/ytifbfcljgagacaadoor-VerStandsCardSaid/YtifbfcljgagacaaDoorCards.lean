/-
  DERIVED. GIVEN WITH THE SEED: THE CARDS: each row of YtifbfcljgagacaaDoorRows.lean that lists a variable, with what it lists TIED to the program's text (the seventh form; the later family's looks); each row that meets fmt, with fmt's text TOLD by the authors' own Lean function (tested against real Go, not proved from fmt's source: count such statements apart). THE CARD IS WHAT COUNTS. Prove the row's statement (the work); the ties are given (YtifbfcljgagacaaDoorTie.lean); close each card by the builder's one call (the guide's Derived/Test/ToyasCard.lean, 'card_holds'). Laid BY PROGRAM, IN A SANDBOX (cutbox-door.mjs). By AI agents, Wed Nov 11 2026. No macro, syntax, notation, axiom, sorry.
-/
import Derived.Test.YtifbfcljgagacaaDoorRows
import GoSem.ClaimSeven
namespace Go.Proofs.YtifbfcljgagacaaDoor
namespace Rows

/-- THE TIED CARD OF 'compradorlaw05.VerPlaces'. -/
def verPlacesCard : Claim7 := { stood := { row := verPlacesRow, standIns := [], harness := (true, "7feeb97dfe63a3cad746138dac13ce1f0c48a80b1ef087778c0eddfdcbaa5829"), looks := false }, kinds := [], alts := [], laidByText := true, laidKinds := [.data, .data, .data], laidTests := true, laidLooks := .later }
def VerPlacesCardSaid : Prop := Claim7.holds Tryd.pinned (.plain (OpenSpec.ofChange verPlacesSpec)) verPlacesCard

/-- THE TIED CARD OF 'compradorlaw05.VerReads'. -/
def verReadsCard : Claim7 := { stood := { row := verReadsRow, standIns := [], harness := (true, "7feeb97dfe63a3cad746138dac13ce1f0c48a80b1ef087778c0eddfdcbaa5829"), looks := false }, kinds := [], alts := [], laidByText := true, laidKinds := [.data, .data, .data], laidTests := true, laidLooks := .later }
def VerReadsCardSaid : Prop := Claim7.holds Tryd.pinned (.plain (OpenSpec.ofChange verReadsSpec)) verReadsCard

/-- THE TIED CARD OF 'compradorlaw05.VerStands'. -/
def verStandsCard : Claim7 := { stood := { row := verStandsRow, standIns := [], harness := (true, "7feeb97dfe63a3cad746138dac13ce1f0c48a80b1ef087778c0eddfdcbaa5829"), looks := false }, kinds := [], alts := [], laidByText := true, laidKinds := [.data, .data, .data], laidTests := true, laidLooks := .later }
def VerStandsCardSaid : Prop := Claim7.holds Tryd.pinned (.plain (OpenSpec.ofChange verStandsSpec)) verStandsCard

/-- THE SECOND FORM's CARD OF 'compradorlaw05.VerPlaces'. -/
def verPlacesUptoCard : Claim7 := { stood := { row := verPlacesUptoRow, standIns := [], harness := (true, "7feeb97dfe63a3cad746138dac13ce1f0c48a80b1ef087778c0eddfdcbaa5829"), looks := false }, kinds := [], alts := [], laidByText := true, laidKinds := [.data, .data, .data], laidTests := true, laidLooks := .later }
def VerPlacesUptoCardSaid : Prop := Claim7.holds Tryd.pinned (.plain (OpenSpec.upto verPlacesSpec)) verPlacesUptoCard

/-- THE SECOND FORM's CARD OF 'compradorlaw05.VerReads'. -/
def verReadsUptoCard : Claim7 := { stood := { row := verReadsUptoRow, standIns := [], harness := (true, "7feeb97dfe63a3cad746138dac13ce1f0c48a80b1ef087778c0eddfdcbaa5829"), looks := false }, kinds := [], alts := [], laidByText := true, laidKinds := [.data, .data, .data], laidTests := true, laidLooks := .later }
def VerReadsUptoCardSaid : Prop := Claim7.holds Tryd.pinned (.plain (OpenSpec.upto verReadsSpec)) verReadsUptoCard

/-- THE SECOND FORM's CARD OF 'compradorlaw05.VerStands'. -/
def verStandsUptoCard : Claim7 := { stood := { row := verStandsUptoRow, standIns := [], harness := (true, "7feeb97dfe63a3cad746138dac13ce1f0c48a80b1ef087778c0eddfdcbaa5829"), looks := false }, kinds := [], alts := [], laidByText := true, laidKinds := [.data, .data, .data], laidTests := true, laidLooks := .later }
def VerStandsUptoCardSaid : Prop := Claim7.holds Tryd.pinned (.plain (OpenSpec.upto verStandsSpec)) verStandsUptoCard
end Rows
end Go.Proofs.YtifbfcljgagacaaDoor
