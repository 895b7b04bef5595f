/-
  DERIVED. GIVEN WITH THE SEED: THE CARDS: each row of YtbjcdgepclmmjaaDoorRows.lean that lists a variable, with what it lists TIED to the program's text (the seventh form; the later family's looks); each row that meets fmt, with fmt's text TOLD by the authors' own Lean function (tested against real Go, not proved from fmt's source: count such statements apart). THE CARD IS WHAT COUNTS. Prove the row's statement (the work); the ties are given (YtbjcdgepclmmjaaDoorTie.lean); close each card by the builder's one call (the guide's Derived/Test/ToyasCard.lean, 'card_holds'). Laid BY PROGRAM, IN A SANDBOX (cutbox-door.mjs). By AI agents, Wed Nov 11 2026. No macro, syntax, notation, axiom, sorry.
-/
import Derived.Test.YtbjcdgepclmmjaaDoorRows
import GoSem.ClaimSeven
namespace Go.Proofs.YtbjcdgepclmmjaaDoor
namespace Rows

/-- THE TIED CARD OF 'compradorlaw18.TermLaws'. -/
def termLawsCard : Claim7 := { stood := { row := termLawsRow, standIns := [], harness := (true, "39a47d8271087ccea0bf3d424d7f34c52f30457e789c962436d8e8512bb7abe2"), looks := false }, kinds := [], alts := [], laidByText := true, laidKinds := [.data, .data, .data], laidTests := true, laidLooks := .later }
def TermLawsCardSaid : Prop := Claim7.holds Tryd.pinned (.plain (OpenSpec.ofChange termLawsSpec)) termLawsCard

/-- THE TIED CARD OF 'compradorlaw15.PickLists'. -/
def pickListsCard : Claim7 := { stood := { row := pickListsRow, standIns := [], harness := (true, "39a47d8271087ccea0bf3d424d7f34c52f30457e789c962436d8e8512bb7abe2"), looks := false }, kinds := [], alts := [], laidByText := true, laidKinds := [.data, .data, .data, .data, .pinned], laidTests := true, laidLooks := .later }
def PickListsCardSaid : Prop := Claim7.holds Tryd.pinned (.plain (OpenSpec.ofChange pickListsSpec)) pickListsCard

/-- THE TIED CARD OF 'compradorlaw15.PickPuts'. -/
def pickPutsCard : Claim7 := { stood := { row := pickPutsRow, standIns := [], harness := (true, "39a47d8271087ccea0bf3d424d7f34c52f30457e789c962436d8e8512bb7abe2"), looks := false }, kinds := [], alts := [], laidByText := true, laidKinds := [.data, .data, .data, .data, .pinned], laidTests := true, laidLooks := .later }
def PickPutsCardSaid : Prop := Claim7.holds Tryd.pinned (.plain (OpenSpec.ofChange pickPutsSpec)) pickPutsCard

/-- THE SECOND FORM's CARD OF 'compradorlaw18.TermLaws'. -/
def termLawsUptoCard : Claim7 := { stood := { row := termLawsUptoRow, standIns := [], harness := (true, "39a47d8271087ccea0bf3d424d7f34c52f30457e789c962436d8e8512bb7abe2"), looks := false }, kinds := [], alts := [], laidByText := true, laidKinds := [.data, .data, .data], laidTests := true, laidLooks := .later }
def TermLawsUptoCardSaid : Prop := Claim7.holds Tryd.pinned (.plain (OpenSpec.upto termLawsSpec)) termLawsUptoCard

/-- THE SECOND FORM's CARD OF 'compradorlaw15.PickLists'. -/
def pickListsUptoCard : Claim7 := { stood := { row := pickListsUptoRow, standIns := [], harness := (true, "39a47d8271087ccea0bf3d424d7f34c52f30457e789c962436d8e8512bb7abe2"), looks := false }, kinds := [], alts := [], laidByText := true, laidKinds := [.data, .data, .data, .data, .pinned], laidTests := true, laidLooks := .later }
def PickListsUptoCardSaid : Prop := Claim7.holds Tryd.pinned (.plain (OpenSpec.upto pickListsSpec)) pickListsUptoCard

/-- THE SECOND FORM's CARD OF 'compradorlaw15.PickPuts'. -/
def pickPutsUptoCard : Claim7 := { stood := { row := pickPutsUptoRow, standIns := [], harness := (true, "39a47d8271087ccea0bf3d424d7f34c52f30457e789c962436d8e8512bb7abe2"), looks := false }, kinds := [], alts := [], laidByText := true, laidKinds := [.data, .data, .data, .data, .pinned], laidTests := true, laidLooks := .later }
def PickPutsUptoCardSaid : Prop := Claim7.holds Tryd.pinned (.plain (OpenSpec.upto pickPutsSpec)) pickPutsUptoCard
end Rows
end Go.Proofs.YtbjcdgepclmmjaaDoor
