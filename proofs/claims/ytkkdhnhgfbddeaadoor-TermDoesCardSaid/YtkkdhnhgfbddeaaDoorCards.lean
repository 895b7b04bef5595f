/-
  DERIVED. GIVEN WITH THE SEED: THE CARDS: each row of YtkkdhnhgfbddeaaDoorRows.lean that lists a variable, with what it lists TIED to the program's text (the seventh form; the later family's looks); each row that meets fmt, with fmt's text TOLD by the authors' own Lean function (tested against real Go, not proved from fmt's source: count such statements apart). THE CARD IS WHAT COUNTS. Prove the row's statement (the work); the ties are given (YtkkdhnhgfbddeaaDoorTie.lean); close each card by the builder's one call (the guide's Derived/Test/ToyasCard.lean, 'card_holds'). Laid BY PROGRAM, IN A SANDBOX (cutbox-door.mjs). By AI agents, Wed Nov 11 2026. No macro, syntax, notation, axiom, sorry.
-/
import Derived.Test.YtkkdhnhgfbddeaaDoorRows
import GoSem.ClaimSeven
namespace Go.Proofs.YtkkdhnhgfbddeaaDoor
namespace Rows

/-- THE TIED CARD OF 'compradorlaw18.TermLaws'. -/
def termLawsCard : Claim7 := { stood := { row := termLawsRow, standIns := [], harness := (true, "43f62238d31d8363bb2b514fe09df83b19145772f2aa987be963f4320e42f3bd"), looks := false }, kinds := [], alts := [], laidByText := true, laidKinds := [.data, .data, .data], laidTests := true, laidLooks := .later }
def TermLawsCardSaid : Prop := Claim7.holds Tryd.pinned (.plain (OpenSpec.ofChange termLawsSpec)) termLawsCard

/-- THE TIED CARD OF 'compradorlaw18.TermDoes'. -/
def termDoesCard : Claim7 := { stood := { row := termDoesRow, standIns := [], harness := (true, "43f62238d31d8363bb2b514fe09df83b19145772f2aa987be963f4320e42f3bd"), looks := false }, kinds := [], alts := [], laidByText := true, laidKinds := [.data, .data, .data], laidTests := true, laidLooks := .later }
def TermDoesCardSaid : Prop := Claim7.holds Tryd.pinned (.plain (OpenSpec.ofChange termDoesSpec)) termDoesCard

/-- THE TIED CARD OF 'compradorlaw56.DiffBack'. -/
def diffBackCard : Claim7 := { stood := { row := diffBackRow, standIns := [], harness := (true, "43f62238d31d8363bb2b514fe09df83b19145772f2aa987be963f4320e42f3bd"), looks := false }, kinds := [], alts := [], laidByText := true, laidKinds := [.data, .data, .data], laidTests := true, laidLooks := .later }
def DiffBackCardSaid : Prop := Claim7.holds Tryd.pinned (.plain (OpenSpec.ofChange diffBackSpec)) diffBackCard

/-- THE TIED CARD OF 'compradorlaw39.AnswerTells'. -/
def answerTellsCard : Claim7 := { stood := { row := answerTellsRow, standIns := [], harness := (true, "43f62238d31d8363bb2b514fe09df83b19145772f2aa987be963f4320e42f3bd"), looks := false }, kinds := [], alts := [], laidByText := true, laidKinds := [.data, .data, .data], laidTests := true, laidLooks := .later }
def AnswerTellsCardSaid : Prop := Claim7.holds Tryd.pinned (.plain (OpenSpec.ofChange answerTellsSpec)) answerTellsCard

/-- THE TIED CARD OF 'compradorlaw39.AnswerBytes'. -/
def answerBytesCard : Claim7 := { stood := { row := answerBytesRow, standIns := [], harness := (true, "43f62238d31d8363bb2b514fe09df83b19145772f2aa987be963f4320e42f3bd"), looks := false }, kinds := [], alts := [], laidByText := true, laidKinds := [.data, .data, .data], laidTests := true, laidLooks := .later }
def AnswerBytesCardSaid : Prop := Claim7.holds Tryd.pinned (.plain (OpenSpec.ofChange answerBytesSpec)) answerBytesCard

/-- THE SECOND FORM's CARD OF 'compradorlaw18.TermLaws'. -/
def termLawsUptoCard : Claim7 := { stood := { row := termLawsUptoRow, standIns := [], harness := (true, "43f62238d31d8363bb2b514fe09df83b19145772f2aa987be963f4320e42f3bd"), looks := false }, kinds := [], alts := [], laidByText := true, laidKinds := [.data, .data, .data], laidTests := true, laidLooks := .later }
def TermLawsUptoCardSaid : Prop := Claim7.holds Tryd.pinned (.plain (OpenSpec.upto termLawsSpec)) termLawsUptoCard

/-- THE SECOND FORM's CARD OF 'compradorlaw18.TermDoes'. -/
def termDoesUptoCard : Claim7 := { stood := { row := termDoesUptoRow, standIns := [], harness := (true, "43f62238d31d8363bb2b514fe09df83b19145772f2aa987be963f4320e42f3bd"), looks := false }, kinds := [], alts := [], laidByText := true, laidKinds := [.data, .data, .data], laidTests := true, laidLooks := .later }
def TermDoesUptoCardSaid : Prop := Claim7.holds Tryd.pinned (.plain (OpenSpec.upto termDoesSpec)) termDoesUptoCard

/-- THE SECOND FORM's CARD OF 'compradorlaw56.DiffBack'. -/
def diffBackUptoCard : Claim7 := { stood := { row := diffBackUptoRow, standIns := [], harness := (true, "43f62238d31d8363bb2b514fe09df83b19145772f2aa987be963f4320e42f3bd"), looks := false }, kinds := [], alts := [], laidByText := true, laidKinds := [.data, .data, .data], laidTests := true, laidLooks := .later }
def DiffBackUptoCardSaid : Prop := Claim7.holds Tryd.pinned (.plain (OpenSpec.upto diffBackSpec)) diffBackUptoCard

/-- THE SECOND FORM's CARD OF 'compradorlaw39.AnswerTells'. -/
def answerTellsUptoCard : Claim7 := { stood := { row := answerTellsUptoRow, standIns := [], harness := (true, "43f62238d31d8363bb2b514fe09df83b19145772f2aa987be963f4320e42f3bd"), looks := false }, kinds := [], alts := [], laidByText := true, laidKinds := [.data, .data, .data], laidTests := true, laidLooks := .later }
def AnswerTellsUptoCardSaid : Prop := Claim7.holds Tryd.pinned (.plain (OpenSpec.upto answerTellsSpec)) answerTellsUptoCard

/-- THE SECOND FORM's CARD OF 'compradorlaw39.AnswerBytes'. -/
def answerBytesUptoCard : Claim7 := { stood := { row := answerBytesUptoRow, standIns := [], harness := (true, "43f62238d31d8363bb2b514fe09df83b19145772f2aa987be963f4320e42f3bd"), looks := false }, kinds := [], alts := [], laidByText := true, laidKinds := [.data, .data, .data], laidTests := true, laidLooks := .later }
def AnswerBytesUptoCardSaid : Prop := Claim7.holds Tryd.pinned (.plain (OpenSpec.upto answerBytesSpec)) answerBytesUptoCard
end Rows
end Go.Proofs.YtkkdhnhgfbddeaaDoor
