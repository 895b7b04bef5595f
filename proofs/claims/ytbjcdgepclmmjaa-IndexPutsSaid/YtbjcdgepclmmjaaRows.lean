/-
  No cell of these rows narrows 'for every input' (looked for: loops, veiled, ifaces, maps, wideKeys, modest, calm, conditions, laid).
  DERIVED. THE GIVEN ROWS OF THIS SEAT. 15 by the template 'for every input the law returns true; each argument reads behind the call as it read before'; 0 by the template 'total and deterministic' (their statements: YtbjcdgepclmmjaaTotals.lean).
  GIVEN WITH THE SEED: the statements are not yours to turn. If you find one false, say at which input.
  Laid BY PROGRAM, IN A SANDBOX (cutbox-rows.mjs): the forced cells as the released guide's own fill.sh prints them over the translation b5c9f85b52c0d0fb… (all of the seat's roots in one cut). By AI agents, Wed Nov 11 2026. No macro, syntax, notation, axiom, sorry.
-/
import Derived.Test.YtbjcdgepclmmjaaChecked
import GoSem.Claim
import GoSem.ClaimJoined
import GoSem.ClaimMapViews
import Derived.JoinedTies
import Derived.KernelRfl
namespace Go.Proofs.Ytbjcdgepclmmjaa
/- THE CELL 'sum', in the pinned program and in every row, IS THE sha256 OF THE DUMP (.gsa) THAT YtbjcdgepclmmjaaProg.lean LOADS. Nothing in Lean hashes anything: it is a label: what it is worth is what the hold of that sum in a sandbox is worth. -/
noncomputable def Try.pinned : Pinned := { name := "ytbjcdgepclmmjaa", sum := "b5c9f85b52c0d0fb12b5b0857e64b630b64750d289f232bf29095b61f83988d3", checked := Try.checked }
namespace Rows
def none {H : Type} : Left H := { results := [], args := [] }

/-- 'compradorlaw21.ProofBytes': WHATEVER THE INPUT: true; the input reads as it did. -/
def proofBytesSpec : ChangeSpec := { name := "proofBytes", fn := fun _ => fun
  | [d1, d2] => { results := [.lit (.bool true)], args := [d1, d2] }
  | _ => none }
def proofBytesRow : OpenClaim := { program := "ytbjcdgepclmmjaa", sum := "b5c9f85b52c0d0fb12b5b0857e64b630b64750d289f232bf29095b61f83988d3", func := "comprador/compradorlaw21.ProofBytes", spec := "proofBytes", unfollowed := true, recurses := true, apart := false }
def ProofBytesSaid : Prop := proofBytesRow.holds Try.pinned (OpenSpec.ofChange proofBytesSpec)

/-- ITS FALSE NEIGHBOUR: 'it returns false'. Refute it at one input. -/
def proofBytesWrong : ChangeSpec := { name := "proofBytes", fn := fun _ => fun
  | [d1, d2] => { results := [.lit (.bool false)], args := [d1, d2] }
  | _ => none }
def ProofBytesWrongFalsely : Prop := proofBytesRow.holds Try.pinned (OpenSpec.ofChange proofBytesWrong)

/-- 'compradorlaw23.TrailFalls': WHATEVER THE INPUT: true; the input reads as it did. -/
def trailFallsSpec : ChangeSpec := { name := "trailFalls", fn := fun _ => fun
  | [d1, d2, d3] => { results := [.lit (.bool true)], args := [d1, d2, d3] }
  | _ => none }
def trailFallsRow : OpenClaim := { program := "ytbjcdgepclmmjaa", sum := "b5c9f85b52c0d0fb12b5b0857e64b630b64750d289f232bf29095b61f83988d3", func := "comprador/compradorlaw23.TrailFalls", spec := "trailFalls", unfollowed := true, recurses := true, apart := false }
def TrailFallsSaid : Prop := trailFallsRow.holds Try.pinned (OpenSpec.ofChange trailFallsSpec)

/-- ITS FALSE NEIGHBOUR: 'it returns false'. Refute it at one input. -/
def trailFallsWrong : ChangeSpec := { name := "trailFalls", fn := fun _ => fun
  | [d1, d2, d3] => { results := [.lit (.bool false)], args := [d1, d2, d3] }
  | _ => none }
def TrailFallsWrongFalsely : Prop := trailFallsRow.holds Try.pinned (OpenSpec.ofChange trailFallsWrong)

/-- 'compradorlaw45.StandRight': WHATEVER THE INPUT: true; the input reads as it did. -/
def standRightSpec : ChangeSpec := { name := "standRight", fn := fun _ => fun
  | [d1, d2, d3] => { results := [.lit (.bool true)], args := [d1, d2, d3] }
  | _ => none }
def standRightRow : OpenClaim := { program := "ytbjcdgepclmmjaa", sum := "b5c9f85b52c0d0fb12b5b0857e64b630b64750d289f232bf29095b61f83988d3", func := "comprador/compradorlaw45.StandRight", spec := "standRight", inPlace := ["internal/bytealg.abigen_runtime_cmpstring"], unfollowed := true, recurses := true, apart := false }
def StandRightSaid : Prop := standRightRow.holds Try.pinned (OpenSpec.ofChange standRightSpec)

/-- ITS FALSE NEIGHBOUR: 'it returns false'. Refute it at one input. -/
def standRightWrong : ChangeSpec := { name := "standRight", fn := fun _ => fun
  | [d1, d2, d3] => { results := [.lit (.bool false)], args := [d1, d2, d3] }
  | _ => none }
def StandRightWrongFalsely : Prop := standRightRow.holds Try.pinned (OpenSpec.ofChange standRightWrong)

/-- 'compradorlaw45.StandPlays': WHATEVER THE INPUT: true; the input reads as it did. -/
def standPlaysSpec : ChangeSpec := { name := "standPlays", fn := fun _ => fun
  | [d1, d2] => { results := [.lit (.bool true)], args := [d1, d2] }
  | _ => none }
def standPlaysRow : OpenClaim := { program := "ytbjcdgepclmmjaa", sum := "b5c9f85b52c0d0fb12b5b0857e64b630b64750d289f232bf29095b61f83988d3", func := "comprador/compradorlaw45.StandPlays", spec := "standPlays", inPlace := ["internal/bytealg.abigen_runtime_cmpstring"], unfollowed := true, recurses := true, apart := false }
def StandPlaysSaid : Prop := standPlaysRow.holds Try.pinned (OpenSpec.ofChange standPlaysSpec)

/-- ITS FALSE NEIGHBOUR: 'it returns false'. Refute it at one input. -/
def standPlaysWrong : ChangeSpec := { name := "standPlays", fn := fun _ => fun
  | [d1, d2] => { results := [.lit (.bool false)], args := [d1, d2] }
  | _ => none }
def StandPlaysWrongFalsely : Prop := standPlaysRow.holds Try.pinned (OpenSpec.ofChange standPlaysWrong)

/-- 'compradorlaw12.DepotTells': WHATEVER THE INPUT: true; the input reads as it did. -/
def depotTellsSpec : ChangeSpec := { name := "depotTells", fn := fun _ => fun
  | [d1, d2] => { results := [.lit (.bool true)], args := [d1, d2] }
  | _ => none }
def depotTellsRow : OpenClaim := { program := "ytbjcdgepclmmjaa", sum := "b5c9f85b52c0d0fb12b5b0857e64b630b64750d289f232bf29095b61f83988d3", func := "comprador/compradorlaw12.DepotTells", spec := "depotTells", inPlace := ["internal/bytealg.abigen_runtime_cmpstring"], unfollowed := true, recurses := true, apart := false }
def DepotTellsSaid : Prop := depotTellsRow.holds Try.pinned (OpenSpec.ofChange depotTellsSpec)

/-- ITS FALSE NEIGHBOUR: 'it returns false'. Refute it at one input. -/
def depotTellsWrong : ChangeSpec := { name := "depotTells", fn := fun _ => fun
  | [d1, d2] => { results := [.lit (.bool false)], args := [d1, d2] }
  | _ => none }
def DepotTellsWrongFalsely : Prop := depotTellsRow.holds Try.pinned (OpenSpec.ofChange depotTellsWrong)

/-- 'compradorlaw12.DepotOf': WHATEVER THE INPUT: true; the input reads as it did. -/
def depotOfSpec : ChangeSpec := { name := "depotOf", fn := fun _ => fun
  | [d1, d2] => { results := [.lit (.bool true)], args := [d1, d2] }
  | _ => none }
def depotOfRow : OpenClaim := { program := "ytbjcdgepclmmjaa", sum := "b5c9f85b52c0d0fb12b5b0857e64b630b64750d289f232bf29095b61f83988d3", func := "comprador/compradorlaw12.DepotOf", spec := "depotOf", inPlace := ["internal/bytealg.abigen_runtime_cmpstring"], unfollowed := true, recurses := true, apart := false }
def DepotOfSaid : Prop := depotOfRow.holds Try.pinned (OpenSpec.ofChange depotOfSpec)

/-- ITS FALSE NEIGHBOUR: 'it returns false'. Refute it at one input. -/
def depotOfWrong : ChangeSpec := { name := "depotOf", fn := fun _ => fun
  | [d1, d2] => { results := [.lit (.bool false)], args := [d1, d2] }
  | _ => none }
def DepotOfWrongFalsely : Prop := depotOfRow.holds Try.pinned (OpenSpec.ofChange depotOfWrong)

/-- 'compradorlaw42.EventBytes': WHATEVER THE INPUT: true; the input reads as it did. -/
def eventBytesSpec : ChangeSpec := { name := "eventBytes", fn := fun _ => fun
  | [d1, d2] => { results := [.lit (.bool true)], args := [d1, d2] }
  | _ => none }
def eventBytesRow : OpenClaim := { program := "ytbjcdgepclmmjaa", sum := "b5c9f85b52c0d0fb12b5b0857e64b630b64750d289f232bf29095b61f83988d3", func := "comprador/compradorlaw42.EventBytes", spec := "eventBytes", unfollowed := true, recurses := true, apart := false }
def EventBytesSaid : Prop := eventBytesRow.holds Try.pinned (OpenSpec.ofChange eventBytesSpec)

/-- ITS FALSE NEIGHBOUR: 'it returns false'. Refute it at one input. -/
def eventBytesWrong : ChangeSpec := { name := "eventBytes", fn := fun _ => fun
  | [d1, d2] => { results := [.lit (.bool false)], args := [d1, d2] }
  | _ => none }
def EventBytesWrongFalsely : Prop := eventBytesRow.holds Try.pinned (OpenSpec.ofChange eventBytesWrong)

/-- 'compradorlaw23.TrailPlays': WHATEVER THE INPUT: true; the input reads as it did. -/
def trailPlaysSpec : ChangeSpec := { name := "trailPlays", fn := fun _ => fun
  | [d1, d2, d3] => { results := [.lit (.bool true)], args := [d1, d2, d3] }
  | _ => none }
def trailPlaysRow : OpenClaim := { program := "ytbjcdgepclmmjaa", sum := "b5c9f85b52c0d0fb12b5b0857e64b630b64750d289f232bf29095b61f83988d3", func := "comprador/compradorlaw23.TrailPlays", spec := "trailPlays", inPlace := ["slices.overlaps[comprador/api.Pick]"], unfollowed := true, recurses := true, apart := false }
def TrailPlaysSaid : Prop := trailPlaysRow.holds Try.pinned (OpenSpec.ofChange trailPlaysSpec)

/-- ITS FALSE NEIGHBOUR: 'it returns false'. Refute it at one input. -/
def trailPlaysWrong : ChangeSpec := { name := "trailPlays", fn := fun _ => fun
  | [d1, d2, d3] => { results := [.lit (.bool false)], args := [d1, d2, d3] }
  | _ => none }
def TrailPlaysWrongFalsely : Prop := trailPlaysRow.holds Try.pinned (OpenSpec.ofChange trailPlaysWrong)

/-- 'compradorlaw25.UnitEnds': WHATEVER THE INPUT: true; the input reads as it did. -/
def unitEndsSpec : ChangeSpec := { name := "unitEnds", fn := fun _ => fun
  | [d1, d2] => { results := [.lit (.bool true)], args := [d1, d2] }
  | _ => none }
def unitEndsRow : OpenClaim := { program := "ytbjcdgepclmmjaa", sum := "b5c9f85b52c0d0fb12b5b0857e64b630b64750d289f232bf29095b61f83988d3", func := "comprador/compradorlaw25.UnitEnds", spec := "unitEnds", inPlace := ["internal/bytealg.abigen_runtime_cmpstring"], unfollowed := true, recurses := true, apart := false }
def UnitEndsSaid : Prop := unitEndsRow.holds Try.pinned (OpenSpec.ofChange unitEndsSpec)

/-- ITS FALSE NEIGHBOUR: 'it returns false'. Refute it at one input. -/
def unitEndsWrong : ChangeSpec := { name := "unitEnds", fn := fun _ => fun
  | [d1, d2] => { results := [.lit (.bool false)], args := [d1, d2] }
  | _ => none }
def UnitEndsWrongFalsely : Prop := unitEndsRow.holds Try.pinned (OpenSpec.ofChange unitEndsWrong)

/-- 'compradorlaw36.FlightOnce': WHATEVER THE INPUT: true; the input reads as it did. -/
def flightOnceSpec : ChangeSpec := { name := "flightOnce", fn := fun _ => fun
  | [d1, d2] => { results := [.lit (.bool true)], args := [d1, d2] }
  | _ => none }
def flightOnceRow : OpenClaim := { program := "ytbjcdgepclmmjaa", sum := "b5c9f85b52c0d0fb12b5b0857e64b630b64750d289f232bf29095b61f83988d3", func := "comprador/compradorlaw36.FlightOnce", spec := "flightOnce", unfollowed := true, recurses := true, apart := false }
def FlightOnceSaid : Prop := flightOnceRow.holds Try.pinned (OpenSpec.ofChange flightOnceSpec)

/-- ITS FALSE NEIGHBOUR: 'it returns false'. Refute it at one input. -/
def flightOnceWrong : ChangeSpec := { name := "flightOnce", fn := fun _ => fun
  | [d1, d2] => { results := [.lit (.bool false)], args := [d1, d2] }
  | _ => none }
def FlightOnceWrongFalsely : Prop := flightOnceRow.holds Try.pinned (OpenSpec.ofChange flightOnceWrong)

/-- 'compradorlaw36.FlightPlays': WHATEVER THE INPUT: true; the input reads as it did. -/
def flightPlaysSpec : ChangeSpec := { name := "flightPlays", fn := fun _ => fun
  | [d1, d2] => { results := [.lit (.bool true)], args := [d1, d2] }
  | _ => none }
def flightPlaysRow : OpenClaim := { program := "ytbjcdgepclmmjaa", sum := "b5c9f85b52c0d0fb12b5b0857e64b630b64750d289f232bf29095b61f83988d3", func := "comprador/compradorlaw36.FlightPlays", spec := "flightPlays", unfollowed := true, recurses := true, apart := false }
def FlightPlaysSaid : Prop := flightPlaysRow.holds Try.pinned (OpenSpec.ofChange flightPlaysSpec)

/-- ITS FALSE NEIGHBOUR: 'it returns false'. Refute it at one input. -/
def flightPlaysWrong : ChangeSpec := { name := "flightPlays", fn := fun _ => fun
  | [d1, d2] => { results := [.lit (.bool false)], args := [d1, d2] }
  | _ => none }
def FlightPlaysWrongFalsely : Prop := flightPlaysRow.holds Try.pinned (OpenSpec.ofChange flightPlaysWrong)

/-- 'compradorlaw13.IndexPuts': WHATEVER THE INPUT: true; the input reads as it did. -/
def indexPutsSpec : ChangeSpec := { name := "indexPuts", fn := fun _ => fun
  | [d1, d2, d3] => { results := [.lit (.bool true)], args := [d1, d2, d3] }
  | _ => none }
def indexPutsRow : OpenClaim := { program := "ytbjcdgepclmmjaa", sum := "b5c9f85b52c0d0fb12b5b0857e64b630b64750d289f232bf29095b61f83988d3", func := "comprador/compradorlaw13.IndexPuts", spec := "indexPuts", inPlace := ["maps.clone"], unfollowed := true, recurses := true, apart := false }
def IndexPutsSaid : Prop := indexPutsRow.holds Try.pinned (OpenSpec.ofChange indexPutsSpec)

/-- ITS FALSE NEIGHBOUR: 'it returns false'. Refute it at one input. -/
def indexPutsWrong : ChangeSpec := { name := "indexPuts", fn := fun _ => fun
  | [d1, d2, d3] => { results := [.lit (.bool false)], args := [d1, d2, d3] }
  | _ => none }
def IndexPutsWrongFalsely : Prop := indexPutsRow.holds Try.pinned (OpenSpec.ofChange indexPutsWrong)

/-- 'compradorlaw21.ProofTells': WHATEVER THE INPUT: true; the input reads as it did. -/
def proofTellsSpec : ChangeSpec := { name := "proofTells", fn := fun _ => fun
  | [d1, d2] => { results := [.lit (.bool true)], args := [d1, d2] }
  | _ => none }
def proofTellsRow : OpenClaim := { program := "ytbjcdgepclmmjaa", sum := "b5c9f85b52c0d0fb12b5b0857e64b630b64750d289f232bf29095b61f83988d3", func := "comprador/compradorlaw21.ProofTells", spec := "proofTells", unfollowed := true, recurses := true, apart := false }
def ProofTellsSaid : Prop := proofTellsRow.holds Try.pinned (OpenSpec.ofChange proofTellsSpec)

/-- ITS FALSE NEIGHBOUR: 'it returns false'. Refute it at one input. -/
def proofTellsWrong : ChangeSpec := { name := "proofTells", fn := fun _ => fun
  | [d1, d2] => { results := [.lit (.bool false)], args := [d1, d2] }
  | _ => none }
def ProofTellsWrongFalsely : Prop := proofTellsRow.holds Try.pinned (OpenSpec.ofChange proofTellsWrong)

/-- 'compradorlaw21.ProofTrims': WHATEVER THE INPUT: true; the input reads as it did. -/
def proofTrimsSpec : ChangeSpec := { name := "proofTrims", fn := fun _ => fun
  | [d] => { results := [.lit (.bool true)], args := [d] }
  | _ => none }
def proofTrimsRow : OpenClaim := { program := "ytbjcdgepclmmjaa", sum := "b5c9f85b52c0d0fb12b5b0857e64b630b64750d289f232bf29095b61f83988d3", func := "comprador/compradorlaw21.ProofTrims", spec := "proofTrims", unfollowed := true, recurses := true, apart := false }
def ProofTrimsSaid : Prop := proofTrimsRow.holds Try.pinned (OpenSpec.ofChange proofTrimsSpec)

/-- ITS FALSE NEIGHBOUR: 'it returns false'. Refute it at one input. -/
def proofTrimsWrong : ChangeSpec := { name := "proofTrims", fn := fun _ => fun
  | [d] => { results := [.lit (.bool false)], args := [d] }
  | _ => none }
def ProofTrimsWrongFalsely : Prop := proofTrimsRow.holds Try.pinned (OpenSpec.ofChange proofTrimsWrong)

/-- 'compradorlaw52.YankDoes': WHATEVER THE INPUT: true; the input reads as it did. -/
def yankDoesSpec : ChangeSpec := { name := "yankDoes", fn := fun _ => fun
  | [d1, d2, d3] => { results := [.lit (.bool true)], args := [d1, d2, d3] }
  | _ => none }
def yankDoesRow : OpenClaim := { program := "ytbjcdgepclmmjaa", sum := "b5c9f85b52c0d0fb12b5b0857e64b630b64750d289f232bf29095b61f83988d3", func := "comprador/compradorlaw52.YankDoes", spec := "yankDoes", inPlace := ["internal/bytealg.abigen_runtime_cmpstring", "slices.overlaps[comprador/api.Release]", "slices.overlaps[comprador/api.Entry]"], unfollowed := true, recurses := true, apart := false }
def YankDoesSaid : Prop := yankDoesRow.holds Try.pinned (OpenSpec.ofChange yankDoesSpec)

/-- ITS FALSE NEIGHBOUR: 'it returns false'. Refute it at one input. -/
def yankDoesWrong : ChangeSpec := { name := "yankDoes", fn := fun _ => fun
  | [d1, d2, d3] => { results := [.lit (.bool false)], args := [d1, d2, d3] }
  | _ => none }
def YankDoesWrongFalsely : Prop := yankDoesRow.holds Try.pinned (OpenSpec.ofChange yankDoesWrong)

/- THE SECOND FORM. 'bulk': how many values and letters a reading holds, each counted each time it is reached (what is shared counts as often as it is met; a slice's spare places count too). A statement '..UptoSaid' is the law's where the arguments, and the package variables that the reading takes, are together of bulk at most 1048576: NARROWER than '..Said'. Prove '..Said' where nothing that the law and all that it calls make is longer than what came in: it says more and counts as full. Else prove '..UptoSaid'. A law counts once. -/
mutual
def uptoBulk {H : Type} : DataW H → Nat
  | .lit (.string bytes) => bytes.length + 1
  | .lit _ => 1
  | .nil => 1
  | .ptr d => uptoBulk d + 1
  | .slice elems spare => uptoBulkAll elems + uptoBulkAll spare + 1
  | .agg parts => uptoBulkAll parts + 1
  | .iface _ d => uptoBulk d + 1
  | .map entries => uptoBulkEntries entries + 1
  | .held _ => 1
def uptoBulkAll {H : Type} : List (DataW H) → Nat
  | [] => 0
  | d :: r => uptoBulk d + uptoBulkAll r
def uptoBulkEntries {H : Type} : List (Lit × DataW H) → Nat
  | [] => 0
  | x :: r => uptoBulkEntry x + uptoBulkEntries r
def uptoBulkEntry {H : Type} : Lit × DataW H → Nat
  | (.string bytes, d) => bytes.length + uptoBulk d + 1
  | (_, d) => uptoBulk d + 1
 end
def uptoSmall : (H : Type) → List (DataW H) → Bool := fun _ ds => decide (uptoBulkAll ds ≤ 1048576)
def OpenSpec.upto (s : _root_.Go.ChangeSpec) : _root_.Go.OpenSpec := { _root_.Go.OpenSpec.ofChange s with cond := some uptoSmall }

/-- 'compradorlaw21.ProofBytes', WHERE WHAT IT READS IS OF BULK AT MOST 1048576: true; the input reads as it did. -/
def proofBytesUptoRow : OpenClaim := { program := "ytbjcdgepclmmjaa", sum := "b5c9f85b52c0d0fb12b5b0857e64b630b64750d289f232bf29095b61f83988d3", func := "comprador/compradorlaw21.ProofBytes", spec := "proofBytes", unfollowed := true, recurses := true, apart := false, narrowed := true }
def ProofBytesUptoSaid : Prop := proofBytesUptoRow.holds Try.pinned (OpenSpec.upto proofBytesSpec)

/-- 'compradorlaw23.TrailFalls', WHERE WHAT IT READS IS OF BULK AT MOST 1048576: true; the input reads as it did. -/
def trailFallsUptoRow : OpenClaim := { program := "ytbjcdgepclmmjaa", sum := "b5c9f85b52c0d0fb12b5b0857e64b630b64750d289f232bf29095b61f83988d3", func := "comprador/compradorlaw23.TrailFalls", spec := "trailFalls", unfollowed := true, recurses := true, apart := false, narrowed := true }
def TrailFallsUptoSaid : Prop := trailFallsUptoRow.holds Try.pinned (OpenSpec.upto trailFallsSpec)

/-- 'compradorlaw45.StandRight', WHERE WHAT IT READS IS OF BULK AT MOST 1048576: true; the input reads as it did. -/
def standRightUptoRow : OpenClaim := { program := "ytbjcdgepclmmjaa", sum := "b5c9f85b52c0d0fb12b5b0857e64b630b64750d289f232bf29095b61f83988d3", func := "comprador/compradorlaw45.StandRight", spec := "standRight", inPlace := ["internal/bytealg.abigen_runtime_cmpstring"], unfollowed := true, recurses := true, apart := false, narrowed := true }
def StandRightUptoSaid : Prop := standRightUptoRow.holds Try.pinned (OpenSpec.upto standRightSpec)

/-- 'compradorlaw45.StandPlays', WHERE WHAT IT READS IS OF BULK AT MOST 1048576: true; the input reads as it did. -/
def standPlaysUptoRow : OpenClaim := { program := "ytbjcdgepclmmjaa", sum := "b5c9f85b52c0d0fb12b5b0857e64b630b64750d289f232bf29095b61f83988d3", func := "comprador/compradorlaw45.StandPlays", spec := "standPlays", inPlace := ["internal/bytealg.abigen_runtime_cmpstring"], unfollowed := true, recurses := true, apart := false, narrowed := true }
def StandPlaysUptoSaid : Prop := standPlaysUptoRow.holds Try.pinned (OpenSpec.upto standPlaysSpec)

/-- 'compradorlaw12.DepotTells', WHERE WHAT IT READS IS OF BULK AT MOST 1048576: true; the input reads as it did. -/
def depotTellsUptoRow : OpenClaim := { program := "ytbjcdgepclmmjaa", sum := "b5c9f85b52c0d0fb12b5b0857e64b630b64750d289f232bf29095b61f83988d3", func := "comprador/compradorlaw12.DepotTells", spec := "depotTells", inPlace := ["internal/bytealg.abigen_runtime_cmpstring"], unfollowed := true, recurses := true, apart := false, narrowed := true }
def DepotTellsUptoSaid : Prop := depotTellsUptoRow.holds Try.pinned (OpenSpec.upto depotTellsSpec)

/-- 'compradorlaw12.DepotOf', WHERE WHAT IT READS IS OF BULK AT MOST 1048576: true; the input reads as it did. -/
def depotOfUptoRow : OpenClaim := { program := "ytbjcdgepclmmjaa", sum := "b5c9f85b52c0d0fb12b5b0857e64b630b64750d289f232bf29095b61f83988d3", func := "comprador/compradorlaw12.DepotOf", spec := "depotOf", inPlace := ["internal/bytealg.abigen_runtime_cmpstring"], unfollowed := true, recurses := true, apart := false, narrowed := true }
def DepotOfUptoSaid : Prop := depotOfUptoRow.holds Try.pinned (OpenSpec.upto depotOfSpec)

/-- 'compradorlaw42.EventBytes', WHERE WHAT IT READS IS OF BULK AT MOST 1048576: true; the input reads as it did. -/
def eventBytesUptoRow : OpenClaim := { program := "ytbjcdgepclmmjaa", sum := "b5c9f85b52c0d0fb12b5b0857e64b630b64750d289f232bf29095b61f83988d3", func := "comprador/compradorlaw42.EventBytes", spec := "eventBytes", unfollowed := true, recurses := true, apart := false, narrowed := true }
def EventBytesUptoSaid : Prop := eventBytesUptoRow.holds Try.pinned (OpenSpec.upto eventBytesSpec)

/-- 'compradorlaw23.TrailPlays', WHERE WHAT IT READS IS OF BULK AT MOST 1048576: true; the input reads as it did. -/
def trailPlaysUptoRow : OpenClaim := { program := "ytbjcdgepclmmjaa", sum := "b5c9f85b52c0d0fb12b5b0857e64b630b64750d289f232bf29095b61f83988d3", func := "comprador/compradorlaw23.TrailPlays", spec := "trailPlays", inPlace := ["slices.overlaps[comprador/api.Pick]"], unfollowed := true, recurses := true, apart := false, narrowed := true }
def TrailPlaysUptoSaid : Prop := trailPlaysUptoRow.holds Try.pinned (OpenSpec.upto trailPlaysSpec)

/-- 'compradorlaw25.UnitEnds', WHERE WHAT IT READS IS OF BULK AT MOST 1048576: true; the input reads as it did. -/
def unitEndsUptoRow : OpenClaim := { program := "ytbjcdgepclmmjaa", sum := "b5c9f85b52c0d0fb12b5b0857e64b630b64750d289f232bf29095b61f83988d3", func := "comprador/compradorlaw25.UnitEnds", spec := "unitEnds", inPlace := ["internal/bytealg.abigen_runtime_cmpstring"], unfollowed := true, recurses := true, apart := false, narrowed := true }
def UnitEndsUptoSaid : Prop := unitEndsUptoRow.holds Try.pinned (OpenSpec.upto unitEndsSpec)

/-- 'compradorlaw36.FlightOnce', WHERE WHAT IT READS IS OF BULK AT MOST 1048576: true; the input reads as it did. -/
def flightOnceUptoRow : OpenClaim := { program := "ytbjcdgepclmmjaa", sum := "b5c9f85b52c0d0fb12b5b0857e64b630b64750d289f232bf29095b61f83988d3", func := "comprador/compradorlaw36.FlightOnce", spec := "flightOnce", unfollowed := true, recurses := true, apart := false, narrowed := true }
def FlightOnceUptoSaid : Prop := flightOnceUptoRow.holds Try.pinned (OpenSpec.upto flightOnceSpec)

/-- 'compradorlaw36.FlightPlays', WHERE WHAT IT READS IS OF BULK AT MOST 1048576: true; the input reads as it did. -/
def flightPlaysUptoRow : OpenClaim := { program := "ytbjcdgepclmmjaa", sum := "b5c9f85b52c0d0fb12b5b0857e64b630b64750d289f232bf29095b61f83988d3", func := "comprador/compradorlaw36.FlightPlays", spec := "flightPlays", unfollowed := true, recurses := true, apart := false, narrowed := true }
def FlightPlaysUptoSaid : Prop := flightPlaysUptoRow.holds Try.pinned (OpenSpec.upto flightPlaysSpec)

/-- 'compradorlaw13.IndexPuts', WHERE WHAT IT READS IS OF BULK AT MOST 1048576: true; the input reads as it did. -/
def indexPutsUptoRow : OpenClaim := { program := "ytbjcdgepclmmjaa", sum := "b5c9f85b52c0d0fb12b5b0857e64b630b64750d289f232bf29095b61f83988d3", func := "comprador/compradorlaw13.IndexPuts", spec := "indexPuts", inPlace := ["maps.clone"], unfollowed := true, recurses := true, apart := false, narrowed := true }
def IndexPutsUptoSaid : Prop := indexPutsUptoRow.holds Try.pinned (OpenSpec.upto indexPutsSpec)

/-- 'compradorlaw21.ProofTells', WHERE WHAT IT READS IS OF BULK AT MOST 1048576: true; the input reads as it did. -/
def proofTellsUptoRow : OpenClaim := { program := "ytbjcdgepclmmjaa", sum := "b5c9f85b52c0d0fb12b5b0857e64b630b64750d289f232bf29095b61f83988d3", func := "comprador/compradorlaw21.ProofTells", spec := "proofTells", unfollowed := true, recurses := true, apart := false, narrowed := true }
def ProofTellsUptoSaid : Prop := proofTellsUptoRow.holds Try.pinned (OpenSpec.upto proofTellsSpec)

/-- 'compradorlaw21.ProofTrims', WHERE WHAT IT READS IS OF BULK AT MOST 1048576: true; the input reads as it did. -/
def proofTrimsUptoRow : OpenClaim := { program := "ytbjcdgepclmmjaa", sum := "b5c9f85b52c0d0fb12b5b0857e64b630b64750d289f232bf29095b61f83988d3", func := "comprador/compradorlaw21.ProofTrims", spec := "proofTrims", unfollowed := true, recurses := true, apart := false, narrowed := true }
def ProofTrimsUptoSaid : Prop := proofTrimsUptoRow.holds Try.pinned (OpenSpec.upto proofTrimsSpec)

/-- 'compradorlaw52.YankDoes', WHERE WHAT IT READS IS OF BULK AT MOST 1048576: true; the input reads as it did. -/
def yankDoesUptoRow : OpenClaim := { program := "ytbjcdgepclmmjaa", sum := "b5c9f85b52c0d0fb12b5b0857e64b630b64750d289f232bf29095b61f83988d3", func := "comprador/compradorlaw52.YankDoes", spec := "yankDoes", inPlace := ["internal/bytealg.abigen_runtime_cmpstring", "slices.overlaps[comprador/api.Release]", "slices.overlaps[comprador/api.Entry]"], unfollowed := true, recurses := true, apart := false, narrowed := true }
def YankDoesUptoSaid : Prop := yankDoesUptoRow.holds Try.pinned (OpenSpec.upto yankDoesSpec)

end Rows
end Go.Proofs.Ytbjcdgepclmmjaa
