/-
  No cell of these rows narrows 'for every input' (looked for: loops, veiled, ifaces, maps, wideKeys, modest, calm, conditions, laid).
  DERIVED. THE GIVEN ROWS OF THIS SEAT. 5 by the template 'for every input the law returns true; each argument reads behind the call as it read before'; 0 by the template 'total and deterministic' (their statements: YtkmolhmdikjmpaaGreatTotals.lean).
  GIVEN WITH THE SEED: the statements are not yours to turn. If you find one false, say at which input.
  Laid BY PROGRAM, IN A SANDBOX (cutbox-rows.mjs): the forced cells as the released guide's own fill.sh prints them over the translation a83ef8d3cf393196… (all of the seat's roots in one cut). By AI agents, Wed Nov 11 2026. No macro, syntax, notation, axiom, sorry.
-/
import Derived.Test.YtkmolhmdikjmpaaGreatChecked
import GoSem.Claim
import GoSem.ClaimJoined
import GoSem.ClaimMapViews
import Derived.JoinedTies
import Derived.KernelRfl
namespace Go.Proofs.YtkmolhmdikjmpaaGreat
/- THE CELL 'sum', in the pinned program and in every row, IS THE sha256 OF THE DUMP (.gsa) THAT YtkmolhmdikjmpaaGreatProg.lean LOADS. Nothing in Lean hashes anything: it is a label: what it is worth is what the hold of that sum in a sandbox is worth. -/
noncomputable def Tryz.pinned : Pinned := { name := "ytkmolhmdikjmpaagreat", sum := "a83ef8d3cf393196aeae4130c145c9c83b2cff5c81df9d468264a10be1981157", checked := Tryz.checked }
namespace Rows
def none {H : Type} : Left H := { results := [], args := [] }

/-- 'compradorlaw29.ChoiceTries': WHATEVER THE INPUT: true; the input reads as it did. -/
def choiceTriesSpec : ChangeSpec := { name := "choiceTries", fn := fun _ => fun
  | [d1, d2] => { results := [.lit (.bool true)], args := [d1, d2] }
  | _ => none }
def choiceTriesRow : OpenClaim := { program := "ytkmolhmdikjmpaagreat", sum := "a83ef8d3cf393196aeae4130c145c9c83b2cff5c81df9d468264a10be1981157", func := "comprador/compradorlaw29.ChoiceTries", spec := "choiceTries", inPlace := ["slices.overlaps[comprador/api.Pick]"], unfollowed := true, recurses := true, apart := false }
def ChoiceTriesSaid : Prop := choiceTriesRow.holds Tryz.pinned (OpenSpec.ofChange choiceTriesSpec)

/-- ITS FALSE NEIGHBOUR: 'it returns false'. Refute it at one input. -/
def choiceTriesWrong : ChangeSpec := { name := "choiceTries", fn := fun _ => fun
  | [d1, d2] => { results := [.lit (.bool false)], args := [d1, d2] }
  | _ => none }
def ChoiceTriesWrongFalsely : Prop := choiceTriesRow.holds Tryz.pinned (OpenSpec.ofChange choiceTriesWrong)

/-- 'compradorlaw29.ChoiceNext': WHATEVER THE INPUT: true; the input reads as it did. -/
def choiceNextSpec : ChangeSpec := { name := "choiceNext", fn := fun _ => fun
  | [d1, d2, d3] => { results := [.lit (.bool true)], args := [d1, d2, d3] }
  | _ => none }
def choiceNextRow : OpenClaim := { program := "ytkmolhmdikjmpaagreat", sum := "a83ef8d3cf393196aeae4130c145c9c83b2cff5c81df9d468264a10be1981157", func := "comprador/compradorlaw29.ChoiceNext", spec := "choiceNext", inPlace := ["slices.overlaps[comprador/api.Pick]"], unfollowed := true, recurses := true, apart := false }
def ChoiceNextSaid : Prop := choiceNextRow.holds Tryz.pinned (OpenSpec.ofChange choiceNextSpec)

/-- ITS FALSE NEIGHBOUR: 'it returns false'. Refute it at one input. -/
def choiceNextWrong : ChangeSpec := { name := "choiceNext", fn := fun _ => fun
  | [d1, d2, d3] => { results := [.lit (.bool false)], args := [d1, d2, d3] }
  | _ => none }
def ChoiceNextWrongFalsely : Prop := choiceNextRow.holds Tryz.pinned (OpenSpec.ofChange choiceNextWrong)

/-- 'compradorlaw17.PlainSolves': WHATEVER THE INPUT: true; the input reads as it did. -/
def plainSolvesSpec : ChangeSpec := { name := "plainSolves", fn := fun _ => fun
  | [d1, d2, d3] => { results := [.lit (.bool true)], args := [d1, d2, d3] }
  | _ => none }
def plainSolvesRow : OpenClaim := { program := "ytkmolhmdikjmpaagreat", sum := "a83ef8d3cf393196aeae4130c145c9c83b2cff5c81df9d468264a10be1981157", func := "comprador/compradorlaw17.PlainSolves", spec := "plainSolves", inPlace := ["slices.overlaps[comprador/api.Pick]"], unfollowed := true, recurses := true, apart := false }
def PlainSolvesSaid : Prop := plainSolvesRow.holds Tryz.pinned (OpenSpec.ofChange plainSolvesSpec)

/-- ITS FALSE NEIGHBOUR: 'it returns false'. Refute it at one input. -/
def plainSolvesWrong : ChangeSpec := { name := "plainSolves", fn := fun _ => fun
  | [d1, d2, d3] => { results := [.lit (.bool false)], args := [d1, d2, d3] }
  | _ => none }
def PlainSolvesWrongFalsely : Prop := plainSolvesRow.holds Tryz.pinned (OpenSpec.ofChange plainSolvesWrong)

/-- 'compradorlaw17.PlainAsks': WHATEVER THE INPUT: true; the input reads as it did. -/
def plainAsksSpec : ChangeSpec := { name := "plainAsks", fn := fun _ => fun
  | [d1, d2, d3] => { results := [.lit (.bool true)], args := [d1, d2, d3] }
  | _ => none }
def plainAsksRow : OpenClaim := { program := "ytkmolhmdikjmpaagreat", sum := "a83ef8d3cf393196aeae4130c145c9c83b2cff5c81df9d468264a10be1981157", func := "comprador/compradorlaw17.PlainAsks", spec := "plainAsks", inPlace := ["slices.overlaps[comprador/api.Pick]"], unfollowed := true, recurses := true, apart := false }
def PlainAsksSaid : Prop := plainAsksRow.holds Tryz.pinned (OpenSpec.ofChange plainAsksSpec)

/-- ITS FALSE NEIGHBOUR: 'it returns false'. Refute it at one input. -/
def plainAsksWrong : ChangeSpec := { name := "plainAsks", fn := fun _ => fun
  | [d1, d2, d3] => { results := [.lit (.bool false)], args := [d1, d2, d3] }
  | _ => none }
def PlainAsksWrongFalsely : Prop := plainAsksRow.holds Tryz.pinned (OpenSpec.ofChange plainAsksWrong)

/-- 'compradorlaw17.PlainHolds': WHATEVER THE INPUT: true; the input reads as it did. -/
def plainHoldsSpec : ChangeSpec := { name := "plainHolds", fn := fun _ => fun
  | [d1, d2, d3] => { results := [.lit (.bool true)], args := [d1, d2, d3] }
  | _ => none }
def plainHoldsRow : OpenClaim := { program := "ytkmolhmdikjmpaagreat", sum := "a83ef8d3cf393196aeae4130c145c9c83b2cff5c81df9d468264a10be1981157", func := "comprador/compradorlaw17.PlainHolds", spec := "plainHolds", inPlace := ["slices.overlaps[comprador/api.Pick]"], unfollowed := true, recurses := true, apart := false }
def PlainHoldsSaid : Prop := plainHoldsRow.holds Tryz.pinned (OpenSpec.ofChange plainHoldsSpec)

/-- ITS FALSE NEIGHBOUR: 'it returns false'. Refute it at one input. -/
def plainHoldsWrong : ChangeSpec := { name := "plainHolds", fn := fun _ => fun
  | [d1, d2, d3] => { results := [.lit (.bool false)], args := [d1, d2, d3] }
  | _ => none }
def PlainHoldsWrongFalsely : Prop := plainHoldsRow.holds Tryz.pinned (OpenSpec.ofChange plainHoldsWrong)

/- THE SECOND FORM. 'bulk': how many values and letters a reading holds, each counted each time it is reached (what is shared counts as often as it is met; a slice's spare places count too). A statement '..UptoSaid' is the law's where the arguments, and the package variables that the reading takes, are together of bulk at most 1048576: NARROWER than '..Said'. Prove '..Said' where nothing that the law and all that it calls make is longer than what came in: it says more and counts as full. Else prove '..UptoSaid'. A law counts once. -/
mutual
def uptoBulk {H : Type} : DataW H → Nat
  | .lit (.string bytes) => bytes.length + 1
  | .lit _ => 1
  | .nil => 1
  | .ptr d => uptoBulk d + 1
  | .slice elems spare => uptoBulkAll elems + uptoBulkAll spare + 1
  | .agg parts => uptoBulkAll parts + 1
  | .iface _ d => uptoBulk d + 1
  | .map entries => uptoBulkEntries entries + 1
  | .held _ => 1
def uptoBulkAll {H : Type} : List (DataW H) → Nat
  | [] => 0
  | d :: r => uptoBulk d + uptoBulkAll r
def uptoBulkEntries {H : Type} : List (Lit × DataW H) → Nat
  | [] => 0
  | x :: r => uptoBulkEntry x + uptoBulkEntries r
def uptoBulkEntry {H : Type} : Lit × DataW H → Nat
  | (.string bytes, d) => bytes.length + uptoBulk d + 1
  | (_, d) => uptoBulk d + 1
 end
def uptoSmall : (H : Type) → List (DataW H) → Bool := fun _ ds => decide (uptoBulkAll ds ≤ 1048576)
def OpenSpec.upto (s : _root_.Go.ChangeSpec) : _root_.Go.OpenSpec := { _root_.Go.OpenSpec.ofChange s with cond := some uptoSmall }

/-- 'compradorlaw29.ChoiceTries', WHERE WHAT IT READS IS OF BULK AT MOST 1048576: true; the input reads as it did. -/
def choiceTriesUptoRow : OpenClaim := { program := "ytkmolhmdikjmpaagreat", sum := "a83ef8d3cf393196aeae4130c145c9c83b2cff5c81df9d468264a10be1981157", func := "comprador/compradorlaw29.ChoiceTries", spec := "choiceTries", inPlace := ["slices.overlaps[comprador/api.Pick]"], unfollowed := true, recurses := true, apart := false, narrowed := true }
def ChoiceTriesUptoSaid : Prop := choiceTriesUptoRow.holds Tryz.pinned (OpenSpec.upto choiceTriesSpec)

/-- 'compradorlaw29.ChoiceNext', WHERE WHAT IT READS IS OF BULK AT MOST 1048576: true; the input reads as it did. -/
def choiceNextUptoRow : OpenClaim := { program := "ytkmolhmdikjmpaagreat", sum := "a83ef8d3cf393196aeae4130c145c9c83b2cff5c81df9d468264a10be1981157", func := "comprador/compradorlaw29.ChoiceNext", spec := "choiceNext", inPlace := ["slices.overlaps[comprador/api.Pick]"], unfollowed := true, recurses := true, apart := false, narrowed := true }
def ChoiceNextUptoSaid : Prop := choiceNextUptoRow.holds Tryz.pinned (OpenSpec.upto choiceNextSpec)

/-- 'compradorlaw17.PlainSolves', WHERE WHAT IT READS IS OF BULK AT MOST 1048576: true; the input reads as it did. -/
def plainSolvesUptoRow : OpenClaim := { program := "ytkmolhmdikjmpaagreat", sum := "a83ef8d3cf393196aeae4130c145c9c83b2cff5c81df9d468264a10be1981157", func := "comprador/compradorlaw17.PlainSolves", spec := "plainSolves", inPlace := ["slices.overlaps[comprador/api.Pick]"], unfollowed := true, recurses := true, apart := false, narrowed := true }
def PlainSolvesUptoSaid : Prop := plainSolvesUptoRow.holds Tryz.pinned (OpenSpec.upto plainSolvesSpec)

/-- 'compradorlaw17.PlainAsks', WHERE WHAT IT READS IS OF BULK AT MOST 1048576: true; the input reads as it did. -/
def plainAsksUptoRow : OpenClaim := { program := "ytkmolhmdikjmpaagreat", sum := "a83ef8d3cf393196aeae4130c145c9c83b2cff5c81df9d468264a10be1981157", func := "comprador/compradorlaw17.PlainAsks", spec := "plainAsks", inPlace := ["slices.overlaps[comprador/api.Pick]"], unfollowed := true, recurses := true, apart := false, narrowed := true }
def PlainAsksUptoSaid : Prop := plainAsksUptoRow.holds Tryz.pinned (OpenSpec.upto plainAsksSpec)

/-- 'compradorlaw17.PlainHolds', WHERE WHAT IT READS IS OF BULK AT MOST 1048576: true; the input reads as it did. -/
def plainHoldsUptoRow : OpenClaim := { program := "ytkmolhmdikjmpaagreat", sum := "a83ef8d3cf393196aeae4130c145c9c83b2cff5c81df9d468264a10be1981157", func := "comprador/compradorlaw17.PlainHolds", spec := "plainHolds", inPlace := ["slices.overlaps[comprador/api.Pick]"], unfollowed := true, recurses := true, apart := false, narrowed := true }
def PlainHoldsUptoSaid : Prop := plainHoldsUptoRow.holds Tryz.pinned (OpenSpec.upto plainHoldsSpec)

end Rows
end Go.Proofs.YtkmolhmdikjmpaaGreat
