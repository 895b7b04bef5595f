/-
  No cell of these rows narrows 'for every input' (looked for: loops, veiled, ifaces, maps, wideKeys, modest, calm, conditions, laid).
  DERIVED. THE GIVEN ROWS OF THIS SEAT. 5 by the template 'for every input the law returns true; each argument reads behind the call as it read before'; 0 by the template 'total and deterministic' (their statements: YtihdijkpokccnaaTotals.lean).
  GIVEN WITH THE SEED: the statements are not yours to turn. If you find one false, say at which input.
  Laid BY PROGRAM, IN A SANDBOX (cutbox-rows.mjs): the forced cells as the released guide's own fill.sh prints them over the translation 5910660506ca142e… (all of the seat's roots in one cut). By AI agents, Wed Nov 11 2026. No macro, syntax, notation, axiom, sorry.
-/
import Derived.Test.YtihdijkpokccnaaChecked
import GoSem.Claim
import GoSem.ClaimJoined
import GoSem.ClaimMapViews
import Derived.JoinedTies
import Derived.KernelRfl
namespace Go.Proofs.Ytihdijkpokccnaa
/- THE CELL 'sum', in the pinned program and in every row, IS THE sha256 OF THE DUMP (.gsa) THAT YtihdijkpokccnaaProg.lean LOADS. Nothing in Lean hashes anything: it is a label: what it is worth is what the hold of that sum in a sandbox is worth. -/
noncomputable def Try.pinned : Pinned := { name := "ytihdijkpokccnaa", sum := "5910660506ca142e6a8f96be6b60b41768383e95ff7556ca314a58e2d37da924", checked := Try.checked }
namespace Rows
def none {H : Type} : Left H := { results := [], args := [] }

/-- 'compradorlaw14.ReachTells': WHATEVER THE INPUT: true; the input reads as it did. -/
def reachTellsSpec : ChangeSpec := { name := "reachTells", fn := fun _ => fun
  | [d1, d2] => { results := [.lit (.bool true)], args := [d1, d2] }
  | _ => none }
def reachTellsRow : OpenClaim := { program := "ytihdijkpokccnaa", sum := "5910660506ca142e6a8f96be6b60b41768383e95ff7556ca314a58e2d37da924", func := "comprador/compradorlaw14.ReachTells", spec := "reachTells", unfollowed := true, recurses := true, apart := false }
def ReachTellsSaid : Prop := reachTellsRow.holds Try.pinned (OpenSpec.ofChange reachTellsSpec)

/-- ITS FALSE NEIGHBOUR: 'it returns false'. Refute it at one input. -/
def reachTellsWrong : ChangeSpec := { name := "reachTells", fn := fun _ => fun
  | [d1, d2] => { results := [.lit (.bool false)], args := [d1, d2] }
  | _ => none }
def ReachTellsWrongFalsely : Prop := reachTellsRow.holds Try.pinned (OpenSpec.ofChange reachTellsWrong)

/-- 'compradorlaw14.ReachGrows': WHATEVER THE INPUT: true; the input reads as it did. -/
def reachGrowsSpec : ChangeSpec := { name := "reachGrows", fn := fun _ => fun
  | [d1, d2, d3] => { results := [.lit (.bool true)], args := [d1, d2, d3] }
  | _ => none }
def reachGrowsRow : OpenClaim := { program := "ytihdijkpokccnaa", sum := "5910660506ca142e6a8f96be6b60b41768383e95ff7556ca314a58e2d37da924", func := "comprador/compradorlaw14.ReachGrows", spec := "reachGrows", unfollowed := true, recurses := true, apart := false }
def ReachGrowsSaid : Prop := reachGrowsRow.holds Try.pinned (OpenSpec.ofChange reachGrowsSpec)

/-- ITS FALSE NEIGHBOUR: 'it returns false'. Refute it at one input. -/
def reachGrowsWrong : ChangeSpec := { name := "reachGrows", fn := fun _ => fun
  | [d1, d2, d3] => { results := [.lit (.bool false)], args := [d1, d2, d3] }
  | _ => none }
def ReachGrowsWrongFalsely : Prop := reachGrowsRow.holds Try.pinned (OpenSpec.ofChange reachGrowsWrong)

/-- 'compradorlaw38.WantLists': WHATEVER THE INPUT: true; the input reads as it did. -/
def wantListsSpec : ChangeSpec := { name := "wantLists", fn := fun _ => fun
  | [d1, d2, d3] => { results := [.lit (.bool true)], args := [d1, d2, d3] }
  | _ => none }
def wantListsRow : OpenClaim := { program := "ytihdijkpokccnaa", sum := "5910660506ca142e6a8f96be6b60b41768383e95ff7556ca314a58e2d37da924", func := "comprador/compradorlaw38.WantLists", spec := "wantLists", unfollowed := true, recurses := true, apart := false }
def WantListsSaid : Prop := wantListsRow.holds Try.pinned (OpenSpec.ofChange wantListsSpec)

/-- ITS FALSE NEIGHBOUR: 'it returns false'. Refute it at one input. -/
def wantListsWrong : ChangeSpec := { name := "wantLists", fn := fun _ => fun
  | [d1, d2, d3] => { results := [.lit (.bool false)], args := [d1, d2, d3] }
  | _ => none }
def WantListsWrongFalsely : Prop := wantListsRow.holds Try.pinned (OpenSpec.ofChange wantListsWrong)

/-- 'compradorlaw38.WantOnce': WHATEVER THE INPUT: true; the input reads as it did. -/
def wantOnceSpec : ChangeSpec := { name := "wantOnce", fn := fun _ => fun
  | [d1, d2, d3] => { results := [.lit (.bool true)], args := [d1, d2, d3] }
  | _ => none }
def wantOnceRow : OpenClaim := { program := "ytihdijkpokccnaa", sum := "5910660506ca142e6a8f96be6b60b41768383e95ff7556ca314a58e2d37da924", func := "comprador/compradorlaw38.WantOnce", spec := "wantOnce", unfollowed := true, recurses := true, apart := false }
def WantOnceSaid : Prop := wantOnceRow.holds Try.pinned (OpenSpec.ofChange wantOnceSpec)

/-- ITS FALSE NEIGHBOUR: 'it returns false'. Refute it at one input. -/
def wantOnceWrong : ChangeSpec := { name := "wantOnce", fn := fun _ => fun
  | [d1, d2, d3] => { results := [.lit (.bool false)], args := [d1, d2, d3] }
  | _ => none }
def WantOnceWrongFalsely : Prop := wantOnceRow.holds Try.pinned (OpenSpec.ofChange wantOnceWrong)

/-- 'compradorlaw16.FitGrows': WHATEVER THE INPUT: true; the input reads as it did. -/
def fitGrowsSpec : ChangeSpec := { name := "fitGrows", fn := fun _ => fun
  | [d1, d2, d3] => { results := [.lit (.bool true)], args := [d1, d2, d3] }
  | _ => none }
def fitGrowsRow : OpenClaim := { program := "ytihdijkpokccnaa", sum := "5910660506ca142e6a8f96be6b60b41768383e95ff7556ca314a58e2d37da924", func := "comprador/compradorlaw16.FitGrows", spec := "fitGrows", unfollowed := true, recurses := true, apart := false }
def FitGrowsSaid : Prop := fitGrowsRow.holds Try.pinned (OpenSpec.ofChange fitGrowsSpec)

/-- ITS FALSE NEIGHBOUR: 'it returns false'. Refute it at one input. -/
def fitGrowsWrong : ChangeSpec := { name := "fitGrows", fn := fun _ => fun
  | [d1, d2, d3] => { results := [.lit (.bool false)], args := [d1, d2, d3] }
  | _ => none }
def FitGrowsWrongFalsely : Prop := fitGrowsRow.holds Try.pinned (OpenSpec.ofChange fitGrowsWrong)

/- THE SECOND FORM. 'bulk': how many values and letters a reading holds, each counted each time it is reached (what is shared counts as often as it is met; a slice's spare places count too). A statement '..UptoSaid' is the law's where the arguments, and the package variables that the reading takes, are together of bulk at most 1048576: NARROWER than '..Said'. Prove '..Said' where nothing that the law and all that it calls make is longer than what came in: it says more and counts as full. Else prove '..UptoSaid'. A law counts once. -/
mutual
def uptoBulk {H : Type} : DataW H → Nat
  | .lit (.string bytes) => bytes.length + 1
  | .lit _ => 1
  | .nil => 1
  | .ptr d => uptoBulk d + 1
  | .slice elems spare => uptoBulkAll elems + uptoBulkAll spare + 1
  | .agg parts => uptoBulkAll parts + 1
  | .iface _ d => uptoBulk d + 1
  | .map entries => uptoBulkEntries entries + 1
  | .held _ => 1
def uptoBulkAll {H : Type} : List (DataW H) → Nat
  | [] => 0
  | d :: r => uptoBulk d + uptoBulkAll r
def uptoBulkEntries {H : Type} : List (Lit × DataW H) → Nat
  | [] => 0
  | x :: r => uptoBulkEntry x + uptoBulkEntries r
def uptoBulkEntry {H : Type} : Lit × DataW H → Nat
  | (.string bytes, d) => bytes.length + uptoBulk d + 1
  | (_, d) => uptoBulk d + 1
 end
def uptoSmall : (H : Type) → List (DataW H) → Bool := fun _ ds => decide (uptoBulkAll ds ≤ 1048576)
def OpenSpec.upto (s : _root_.Go.ChangeSpec) : _root_.Go.OpenSpec := { _root_.Go.OpenSpec.ofChange s with cond := some uptoSmall }

/-- 'compradorlaw14.ReachTells', WHERE WHAT IT READS IS OF BULK AT MOST 1048576: true; the input reads as it did. -/
def reachTellsUptoRow : OpenClaim := { program := "ytihdijkpokccnaa", sum := "5910660506ca142e6a8f96be6b60b41768383e95ff7556ca314a58e2d37da924", func := "comprador/compradorlaw14.ReachTells", spec := "reachTells", unfollowed := true, recurses := true, apart := false, narrowed := true }
def ReachTellsUptoSaid : Prop := reachTellsUptoRow.holds Try.pinned (OpenSpec.upto reachTellsSpec)

/-- 'compradorlaw14.ReachGrows', WHERE WHAT IT READS IS OF BULK AT MOST 1048576: true; the input reads as it did. -/
def reachGrowsUptoRow : OpenClaim := { program := "ytihdijkpokccnaa", sum := "5910660506ca142e6a8f96be6b60b41768383e95ff7556ca314a58e2d37da924", func := "comprador/compradorlaw14.ReachGrows", spec := "reachGrows", unfollowed := true, recurses := true, apart := false, narrowed := true }
def ReachGrowsUptoSaid : Prop := reachGrowsUptoRow.holds Try.pinned (OpenSpec.upto reachGrowsSpec)

/-- 'compradorlaw38.WantLists', WHERE WHAT IT READS IS OF BULK AT MOST 1048576: true; the input reads as it did. -/
def wantListsUptoRow : OpenClaim := { program := "ytihdijkpokccnaa", sum := "5910660506ca142e6a8f96be6b60b41768383e95ff7556ca314a58e2d37da924", func := "comprador/compradorlaw38.WantLists", spec := "wantLists", unfollowed := true, recurses := true, apart := false, narrowed := true }
def WantListsUptoSaid : Prop := wantListsUptoRow.holds Try.pinned (OpenSpec.upto wantListsSpec)

/-- 'compradorlaw38.WantOnce', WHERE WHAT IT READS IS OF BULK AT MOST 1048576: true; the input reads as it did. -/
def wantOnceUptoRow : OpenClaim := { program := "ytihdijkpokccnaa", sum := "5910660506ca142e6a8f96be6b60b41768383e95ff7556ca314a58e2d37da924", func := "comprador/compradorlaw38.WantOnce", spec := "wantOnce", unfollowed := true, recurses := true, apart := false, narrowed := true }
def WantOnceUptoSaid : Prop := wantOnceUptoRow.holds Try.pinned (OpenSpec.upto wantOnceSpec)

/-- 'compradorlaw16.FitGrows', WHERE WHAT IT READS IS OF BULK AT MOST 1048576: true; the input reads as it did. -/
def fitGrowsUptoRow : OpenClaim := { program := "ytihdijkpokccnaa", sum := "5910660506ca142e6a8f96be6b60b41768383e95ff7556ca314a58e2d37da924", func := "comprador/compradorlaw16.FitGrows", spec := "fitGrows", unfollowed := true, recurses := true, apart := false, narrowed := true }
def FitGrowsUptoSaid : Prop := fitGrowsUptoRow.holds Try.pinned (OpenSpec.upto fitGrowsSpec)

end Rows
end Go.Proofs.Ytihdijkpokccnaa
