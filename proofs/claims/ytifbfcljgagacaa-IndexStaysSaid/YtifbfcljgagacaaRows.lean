/-
  No cell of these rows narrows 'for every input' (looked for: loops, veiled, ifaces, maps, wideKeys, modest, calm, conditions, laid).
  DERIVED. THE GIVEN ROWS OF THIS SEAT. 13 by the template 'for every input the law returns true; each argument reads behind the call as it read before'; 0 by the template 'total and deterministic' (their statements: YtifbfcljgagacaaTotals.lean).
  GIVEN WITH THE SEED: the statements are not yours to turn. If you find one false, say at which input.
  Laid BY PROGRAM, IN A SANDBOX (cutbox-rows.mjs): the forced cells as the released guide's own fill.sh prints them over the translation 0f96939f3e7018c2… (all of the seat's roots in one cut). By AI agents, Wed Nov 11 2026. No macro, syntax, notation, axiom, sorry.
-/
import Derived.Test.YtifbfcljgagacaaChecked
import GoSem.Claim
import GoSem.ClaimJoined
import GoSem.ClaimMapViews
import Derived.JoinedTies
import Derived.KernelRfl
namespace Go.Proofs.Ytifbfcljgagacaa
/- THE CELL 'sum', in the pinned program and in every row, IS THE sha256 OF THE DUMP (.gsa) THAT YtifbfcljgagacaaProg.lean LOADS. Nothing in Lean hashes anything: it is a label: what it is worth is what the hold of that sum in a sandbox is worth. -/
noncomputable def Try.pinned : Pinned := { name := "ytifbfcljgagacaa", sum := "0f96939f3e7018c295a402d22364cda3304891a69fe2d9d27a9e9e37ec5beae7", checked := Try.checked }
namespace Rows
def none {H : Type} : Left H := { results := [], args := [] }

/-- 'compradorlaw01.VlqOrder': WHATEVER THE INPUT: true; the input reads as it did. -/
def vlqOrderSpec : ChangeSpec := { name := "vlqOrder", fn := fun _ => fun
  | [d1, d2] => { results := [.lit (.bool true)], args := [d1, d2] }
  | _ => none }
def vlqOrderRow : OpenClaim := { program := "ytifbfcljgagacaa", sum := "0f96939f3e7018c295a402d22364cda3304891a69fe2d9d27a9e9e37ec5beae7", func := "comprador/compradorlaw01.VlqOrder", spec := "vlqOrder", apart := false }
def VlqOrderSaid : Prop := vlqOrderRow.holds Try.pinned (OpenSpec.ofChange vlqOrderSpec)

/-- ITS FALSE NEIGHBOUR: 'it returns false'. Refute it at one input. -/
def vlqOrderWrong : ChangeSpec := { name := "vlqOrder", fn := fun _ => fun
  | [d1, d2] => { results := [.lit (.bool false)], args := [d1, d2] }
  | _ => none }
def VlqOrderWrongFalsely : Prop := vlqOrderRow.holds Try.pinned (OpenSpec.ofChange vlqOrderWrong)

/-- 'compradorlaw01.VlqPuts': WHATEVER THE INPUT: true; the input reads as it did. -/
def vlqPutsSpec : ChangeSpec := { name := "vlqPuts", fn := fun _ => fun
  | [d1, d2, d3] => { results := [.lit (.bool true)], args := [d1, d2, d3] }
  | _ => none }
def vlqPutsRow : OpenClaim := { program := "ytifbfcljgagacaa", sum := "0f96939f3e7018c295a402d22364cda3304891a69fe2d9d27a9e9e37ec5beae7", func := "comprador/compradorlaw01.VlqPuts", spec := "vlqPuts", apart := false }
def VlqPutsSaid : Prop := vlqPutsRow.holds Try.pinned (OpenSpec.ofChange vlqPutsSpec)

/-- ITS FALSE NEIGHBOUR: 'it returns false'. Refute it at one input. -/
def vlqPutsWrong : ChangeSpec := { name := "vlqPuts", fn := fun _ => fun
  | [d1, d2, d3] => { results := [.lit (.bool false)], args := [d1, d2, d3] }
  | _ => none }
def VlqPutsWrongFalsely : Prop := vlqPutsRow.holds Try.pinned (OpenSpec.ofChange vlqPutsWrong)

/-- 'compradorlaw01.VlqBack': WHATEVER THE INPUT: true; the input reads as it did. -/
def vlqBackSpec : ChangeSpec := { name := "vlqBack", fn := fun _ => fun
  | [d1, d2, d3] => { results := [.lit (.bool true)], args := [d1, d2, d3] }
  | _ => none }
def vlqBackRow : OpenClaim := { program := "ytifbfcljgagacaa", sum := "0f96939f3e7018c295a402d22364cda3304891a69fe2d9d27a9e9e37ec5beae7", func := "comprador/compradorlaw01.VlqBack", spec := "vlqBack", apart := false }
def VlqBackSaid : Prop := vlqBackRow.holds Try.pinned (OpenSpec.ofChange vlqBackSpec)

/-- ITS FALSE NEIGHBOUR: 'it returns false'. Refute it at one input. -/
def vlqBackWrong : ChangeSpec := { name := "vlqBack", fn := fun _ => fun
  | [d1, d2, d3] => { results := [.lit (.bool false)], args := [d1, d2, d3] }
  | _ => none }
def VlqBackWrongFalsely : Prop := vlqBackRow.holds Try.pinned (OpenSpec.ofChange vlqBackWrong)

/-- 'compradorlaw01.VlqReads': WHATEVER THE INPUT: true; the input reads as it did. -/
def vlqReadsSpec : ChangeSpec := { name := "vlqReads", fn := fun _ => fun
  | [d1, d2] => { results := [.lit (.bool true)], args := [d1, d2] }
  | _ => none }
def vlqReadsRow : OpenClaim := { program := "ytifbfcljgagacaa", sum := "0f96939f3e7018c295a402d22364cda3304891a69fe2d9d27a9e9e37ec5beae7", func := "comprador/compradorlaw01.VlqReads", spec := "vlqReads", apart := false }
def VlqReadsSaid : Prop := vlqReadsRow.holds Try.pinned (OpenSpec.ofChange vlqReadsSpec)

/-- ITS FALSE NEIGHBOUR: 'it returns false'. Refute it at one input. -/
def vlqReadsWrong : ChangeSpec := { name := "vlqReads", fn := fun _ => fun
  | [d1, d2] => { results := [.lit (.bool false)], args := [d1, d2] }
  | _ => none }
def VlqReadsWrongFalsely : Prop := vlqReadsRow.holds Try.pinned (OpenSpec.ofChange vlqReadsWrong)

/-- 'compradorlaw11.SealPacks': WHATEVER THE INPUT: true; the input reads as it did. -/
def sealPacksSpec : ChangeSpec := { name := "sealPacks", fn := fun _ => fun
  | [d1, d2, d3] => { results := [.lit (.bool true)], args := [d1, d2, d3] }
  | _ => none }
def sealPacksRow : OpenClaim := { program := "ytifbfcljgagacaa", sum := "0f96939f3e7018c295a402d22364cda3304891a69fe2d9d27a9e9e37ec5beae7", func := "comprador/compradorlaw11.SealPacks", spec := "sealPacks", apart := false }
def SealPacksSaid : Prop := sealPacksRow.holds Try.pinned (OpenSpec.ofChange sealPacksSpec)

/-- ITS FALSE NEIGHBOUR: 'it returns false'. Refute it at one input. -/
def sealPacksWrong : ChangeSpec := { name := "sealPacks", fn := fun _ => fun
  | [d1, d2, d3] => { results := [.lit (.bool false)], args := [d1, d2, d3] }
  | _ => none }
def SealPacksWrongFalsely : Prop := sealPacksRow.holds Try.pinned (OpenSpec.ofChange sealPacksWrong)

/-- 'compradorlaw11.SealBack': WHATEVER THE INPUT: true; the input reads as it did. -/
def sealBackSpec : ChangeSpec := { name := "sealBack", fn := fun _ => fun
  | [d1, d2, d3] => { results := [.lit (.bool true)], args := [d1, d2, d3] }
  | _ => none }
def sealBackRow : OpenClaim := { program := "ytifbfcljgagacaa", sum := "0f96939f3e7018c295a402d22364cda3304891a69fe2d9d27a9e9e37ec5beae7", func := "comprador/compradorlaw11.SealBack", spec := "sealBack", apart := false }
def SealBackSaid : Prop := sealBackRow.holds Try.pinned (OpenSpec.ofChange sealBackSpec)

/-- ITS FALSE NEIGHBOUR: 'it returns false'. Refute it at one input. -/
def sealBackWrong : ChangeSpec := { name := "sealBack", fn := fun _ => fun
  | [d1, d2, d3] => { results := [.lit (.bool false)], args := [d1, d2, d3] }
  | _ => none }
def SealBackWrongFalsely : Prop := sealBackRow.holds Try.pinned (OpenSpec.ofChange sealBackWrong)

/-- 'compradorlaw10.WirePuts': WHATEVER THE INPUT: true; the input reads as it did. -/
def wirePutsSpec : ChangeSpec := { name := "wirePuts", fn := fun _ => fun
  | [d1, d2] => { results := [.lit (.bool true)], args := [d1, d2] }
  | _ => none }
def wirePutsRow : OpenClaim := { program := "ytifbfcljgagacaa", sum := "0f96939f3e7018c295a402d22364cda3304891a69fe2d9d27a9e9e37ec5beae7", func := "comprador/compradorlaw10.WirePuts", spec := "wirePuts", unfollowed := true, recurses := true, apart := false }
def WirePutsSaid : Prop := wirePutsRow.holds Try.pinned (OpenSpec.ofChange wirePutsSpec)

/-- ITS FALSE NEIGHBOUR: 'it returns false'. Refute it at one input. -/
def wirePutsWrong : ChangeSpec := { name := "wirePuts", fn := fun _ => fun
  | [d1, d2] => { results := [.lit (.bool false)], args := [d1, d2] }
  | _ => none }
def WirePutsWrongFalsely : Prop := wirePutsRow.holds Try.pinned (OpenSpec.ofChange wirePutsWrong)

/-- 'compradorlaw10.WireBack': WHATEVER THE INPUT: true; the input reads as it did. -/
def wireBackSpec : ChangeSpec := { name := "wireBack", fn := fun _ => fun
  | [d1, d2] => { results := [.lit (.bool true)], args := [d1, d2] }
  | _ => none }
def wireBackRow : OpenClaim := { program := "ytifbfcljgagacaa", sum := "0f96939f3e7018c295a402d22364cda3304891a69fe2d9d27a9e9e37ec5beae7", func := "comprador/compradorlaw10.WireBack", spec := "wireBack", unfollowed := true, recurses := true, apart := false }
def WireBackSaid : Prop := wireBackRow.holds Try.pinned (OpenSpec.ofChange wireBackSpec)

/-- ITS FALSE NEIGHBOUR: 'it returns false'. Refute it at one input. -/
def wireBackWrong : ChangeSpec := { name := "wireBack", fn := fun _ => fun
  | [d1, d2] => { results := [.lit (.bool false)], args := [d1, d2] }
  | _ => none }
def WireBackWrongFalsely : Prop := wireBackRow.holds Try.pinned (OpenSpec.ofChange wireBackWrong)

/-- 'compradorlaw42.EventChecks': WHATEVER THE INPUT: true; the input reads as it did. -/
def eventChecksSpec : ChangeSpec := { name := "eventChecks", fn := fun _ => fun
  | [d1, d2] => { results := [.lit (.bool true)], args := [d1, d2] }
  | _ => none }
def eventChecksRow : OpenClaim := { program := "ytifbfcljgagacaa", sum := "0f96939f3e7018c295a402d22364cda3304891a69fe2d9d27a9e9e37ec5beae7", func := "comprador/compradorlaw42.EventChecks", spec := "eventChecks", unfollowed := true, recurses := true, apart := false }
def EventChecksSaid : Prop := eventChecksRow.holds Try.pinned (OpenSpec.ofChange eventChecksSpec)

/-- ITS FALSE NEIGHBOUR: 'it returns false'. Refute it at one input. -/
def eventChecksWrong : ChangeSpec := { name := "eventChecks", fn := fun _ => fun
  | [d1, d2] => { results := [.lit (.bool false)], args := [d1, d2] }
  | _ => none }
def EventChecksWrongFalsely : Prop := eventChecksRow.holds Try.pinned (OpenSpec.ofChange eventChecksWrong)

/-- 'compradorlaw21.ProofBytes': WHATEVER THE INPUT: true; the input reads as it did. -/
def proofBytesSpec : ChangeSpec := { name := "proofBytes", fn := fun _ => fun
  | [d1, d2] => { results := [.lit (.bool true)], args := [d1, d2] }
  | _ => none }
def proofBytesRow : OpenClaim := { program := "ytifbfcljgagacaa", sum := "0f96939f3e7018c295a402d22364cda3304891a69fe2d9d27a9e9e37ec5beae7", func := "comprador/compradorlaw21.ProofBytes", spec := "proofBytes", unfollowed := true, recurses := true, apart := false }
def ProofBytesSaid : Prop := proofBytesRow.holds Try.pinned (OpenSpec.ofChange proofBytesSpec)

/-- ITS FALSE NEIGHBOUR: 'it returns false'. Refute it at one input. -/
def proofBytesWrong : ChangeSpec := { name := "proofBytes", fn := fun _ => fun
  | [d1, d2] => { results := [.lit (.bool false)], args := [d1, d2] }
  | _ => none }
def ProofBytesWrongFalsely : Prop := proofBytesRow.holds Try.pinned (OpenSpec.ofChange proofBytesWrong)

/-- 'compradorlaw23.TrailFalls': WHATEVER THE INPUT: true; the input reads as it did. -/
def trailFallsSpec : ChangeSpec := { name := "trailFalls", fn := fun _ => fun
  | [d1, d2, d3] => { results := [.lit (.bool true)], args := [d1, d2, d3] }
  | _ => none }
def trailFallsRow : OpenClaim := { program := "ytifbfcljgagacaa", sum := "0f96939f3e7018c295a402d22364cda3304891a69fe2d9d27a9e9e37ec5beae7", func := "comprador/compradorlaw23.TrailFalls", spec := "trailFalls", unfollowed := true, recurses := true, apart := false }
def TrailFallsSaid : Prop := trailFallsRow.holds Try.pinned (OpenSpec.ofChange trailFallsSpec)

/-- ITS FALSE NEIGHBOUR: 'it returns false'. Refute it at one input. -/
def trailFallsWrong : ChangeSpec := { name := "trailFalls", fn := fun _ => fun
  | [d1, d2, d3] => { results := [.lit (.bool false)], args := [d1, d2, d3] }
  | _ => none }
def TrailFallsWrongFalsely : Prop := trailFallsRow.holds Try.pinned (OpenSpec.ofChange trailFallsWrong)

/-- 'compradorlaw13.IndexStays': WHATEVER THE INPUT: true; the input reads as it did. -/
def indexStaysSpec : ChangeSpec := { name := "indexStays", fn := fun _ => fun
  | [d] => { results := [.lit (.bool true)], args := [d] }
  | _ => none }
def indexStaysRow : OpenClaim := { program := "ytifbfcljgagacaa", sum := "0f96939f3e7018c295a402d22364cda3304891a69fe2d9d27a9e9e37ec5beae7", func := "comprador/compradorlaw13.IndexStays", spec := "indexStays", unfollowed := true, recurses := true, apart := false }
def IndexStaysSaid : Prop := indexStaysRow.holds Try.pinned (OpenSpec.ofChange indexStaysSpec)

/-- ITS FALSE NEIGHBOUR: 'it returns false'. Refute it at one input. -/
def indexStaysWrong : ChangeSpec := { name := "indexStays", fn := fun _ => fun
  | [d] => { results := [.lit (.bool false)], args := [d] }
  | _ => none }
def IndexStaysWrongFalsely : Prop := indexStaysRow.holds Try.pinned (OpenSpec.ofChange indexStaysWrong)

/-- 'compradorlaw45.StandRight': WHATEVER THE INPUT: true; the input reads as it did. -/
def standRightSpec : ChangeSpec := { name := "standRight", fn := fun _ => fun
  | [d1, d2, d3] => { results := [.lit (.bool true)], args := [d1, d2, d3] }
  | _ => none }
def standRightRow : OpenClaim := { program := "ytifbfcljgagacaa", sum := "0f96939f3e7018c295a402d22364cda3304891a69fe2d9d27a9e9e37ec5beae7", func := "comprador/compradorlaw45.StandRight", spec := "standRight", inPlace := ["internal/bytealg.abigen_runtime_cmpstring"], unfollowed := true, recurses := true, apart := false }
def StandRightSaid : Prop := standRightRow.holds Try.pinned (OpenSpec.ofChange standRightSpec)

/-- ITS FALSE NEIGHBOUR: 'it returns false'. Refute it at one input. -/
def standRightWrong : ChangeSpec := { name := "standRight", fn := fun _ => fun
  | [d1, d2, d3] => { results := [.lit (.bool false)], args := [d1, d2, d3] }
  | _ => none }
def StandRightWrongFalsely : Prop := standRightRow.holds Try.pinned (OpenSpec.ofChange standRightWrong)

/- THE SECOND FORM. 'bulk': how many values and letters a reading holds, each counted each time it is reached (what is shared counts as often as it is met; a slice's spare places count too). A statement '..UptoSaid' is the law's where the arguments, and the package variables that the reading takes, are together of bulk at most 1048576: NARROWER than '..Said'. Prove '..Said' where nothing that the law and all that it calls make is longer than what came in: it says more and counts as full. Else prove '..UptoSaid'. A law counts once. -/
mutual
def uptoBulk {H : Type} : DataW H → Nat
  | .lit (.string bytes) => bytes.length + 1
  | .lit _ => 1
  | .nil => 1
  | .ptr d => uptoBulk d + 1
  | .slice elems spare => uptoBulkAll elems + uptoBulkAll spare + 1
  | .agg parts => uptoBulkAll parts + 1
  | .iface _ d => uptoBulk d + 1
  | .map entries => uptoBulkEntries entries + 1
  | .held _ => 1
def uptoBulkAll {H : Type} : List (DataW H) → Nat
  | [] => 0
  | d :: r => uptoBulk d + uptoBulkAll r
def uptoBulkEntries {H : Type} : List (Lit × DataW H) → Nat
  | [] => 0
  | x :: r => uptoBulkEntry x + uptoBulkEntries r
def uptoBulkEntry {H : Type} : Lit × DataW H → Nat
  | (.string bytes, d) => bytes.length + uptoBulk d + 1
  | (_, d) => uptoBulk d + 1
 end
def uptoSmall : (H : Type) → List (DataW H) → Bool := fun _ ds => decide (uptoBulkAll ds ≤ 1048576)
def OpenSpec.upto (s : _root_.Go.ChangeSpec) : _root_.Go.OpenSpec := { _root_.Go.OpenSpec.ofChange s with cond := some uptoSmall }

/-- 'compradorlaw01.VlqOrder', WHERE WHAT IT READS IS OF BULK AT MOST 1048576: true; the input reads as it did. -/
def vlqOrderUptoRow : OpenClaim := { program := "ytifbfcljgagacaa", sum := "0f96939f3e7018c295a402d22364cda3304891a69fe2d9d27a9e9e37ec5beae7", func := "comprador/compradorlaw01.VlqOrder", spec := "vlqOrder", apart := false, narrowed := true }
def VlqOrderUptoSaid : Prop := vlqOrderUptoRow.holds Try.pinned (OpenSpec.upto vlqOrderSpec)

/-- 'compradorlaw01.VlqPuts', WHERE WHAT IT READS IS OF BULK AT MOST 1048576: true; the input reads as it did. -/
def vlqPutsUptoRow : OpenClaim := { program := "ytifbfcljgagacaa", sum := "0f96939f3e7018c295a402d22364cda3304891a69fe2d9d27a9e9e37ec5beae7", func := "comprador/compradorlaw01.VlqPuts", spec := "vlqPuts", apart := false, narrowed := true }
def VlqPutsUptoSaid : Prop := vlqPutsUptoRow.holds Try.pinned (OpenSpec.upto vlqPutsSpec)

/-- 'compradorlaw01.VlqBack', WHERE WHAT IT READS IS OF BULK AT MOST 1048576: true; the input reads as it did. -/
def vlqBackUptoRow : OpenClaim := { program := "ytifbfcljgagacaa", sum := "0f96939f3e7018c295a402d22364cda3304891a69fe2d9d27a9e9e37ec5beae7", func := "comprador/compradorlaw01.VlqBack", spec := "vlqBack", apart := false, narrowed := true }
def VlqBackUptoSaid : Prop := vlqBackUptoRow.holds Try.pinned (OpenSpec.upto vlqBackSpec)

/-- 'compradorlaw01.VlqReads', WHERE WHAT IT READS IS OF BULK AT MOST 1048576: true; the input reads as it did. -/
def vlqReadsUptoRow : OpenClaim := { program := "ytifbfcljgagacaa", sum := "0f96939f3e7018c295a402d22364cda3304891a69fe2d9d27a9e9e37ec5beae7", func := "comprador/compradorlaw01.VlqReads", spec := "vlqReads", apart := false, narrowed := true }
def VlqReadsUptoSaid : Prop := vlqReadsUptoRow.holds Try.pinned (OpenSpec.upto vlqReadsSpec)

/-- 'compradorlaw11.SealPacks', WHERE WHAT IT READS IS OF BULK AT MOST 1048576: true; the input reads as it did. -/
def sealPacksUptoRow : OpenClaim := { program := "ytifbfcljgagacaa", sum := "0f96939f3e7018c295a402d22364cda3304891a69fe2d9d27a9e9e37ec5beae7", func := "comprador/compradorlaw11.SealPacks", spec := "sealPacks", apart := false, narrowed := true }
def SealPacksUptoSaid : Prop := sealPacksUptoRow.holds Try.pinned (OpenSpec.upto sealPacksSpec)

/-- 'compradorlaw11.SealBack', WHERE WHAT IT READS IS OF BULK AT MOST 1048576: true; the input reads as it did. -/
def sealBackUptoRow : OpenClaim := { program := "ytifbfcljgagacaa", sum := "0f96939f3e7018c295a402d22364cda3304891a69fe2d9d27a9e9e37ec5beae7", func := "comprador/compradorlaw11.SealBack", spec := "sealBack", apart := false, narrowed := true }
def SealBackUptoSaid : Prop := sealBackUptoRow.holds Try.pinned (OpenSpec.upto sealBackSpec)

/-- 'compradorlaw10.WirePuts', WHERE WHAT IT READS IS OF BULK AT MOST 1048576: true; the input reads as it did. -/
def wirePutsUptoRow : OpenClaim := { program := "ytifbfcljgagacaa", sum := "0f96939f3e7018c295a402d22364cda3304891a69fe2d9d27a9e9e37ec5beae7", func := "comprador/compradorlaw10.WirePuts", spec := "wirePuts", unfollowed := true, recurses := true, apart := false, narrowed := true }
def WirePutsUptoSaid : Prop := wirePutsUptoRow.holds Try.pinned (OpenSpec.upto wirePutsSpec)

/-- 'compradorlaw10.WireBack', WHERE WHAT IT READS IS OF BULK AT MOST 1048576: true; the input reads as it did. -/
def wireBackUptoRow : OpenClaim := { program := "ytifbfcljgagacaa", sum := "0f96939f3e7018c295a402d22364cda3304891a69fe2d9d27a9e9e37ec5beae7", func := "comprador/compradorlaw10.WireBack", spec := "wireBack", unfollowed := true, recurses := true, apart := false, narrowed := true }
def WireBackUptoSaid : Prop := wireBackUptoRow.holds Try.pinned (OpenSpec.upto wireBackSpec)

/-- 'compradorlaw42.EventChecks', WHERE WHAT IT READS IS OF BULK AT MOST 1048576: true; the input reads as it did. -/
def eventChecksUptoRow : OpenClaim := { program := "ytifbfcljgagacaa", sum := "0f96939f3e7018c295a402d22364cda3304891a69fe2d9d27a9e9e37ec5beae7", func := "comprador/compradorlaw42.EventChecks", spec := "eventChecks", unfollowed := true, recurses := true, apart := false, narrowed := true }
def EventChecksUptoSaid : Prop := eventChecksUptoRow.holds Try.pinned (OpenSpec.upto eventChecksSpec)

/-- 'compradorlaw21.ProofBytes', WHERE WHAT IT READS IS OF BULK AT MOST 1048576: true; the input reads as it did. -/
def proofBytesUptoRow : OpenClaim := { program := "ytifbfcljgagacaa", sum := "0f96939f3e7018c295a402d22364cda3304891a69fe2d9d27a9e9e37ec5beae7", func := "comprador/compradorlaw21.ProofBytes", spec := "proofBytes", unfollowed := true, recurses := true, apart := false, narrowed := true }
def ProofBytesUptoSaid : Prop := proofBytesUptoRow.holds Try.pinned (OpenSpec.upto proofBytesSpec)

/-- 'compradorlaw23.TrailFalls', WHERE WHAT IT READS IS OF BULK AT MOST 1048576: true; the input reads as it did. -/
def trailFallsUptoRow : OpenClaim := { program := "ytifbfcljgagacaa", sum := "0f96939f3e7018c295a402d22364cda3304891a69fe2d9d27a9e9e37ec5beae7", func := "comprador/compradorlaw23.TrailFalls", spec := "trailFalls", unfollowed := true, recurses := true, apart := false, narrowed := true }
def TrailFallsUptoSaid : Prop := trailFallsUptoRow.holds Try.pinned (OpenSpec.upto trailFallsSpec)

/-- 'compradorlaw13.IndexStays', WHERE WHAT IT READS IS OF BULK AT MOST 1048576: true; the input reads as it did. -/
def indexStaysUptoRow : OpenClaim := { program := "ytifbfcljgagacaa", sum := "0f96939f3e7018c295a402d22364cda3304891a69fe2d9d27a9e9e37ec5beae7", func := "comprador/compradorlaw13.IndexStays", spec := "indexStays", unfollowed := true, recurses := true, apart := false, narrowed := true }
def IndexStaysUptoSaid : Prop := indexStaysUptoRow.holds Try.pinned (OpenSpec.upto indexStaysSpec)

/-- 'compradorlaw45.StandRight', WHERE WHAT IT READS IS OF BULK AT MOST 1048576: true; the input reads as it did. -/
def standRightUptoRow : OpenClaim := { program := "ytifbfcljgagacaa", sum := "0f96939f3e7018c295a402d22364cda3304891a69fe2d9d27a9e9e37ec5beae7", func := "comprador/compradorlaw45.StandRight", spec := "standRight", inPlace := ["internal/bytealg.abigen_runtime_cmpstring"], unfollowed := true, recurses := true, apart := false, narrowed := true }
def StandRightUptoSaid : Prop := standRightUptoRow.holds Try.pinned (OpenSpec.upto standRightSpec)

end Rows
end Go.Proofs.Ytifbfcljgagacaa
