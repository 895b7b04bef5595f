/- Q6: several of this proof's own texts, one behind the other: what each proves stands at its head. -/
import Derived.Test.YtbjcdgepclmmjaaDoorProg
import Derived.Test.YtbjcdgepclmmjaaDoorA3
import Derived.Test.YtbjcdgepclmmjaaDoorQ5
import Derived.Lib.Split
import Derived.Lib.Join
section
/- Printed: what the code of functions 89, 90, 71, 70, 53, 54 asks for, by the framework's own reading of it; each line is checked against the code. -/

set_option linter.unusedVariables false
set_option maxRecDepth 100000
set_option maxHeartbeats 4000000
open Go Go.Ab Go.Proofs
namespace D
noncomputable section

noncomputable def retL : List (Nat × Ret) := [
  (71, ⟨(Int × Int × Int) × Bool, fun _ _ x => .tup [.agg [.int .i64 x.1.1, .int .i64 x.1.2.1, .int .i64 x.1.2.2], .bool x.2], fun _ H _ => H⟩),
  (54, ⟨ByteArray, fun _ _ x => .str x, fun _ H _ => H⟩),
  (89, ⟨Unit, fun _ _ x => .agg [.int .i64 1000000, .int .i64 1000, .int .i64 1], fun _ H _ => H⟩),
  (90, ⟨Bool, fun _ _ x => .bool x, fun _ H _ => H⟩),
  (70, ⟨Int × Bool, fun _ _ x => .tup [.int .i64 x.1, .bool x.2], fun _ H _ => H⟩),
  (53, ⟨Int × Bool, fun _ _ x => .tup [.int .i64 x.1, .bool x.2], fun _ H _ => H⟩),
  (72, ⟨ByteArray, fun _ _ x => .str x, fun _ H _ => H⟩)]
noncomputable def rets : FuncId → List Ret := lookupR retL

-- 89
noncomputable def l89 : Nat → List Nat
  | _ => []
noncomputable def u89 : Nat → Bool
  | _ => false
noncomputable def m89 : Nat → Bool
  | _ => false
noncomputable def g89 : Cfg := { N := 2, live := l89, cut := u89, mu := m89, ret := rets }
theorem s89 : ∀ (Post : AV → List AObj → Prop),
  Post (AV.agg [AV.int IntKind.i64 (1000000 : Int), AV.int IntKind.i64 (1000 : Int), AV.int IntKind.i64 (1 : Int)])
      [AObj.cells [AV.int IntKind.i64 (1000000 : Int), AV.int IntKind.i64 (1000 : Int), AV.int IntKind.i64 (1 : Int)]] →
    ASpec Tryd.prog 89 [] [] Post := fun Post h => Go.Ab.ASpec.of_vc g89 Go.Proofs.Tryd.func89 (by kernel_rfl) (by kernel_rfl) (by kernel_rfl) (Go.Ab.kc (by kernel_rfl) h)

-- 90
noncomputable def l90 : Nat → List Nat
  | _ => []
noncomputable def u90 : Nat → Bool
  | _ => false
noncomputable def m90 : Nat → Bool
  | _ => false
noncomputable def g90 : Cfg := { N := 9, live := l90, cut := u90, mu := m90, ret := rets }
theorem s90 : ∀ (p : Int) (Post : AV → List AObj → Prop),
  condP (decide (p ≥ (0 : Int))) (Post (AV.bool (decide (p < (1000000000 : Int)))) []) (Post (AV.bool false) []) → ASpec Tryd.prog 90 [AV.int IntKind.i64 p] [] Post := fun p Post h => Go.Ab.ASpec.of_vc g90 Go.Proofs.Tryd.func90 (by kernel_rfl) (by kernel_rfl) (by kernel_rfl) (Go.Ab.kc (by kernel_rfl) h)

-- 71
noncomputable def l71 : Nat → List Nat
  | 5 => [0, 2, 4, 12, 13]
  | _ => []
noncomputable def u71 : Nat → Bool
  | _ => false
noncomputable def m71 : Nat → Bool
  | _ => false
noncomputable def g71 : Cfg := { N := 25, live := l71, cut := u71, mu := m71, ret := rets }
noncomputable def c71 : Go.Code := Go.Ab.bodyOf Go.Proofs.Tryd.f71
noncomputable def q71_0 : Nat → (AV → List AObj → Prop) → AQ := fun (n : Nat) (Post : AV → List AObj → Prop) => endQ Tryd.prog (resultsOf Tryd.f71) Post
noncomputable def q71_1 : Nat → (AV → List AObj → Prop) → AQ := fun (n : Nat) (Post : AV → List AObj → Prop) => seqQ (fun (s' : Slots) (H' : List AObj) => awp Tryd.prog g71 n (codeSnd (codeSnd (codeSnd (codeSnd c71)))) s' H' (q71_0 n Post)) (q71_0 n Post)
noncomputable def q71_2 : Nat → (AV → List AObj → Prop) → AQ := fun (n : Nat) (Post : AV → List AObj → Prop) => blockQ 0 (q71_1 n Post)
noncomputable def c71_5 : Go.Code := codeFst (codeSnd (codeFst (codeSnd (codeSnd (codeSnd c71)))))
theorem s71 : ∀ (p : Int) (Post : AV → List AObj → Prop),
  (ASpec Tryd.prog 90 [AV.int IntKind.i64 p]
      [AObj.cells [AV.int IntKind.i64 (0 : Int), AV.int IntKind.i64 (0 : Int), AV.int IntKind.i64 (0 : Int)],
        AObj.cells [AV.int IntKind.i64 (0 : Int), AV.int IntKind.i64 (0 : Int), AV.int IntKind.i64 (0 : Int)]]
      fun (r : AV) (H' : List AObj) =>
      ∃ (x : Bool),
        r = AV.bool x ∧
        H' =
        [AObj.cells [AV.int IntKind.i64 (0 : Int), AV.int IntKind.i64 (0 : Int), AV.int IntKind.i64 (0 : Int)],
        AObj.cells [AV.int IntKind.i64 (0 : Int), AV.int IntKind.i64 (0 : Int), AV.int IntKind.i64 (0 : Int)]] ∧
        condP (!x)
        (Post (AV.tup [AV.agg [AV.int IntKind.i64 (0 : Int), AV.int IntKind.i64 (0 : Int), AV.int IntKind.i64 (0 : Int)], AV.bool false])
        [AObj.cells [AV.int IntKind.i64 (0 : Int), AV.int IntKind.i64 (0 : Int), AV.int IntKind.i64 (0 : Int)],
        AObj.cells [AV.int IntKind.i64 (0 : Int), AV.int IntKind.i64 (0 : Int), AV.int IntKind.i64 (0 : Int)]])
        (ASpec Tryd.prog 89 []
        [AObj.cells [AV.int IntKind.i64 (0 : Int), AV.int IntKind.i64 (0 : Int), AV.int IntKind.i64 (0 : Int)],
        AObj.cells [AV.int IntKind.i64 (0 : Int), AV.int IntKind.i64 (0 : Int), AV.int IntKind.i64 (0 : Int)]]
        fun (r : AV) (H' : List AObj) =>
        ∃ (x : Unit),
        r = AV.agg [AV.int IntKind.i64 (1000000 : Int), AV.int IntKind.i64 (1000 : Int), AV.int IntKind.i64 (1 : Int)] ∧
        H' =
        [AObj.cells [AV.int IntKind.i64 (0 : Int), AV.int IntKind.i64 (0 : Int), AV.int IntKind.i64 (0 : Int)],
        AObj.cells [AV.int IntKind.i64 (0 : Int), AV.int IntKind.i64 (0 : Int), AV.int IntKind.i64 (0 : Int)]] ∧
        AWP Tryd.prog 25 0 c71_5
        [(0, AV.int IntKind.i64 p), (2, AV.ptr 0 0), (4, AV.ptr 1 0),
        (12, AV.agg [AV.int IntKind.i64 (1000000 : Int), AV.int IntKind.i64 (1000 : Int), AV.int IntKind.i64 (1 : Int)]), (13, AV.int IntKind.i64 (0 : Int))]
        [AObj.cells [AV.int IntKind.i64 (0 : Int), AV.int IntKind.i64 (0 : Int), AV.int IntKind.i64 (0 : Int)],
        AObj.cells [AV.int IntKind.i64 (0 : Int), AV.int IntKind.i64 (0 : Int), AV.int IntKind.i64 (0 : Int)]]
        (q71_2 0 Post))) →
    ASpec Tryd.prog 71 [AV.int IntKind.i64 p] [] Post := fun p Post h => Go.Ab.ASpec.of_vc g71 Go.Proofs.Tryd.func71 (by kernel_rfl) (by kernel_rfl) (by kernel_rfl) (Go.Ab.kc (by kernel_rfl) h)
theorem v71_5a : ∀ (p x y z : Int) (n : Nat) (Post : AV → List AObj → Prop),
  needP ((0 : Int) ≤ (0 : Int) ∧ (0 : Int) < (3 : Int))
      (needP ((1000000 : Int) ≠ (0 : Int))
        (needP ((1000 : Int) ≠ (0 : Int))
        (needP ((0 : Int) ≤ (0 : Int) ∧ (0 : Int) < (3 : Int))
        (AWP Tryd.prog 25 n c71_5
        [(0, AV.int IntKind.i64 p), (2, AV.ptr 0 0), (4, AV.ptr 1 0),
        (12, AV.agg [AV.int IntKind.i64 (1000000 : Int), AV.int IntKind.i64 (1000 : Int), AV.int IntKind.i64 (1 : Int)]), (13, AV.int IntKind.i64 (1 : Int))]
        [AObj.cells [AV.int IntKind.i64 (0 : Int), AV.int IntKind.i64 (0 : Int), AV.int IntKind.i64 (0 : Int)],
        AObj.cells [AV.int IntKind.i64 (Int.tmod (IntKind.wrap IntKind.i64 (Int.tdiv p (1000000 : Int))) (1000 : Int)), AV.int IntKind.i64 y, AV.int IntKind.i64 z]]
        (q71_2 n Post))))) →
    AWP Tryd.prog 25 n c71_5
      [(0, AV.int IntKind.i64 p), (2, AV.ptr 0 0), (4, AV.ptr 1 0),
        (12, AV.agg [AV.int IntKind.i64 (1000000 : Int), AV.int IntKind.i64 (1000 : Int), AV.int IntKind.i64 (1 : Int)]), (13, AV.int IntKind.i64 (0 : Int))]
      [AObj.cells [AV.int IntKind.i64 (0 : Int), AV.int IntKind.i64 (0 : Int), AV.int IntKind.i64 (0 : Int)], AObj.cells [AV.int IntKind.i64 x, AV.int IntKind.i64 y, AV.int IntKind.i64 z]]
      (q71_2 n Post) := fun p x y z n Post h => Go.Ab.AWP.loop' g71 (Cfg.live g71) c71_5 (by kernel_rfl) (by kernel_rfl) (Go.Ab.kc (by kernel_rfl) h)
theorem v71_5b : ∀ (p x y z : Int) (n : Nat) (Post : AV → List AObj → Prop),
  needP ((0 : Int) ≤ (1 : Int) ∧ (1 : Int) < (3 : Int))
      (needP ((1000 : Int) ≠ (0 : Int))
        (needP ((1000 : Int) ≠ (0 : Int))
        (needP ((0 : Int) ≤ (1 : Int) ∧ (1 : Int) < (3 : Int))
        (AWP Tryd.prog 25 n c71_5
        [(0, AV.int IntKind.i64 p), (2, AV.ptr 0 0), (4, AV.ptr 1 0),
        (12, AV.agg [AV.int IntKind.i64 (1000000 : Int), AV.int IntKind.i64 (1000 : Int), AV.int IntKind.i64 (1 : Int)]), (13, AV.int IntKind.i64 (2 : Int))]
        [AObj.cells [AV.int IntKind.i64 (0 : Int), AV.int IntKind.i64 (0 : Int), AV.int IntKind.i64 (0 : Int)],
        AObj.cells [AV.int IntKind.i64 x, AV.int IntKind.i64 (Int.tmod (IntKind.wrap IntKind.i64 (Int.tdiv p (1000 : Int))) (1000 : Int)), AV.int IntKind.i64 z]]
        (q71_2 n Post))))) →
    AWP Tryd.prog 25 n c71_5
      [(0, AV.int IntKind.i64 p), (2, AV.ptr 0 0), (4, AV.ptr 1 0),
        (12, AV.agg [AV.int IntKind.i64 (1000000 : Int), AV.int IntKind.i64 (1000 : Int), AV.int IntKind.i64 (1 : Int)]), (13, AV.int IntKind.i64 (1 : Int))]
      [AObj.cells [AV.int IntKind.i64 (0 : Int), AV.int IntKind.i64 (0 : Int), AV.int IntKind.i64 (0 : Int)], AObj.cells [AV.int IntKind.i64 x, AV.int IntKind.i64 y, AV.int IntKind.i64 z]]
      (q71_2 n Post) := fun p x y z n Post h => Go.Ab.AWP.loop' g71 (Cfg.live g71) c71_5 (by kernel_rfl) (by kernel_rfl) (Go.Ab.kc (by kernel_rfl) h)
theorem v71_5c : ∀ (p x y z : Int) (n : Nat) (Post : AV → List AObj → Prop),
  needP ((0 : Int) ≤ (2 : Int) ∧ (2 : Int) < (3 : Int))
      (needP ((1 : Int) ≠ (0 : Int))
        (needP ((1000 : Int) ≠ (0 : Int))
        (needP ((0 : Int) ≤ (2 : Int) ∧ (2 : Int) < (3 : Int))
        (AWP Tryd.prog 25 n c71_5
        [(0, AV.int IntKind.i64 p), (2, AV.ptr 0 0), (4, AV.ptr 1 0),
        (12, AV.agg [AV.int IntKind.i64 (1000000 : Int), AV.int IntKind.i64 (1000 : Int), AV.int IntKind.i64 (1 : Int)]), (13, AV.int IntKind.i64 (3 : Int))]
        [AObj.cells [AV.int IntKind.i64 (0 : Int), AV.int IntKind.i64 (0 : Int), AV.int IntKind.i64 (0 : Int)],
        AObj.cells [AV.int IntKind.i64 x, AV.int IntKind.i64 y, AV.int IntKind.i64 (Int.tmod (IntKind.wrap IntKind.i64 (Int.tdiv p (1 : Int))) (1000 : Int))]]
        (q71_2 n Post))))) →
    AWP Tryd.prog 25 n c71_5
      [(0, AV.int IntKind.i64 p), (2, AV.ptr 0 0), (4, AV.ptr 1 0),
        (12, AV.agg [AV.int IntKind.i64 (1000000 : Int), AV.int IntKind.i64 (1000 : Int), AV.int IntKind.i64 (1 : Int)]), (13, AV.int IntKind.i64 (2 : Int))]
      [AObj.cells [AV.int IntKind.i64 (0 : Int), AV.int IntKind.i64 (0 : Int), AV.int IntKind.i64 (0 : Int)], AObj.cells [AV.int IntKind.i64 x, AV.int IntKind.i64 y, AV.int IntKind.i64 z]]
      (q71_2 n Post) := fun p x y z n Post h => Go.Ab.AWP.loop' g71 (Cfg.live g71) c71_5 (by kernel_rfl) (by kernel_rfl) (Go.Ab.kc (by kernel_rfl) h)
theorem v71_5d : ∀ (p x y z : Int) (n : Nat) (Post : AV → List AObj → Prop),
  Post (AV.tup [AV.agg [AV.int IntKind.i64 x, AV.int IntKind.i64 y, AV.int IntKind.i64 z], AV.bool true])
      [AObj.cells [AV.int IntKind.i64 x, AV.int IntKind.i64 y, AV.int IntKind.i64 z], AObj.cells [AV.int IntKind.i64 x, AV.int IntKind.i64 y, AV.int IntKind.i64 z]] →
    AWP Tryd.prog 25 n c71_5
      [(0, AV.int IntKind.i64 p), (2, AV.ptr 0 0), (4, AV.ptr 1 0),
        (12, AV.agg [AV.int IntKind.i64 (1000000 : Int), AV.int IntKind.i64 (1000 : Int), AV.int IntKind.i64 (1 : Int)]), (13, AV.int IntKind.i64 (3 : Int))]
      [AObj.cells [AV.int IntKind.i64 (0 : Int), AV.int IntKind.i64 (0 : Int), AV.int IntKind.i64 (0 : Int)], AObj.cells [AV.int IntKind.i64 x, AV.int IntKind.i64 y, AV.int IntKind.i64 z]]
      (q71_2 n Post) := fun p x y z n Post h => Go.Ab.AWP.loop' g71 (Cfg.live g71) c71_5 (by kernel_rfl) (by kernel_rfl) (Go.Ab.kc (by kernel_rfl) h)

-- 70
noncomputable def l70 : Nat → List Nat
  | 3 => [1, 4, 7, 8]
  | _ => []
noncomputable def u70 : Nat → Bool
  | _ => false
noncomputable def m70 : Nat → Bool
  | _ => false
noncomputable def g70 : Cfg := { N := 31, live := l70, cut := u70, mu := m70, ret := rets }
noncomputable def c70 : Go.Code := Go.Ab.bodyOf Go.Proofs.Tryd.f70
noncomputable def q70_0 : Nat → (AV → List AObj → Prop) → AQ := fun (n : Nat) (Post : AV → List AObj → Prop) => endQ Tryd.prog (resultsOf Tryd.f70) Post
noncomputable def q70_1 : Nat → (AV → List AObj → Prop) → AQ := fun (n : Nat) (Post : AV → List AObj → Prop) => seqQ (fun (s' : Slots) (H' : List AObj) => awp Tryd.prog g70 n (codeSnd (codeSnd (codeSnd c70))) s' H' (q70_0 n Post)) (q70_0 n Post)
noncomputable def q70_2 : Nat → (AV → List AObj → Prop) → AQ := fun (n : Nat) (Post : AV → List AObj → Prop) => blockQ 0 (q70_1 n Post)
noncomputable def c70_3 : Go.Code := codeFst (codeSnd (codeFst (codeSnd (codeSnd c70))))
theorem s70 : ∀ (a b c : Int) (Post : AV → List AObj → Prop),
  (ASpec Tryd.prog 89 [] [AObj.cells [AV.int IntKind.i64 a, AV.int IntKind.i64 b, AV.int IntKind.i64 c]] fun (r : AV) (H' : List AObj) =>
      ∃ (x : Unit),
        r = AV.agg [AV.int IntKind.i64 (1000000 : Int), AV.int IntKind.i64 (1000 : Int), AV.int IntKind.i64 (1 : Int)] ∧
        H' = [AObj.cells [AV.int IntKind.i64 a, AV.int IntKind.i64 b, AV.int IntKind.i64 c]] ∧
        AWP Tryd.prog 31 0 c70_3
        [(1, AV.ptr 0 0), (4, AV.int IntKind.i64 (0 : Int)),
        (7, AV.agg [AV.int IntKind.i64 (1000000 : Int), AV.int IntKind.i64 (1000 : Int), AV.int IntKind.i64 (1 : Int)]), (8, AV.int IntKind.i64 (0 : Int))]
        [AObj.cells [AV.int IntKind.i64 a, AV.int IntKind.i64 b, AV.int IntKind.i64 c]] (q70_2 0 Post)) →
    ASpec Tryd.prog 70 [AV.agg [AV.int IntKind.i64 a, AV.int IntKind.i64 b, AV.int IntKind.i64 c]] [] Post := fun a b c Post h => Go.Ab.ASpec.of_vc g70 Go.Proofs.Tryd.func70 (by kernel_rfl) (by kernel_rfl) (by kernel_rfl) (Go.Ab.kc (by kernel_rfl) h)
theorem v70_3a : ∀ (a b c s : Int) (n : Nat) (Post : AV → List AObj → Prop),
  needP ((0 : Int) ≤ (0 : Int) ∧ (0 : Int) < (3 : Int))
      (needP ((0 : Int) ≤ (0 : Int) ∧ (0 : Int) < (3 : Int))
        (condP (decide (a < (0 : Int))) (Post (AV.tup [AV.int IntKind.i64 (0 : Int), AV.bool false]) [AObj.cells [AV.int IntKind.i64 a, AV.int IntKind.i64 b, AV.int IntKind.i64 c]])
        (needP ((0 : Int) ≤ (0 : Int) ∧ (0 : Int) < (3 : Int))
        (condP (decide (a ≥ (1000 : Int))) (Post (AV.tup [AV.int IntKind.i64 (0 : Int), AV.bool false]) [AObj.cells [AV.int IntKind.i64 a, AV.int IntKind.i64 b, AV.int IntKind.i64 c]])
        (needP ((0 : Int) ≤ (0 : Int) ∧ (0 : Int) < (3 : Int))
        (AWP Tryd.prog 31 n c70_3
        [(1, AV.ptr 0 0), (4, AV.int IntKind.i64 (IntKind.wrap IntKind.i64 (s + IntKind.wrap IntKind.i64 (a * (1000000 : Int))))),
        (7, AV.agg [AV.int IntKind.i64 (1000000 : Int), AV.int IntKind.i64 (1000 : Int), AV.int IntKind.i64 (1 : Int)]), (8, AV.int IntKind.i64 (1 : Int))]
        [AObj.cells [AV.int IntKind.i64 a, AV.int IntKind.i64 b, AV.int IntKind.i64 c]] (q70_2 n Post))))))) →
    AWP Tryd.prog 31 n c70_3
      [(1, AV.ptr 0 0), (4, AV.int IntKind.i64 s),
        (7, AV.agg [AV.int IntKind.i64 (1000000 : Int), AV.int IntKind.i64 (1000 : Int), AV.int IntKind.i64 (1 : Int)]), (8, AV.int IntKind.i64 (0 : Int))]
      [AObj.cells [AV.int IntKind.i64 a, AV.int IntKind.i64 b, AV.int IntKind.i64 c]] (q70_2 n Post) := fun a b c s n Post h => Go.Ab.AWP.loop' g70 (Cfg.live g70) c70_3 (by kernel_rfl) (by kernel_rfl) (Go.Ab.kc (by kernel_rfl) h)
theorem v70_3b : ∀ (a b c s : Int) (n : Nat) (Post : AV → List AObj → Prop),
  needP ((0 : Int) ≤ (1 : Int) ∧ (1 : Int) < (3 : Int))
      (needP ((0 : Int) ≤ (1 : Int) ∧ (1 : Int) < (3 : Int))
        (condP (decide (b < (0 : Int))) (Post (AV.tup [AV.int IntKind.i64 (0 : Int), AV.bool false]) [AObj.cells [AV.int IntKind.i64 a, AV.int IntKind.i64 b, AV.int IntKind.i64 c]])
        (needP ((0 : Int) ≤ (1 : Int) ∧ (1 : Int) < (3 : Int))
        (condP (decide (b ≥ (1000 : Int))) (Post (AV.tup [AV.int IntKind.i64 (0 : Int), AV.bool false]) [AObj.cells [AV.int IntKind.i64 a, AV.int IntKind.i64 b, AV.int IntKind.i64 c]])
        (needP ((0 : Int) ≤ (1 : Int) ∧ (1 : Int) < (3 : Int))
        (AWP Tryd.prog 31 n c70_3
        [(1, AV.ptr 0 0), (4, AV.int IntKind.i64 (IntKind.wrap IntKind.i64 (s + IntKind.wrap IntKind.i64 (b * (1000 : Int))))),
        (7, AV.agg [AV.int IntKind.i64 (1000000 : Int), AV.int IntKind.i64 (1000 : Int), AV.int IntKind.i64 (1 : Int)]), (8, AV.int IntKind.i64 (2 : Int))]
        [AObj.cells [AV.int IntKind.i64 a, AV.int IntKind.i64 b, AV.int IntKind.i64 c]] (q70_2 n Post))))))) →
    AWP Tryd.prog 31 n c70_3
      [(1, AV.ptr 0 0), (4, AV.int IntKind.i64 s),
        (7, AV.agg [AV.int IntKind.i64 (1000000 : Int), AV.int IntKind.i64 (1000 : Int), AV.int IntKind.i64 (1 : Int)]), (8, AV.int IntKind.i64 (1 : Int))]
      [AObj.cells [AV.int IntKind.i64 a, AV.int IntKind.i64 b, AV.int IntKind.i64 c]] (q70_2 n Post) := fun a b c s n Post h => Go.Ab.AWP.loop' g70 (Cfg.live g70) c70_3 (by kernel_rfl) (by kernel_rfl) (Go.Ab.kc (by kernel_rfl) h)
theorem v70_3c : ∀ (a b c s : Int) (n : Nat) (Post : AV → List AObj → Prop),
  needP ((0 : Int) ≤ (2 : Int) ∧ (2 : Int) < (3 : Int))
      (needP ((0 : Int) ≤ (2 : Int) ∧ (2 : Int) < (3 : Int))
        (condP (decide (c < (0 : Int))) (Post (AV.tup [AV.int IntKind.i64 (0 : Int), AV.bool false]) [AObj.cells [AV.int IntKind.i64 a, AV.int IntKind.i64 b, AV.int IntKind.i64 c]])
        (needP ((0 : Int) ≤ (2 : Int) ∧ (2 : Int) < (3 : Int))
        (condP (decide (c ≥ (1000 : Int))) (Post (AV.tup [AV.int IntKind.i64 (0 : Int), AV.bool false]) [AObj.cells [AV.int IntKind.i64 a, AV.int IntKind.i64 b, AV.int IntKind.i64 c]])
        (needP ((0 : Int) ≤ (2 : Int) ∧ (2 : Int) < (3 : Int))
        (AWP Tryd.prog 31 n c70_3
        [(1, AV.ptr 0 0), (4, AV.int IntKind.i64 (IntKind.wrap IntKind.i64 (s + IntKind.wrap IntKind.i64 (c * (1 : Int))))),
        (7, AV.agg [AV.int IntKind.i64 (1000000 : Int), AV.int IntKind.i64 (1000 : Int), AV.int IntKind.i64 (1 : Int)]), (8, AV.int IntKind.i64 (3 : Int))]
        [AObj.cells [AV.int IntKind.i64 a, AV.int IntKind.i64 b, AV.int IntKind.i64 c]] (q70_2 n Post))))))) →
    AWP Tryd.prog 31 n c70_3
      [(1, AV.ptr 0 0), (4, AV.int IntKind.i64 s),
        (7, AV.agg [AV.int IntKind.i64 (1000000 : Int), AV.int IntKind.i64 (1000 : Int), AV.int IntKind.i64 (1 : Int)]), (8, AV.int IntKind.i64 (2 : Int))]
      [AObj.cells [AV.int IntKind.i64 a, AV.int IntKind.i64 b, AV.int IntKind.i64 c]] (q70_2 n Post) := fun a b c s n Post h => Go.Ab.AWP.loop' g70 (Cfg.live g70) c70_3 (by kernel_rfl) (by kernel_rfl) (Go.Ab.kc (by kernel_rfl) h)
theorem v70_3d : ∀ (a b c s : Int) (n : Nat) (Post : AV → List AObj → Prop),
  Post (AV.tup [AV.int IntKind.i64 s, AV.bool true]) [AObj.cells [AV.int IntKind.i64 a, AV.int IntKind.i64 b, AV.int IntKind.i64 c]] →
    AWP Tryd.prog 31 n c70_3
      [(1, AV.ptr 0 0), (4, AV.int IntKind.i64 s),
        (7, AV.agg [AV.int IntKind.i64 (1000000 : Int), AV.int IntKind.i64 (1000 : Int), AV.int IntKind.i64 (1 : Int)]), (8, AV.int IntKind.i64 (3 : Int))]
      [AObj.cells [AV.int IntKind.i64 a, AV.int IntKind.i64 b, AV.int IntKind.i64 c]] (q70_2 n Post) := fun a b c s n Post h => Go.Ab.AWP.loop' g70 (Cfg.live g70) c70_3 (by kernel_rfl) (by kernel_rfl) (Go.Ab.kc (by kernel_rfl) h)

-- 53
noncomputable def l53 : Nat → List Nat
  | 4 => [4, 5, 6, 15]
  | 12 => [4, 5, 6]
  | _ => []
noncomputable def u53 : Nat → Bool
  | 12 => true
  | _ => false
noncomputable def m53 : Nat → Bool
  | _ => false
noncomputable def g53 : Cfg := { N := 88, live := l53, cut := u53, mu := m53, ret := rets }
noncomputable def c53 : Go.Code := Go.Ab.bodyOf Go.Proofs.Tryd.f53
noncomputable def q53_0 : Nat → (AV → List AObj → Prop) → AQ := fun (n : Nat) (Post : AV → List AObj → Prop) => endQ Tryd.prog (resultsOf Tryd.f53) Post
noncomputable def c53_12 : Go.Code := codeSnd (codeSnd (codeSnd (codeSnd c53)))
noncomputable def q53_1 : Nat → (AV → List AObj → Prop) → AQ := fun (n : Nat) (Post : AV → List AObj → Prop) => seqQ (fun (s' : Slots) (H' : List AObj) => AWP Tryd.prog (Cfg.N g53) n c53_12 (restrict s' (Cfg.live g53 12)) H' (q53_0 n Post)) (q53_0 n Post)
noncomputable def q53_2 : Nat → (AV → List AObj → Prop) → AQ := fun (n : Nat) (Post : AV → List AObj → Prop) => blockQ 0 (q53_1 n Post)
noncomputable def c53_4 : Go.Code := codeFst (codeSnd (codeFst (codeSnd (codeSnd (codeSnd c53)))))
theorem s53 : ∀ (s : ByteArray) (Post : AV → List AObj → Prop),
  AWP Tryd.prog 88 0 c53_4
      [(4, AV.ptr 0 0), (5, AV.int IntKind.i64 (0 : Int)), (6, AV.int IntKind.i64 (0 : Int)), (15, AV.ptr 1 0)]
      [AObj.cells [AV.int IntKind.i64 (0 : Int), AV.int IntKind.i64 (0 : Int), AV.int IntKind.i64 (0 : Int)], AObj.siter s 0] (q53_2 0 Post) →
    ASpec Tryd.prog 53 [AV.str s] [] Post := fun s Post h => Go.Ab.ASpec.of_vc g53 Go.Proofs.Tryd.func53 (by kernel_rfl) (by kernel_rfl) (by kernel_rfl) (Go.Ab.kc (by kernel_rfl) h)
theorem v53_4a : ∀ (x y z n : Int) (s : ByteArray) (pos n_1 : Nat) (Post : AV → List AObj → Prop),
  condP (decide (pos < ByteArray.size s))
      (condP ((↑(Prod.fst (Utf8.decode s pos)) : Int) == (46 : Int))
        (condP (decide (n > (0 : Int)))
        (AWP Tryd.prog 88 n_1 c53_4
        [(4, AV.ptr 0 0), (5, AV.int IntKind.i64 (1 : Int)), (6, AV.int IntKind.i64 (0 : Int)), (15, AV.ptr 1 0)]
        [AObj.cells [AV.int IntKind.i64 x, AV.int IntKind.i64 y, AV.int IntKind.i64 z], AObj.siter s (pos + Prod.snd (Utf8.decode s pos))] (q53_2 n_1 Post))
        (condP (decide ((↑(Prod.fst (Utf8.decode s pos)) : Int) < (48 : Int)))
        (Post (AV.tup [AV.int IntKind.i64 (0 : Int), AV.bool false])
        [AObj.cells [AV.int IntKind.i64 x, AV.int IntKind.i64 y, AV.int IntKind.i64 z], AObj.siter s (pos + Prod.snd (Utf8.decode s pos))])
        (condP (decide ((↑(Prod.fst (Utf8.decode s pos)) : Int) > (57 : Int)))
        (Post (AV.tup [AV.int IntKind.i64 (0 : Int), AV.bool false])
        [AObj.cells [AV.int IntKind.i64 x, AV.int IntKind.i64 y, AV.int IntKind.i64 z], AObj.siter s (pos + Prod.snd (Utf8.decode s pos))])
        (condP (n == (3 : Int))
        (Post (AV.tup [AV.int IntKind.i64 (0 : Int), AV.bool false])
        [AObj.cells [AV.int IntKind.i64 x, AV.int IntKind.i64 y, AV.int IntKind.i64 z], AObj.siter s (pos + Prod.snd (Utf8.decode s pos))])
        (condP (decide (n > (0 : Int)))
        (needP ((0 : Int) ≤ (0 : Int) ∧ (0 : Int) < (3 : Int))
        (condP (x == (0 : Int))
        (Post (AV.tup [AV.int IntKind.i64 (0 : Int), AV.bool false])
        [AObj.cells [AV.int IntKind.i64 x, AV.int IntKind.i64 y, AV.int IntKind.i64 z], AObj.siter s (pos + Prod.snd (Utf8.decode s pos))])
        (needP ((0 : Int) ≤ (0 : Int) ∧ (0 : Int) < (3 : Int))
        (needP ((0 : Int) ≤ (0 : Int) ∧ (0 : Int) < (3 : Int))
        (AWP Tryd.prog 88 n_1 c53_4
        [(4, AV.ptr 0 0), (5, AV.int IntKind.i64 (0 : Int)), (6, AV.int IntKind.i64 (IntKind.wrap IntKind.i64 (n + (1 : Int)))),
        (15, AV.ptr 1 0)]
        [AObj.cells
        [AV.int IntKind.i64
        (IntKind.wrap IntKind.i64
        (IntKind.wrap IntKind.i64 (x * (10 : Int)) + IntKind.wrap IntKind.i64 (IntKind.wrap IntKind.i32 ((↑(Prod.fst (Utf8.decode s pos)) : Int) - (48 : Int))))),
        AV.int IntKind.i64 y, AV.int IntKind.i64 z],
        AObj.siter s (pos + Prod.snd (Utf8.decode s pos))]
        (q53_2 n_1 Post))))))
        (needP ((0 : Int) ≤ (0 : Int) ∧ (0 : Int) < (3 : Int))
        (needP ((0 : Int) ≤ (0 : Int) ∧ (0 : Int) < (3 : Int))
        (AWP Tryd.prog 88 n_1 c53_4
        [(4, AV.ptr 0 0), (5, AV.int IntKind.i64 (0 : Int)), (6, AV.int IntKind.i64 (IntKind.wrap IntKind.i64 (n + (1 : Int)))),
        (15, AV.ptr 1 0)]
        [AObj.cells
        [AV.int IntKind.i64
        (IntKind.wrap IntKind.i64
        (IntKind.wrap IntKind.i64 (x * (10 : Int)) + IntKind.wrap IntKind.i64 (IntKind.wrap IntKind.i32 ((↑(Prod.fst (Utf8.decode s pos)) : Int) - (48 : Int))))),
        AV.int IntKind.i64 y, AV.int IntKind.i64 z],
        AObj.siter s (pos + Prod.snd (Utf8.decode s pos))]
        (q53_2 n_1 Post)))))))))
        (condP (decide ((↑(Prod.fst (Utf8.decode s pos)) : Int) < (48 : Int)))
        (Post (AV.tup [AV.int IntKind.i64 (0 : Int), AV.bool false])
        [AObj.cells [AV.int IntKind.i64 x, AV.int IntKind.i64 y, AV.int IntKind.i64 z], AObj.siter s (pos + Prod.snd (Utf8.decode s pos))])
        (condP (decide ((↑(Prod.fst (Utf8.decode s pos)) : Int) > (57 : Int)))
        (Post (AV.tup [AV.int IntKind.i64 (0 : Int), AV.bool false])
        [AObj.cells [AV.int IntKind.i64 x, AV.int IntKind.i64 y, AV.int IntKind.i64 z], AObj.siter s (pos + Prod.snd (Utf8.decode s pos))])
        (condP (n == (3 : Int))
        (Post (AV.tup [AV.int IntKind.i64 (0 : Int), AV.bool false])
        [AObj.cells [AV.int IntKind.i64 x, AV.int IntKind.i64 y, AV.int IntKind.i64 z], AObj.siter s (pos + Prod.snd (Utf8.decode s pos))])
        (condP (decide (n > (0 : Int)))
        (needP ((0 : Int) ≤ (0 : Int) ∧ (0 : Int) < (3 : Int))
        (condP (x == (0 : Int))
        (Post (AV.tup [AV.int IntKind.i64 (0 : Int), AV.bool false])
        [AObj.cells [AV.int IntKind.i64 x, AV.int IntKind.i64 y, AV.int IntKind.i64 z], AObj.siter s (pos + Prod.snd (Utf8.decode s pos))])
        (needP ((0 : Int) ≤ (0 : Int) ∧ (0 : Int) < (3 : Int))
        (needP ((0 : Int) ≤ (0 : Int) ∧ (0 : Int) < (3 : Int))
        (AWP Tryd.prog 88 n_1 c53_4
        [(4, AV.ptr 0 0), (5, AV.int IntKind.i64 (0 : Int)), (6, AV.int IntKind.i64 (IntKind.wrap IntKind.i64 (n + (1 : Int)))),
        (15, AV.ptr 1 0)]
        [AObj.cells
        [AV.int IntKind.i64
        (IntKind.wrap IntKind.i64
        (IntKind.wrap IntKind.i64 (x * (10 : Int)) + IntKind.wrap IntKind.i64 (IntKind.wrap IntKind.i32 ((↑(Prod.fst (Utf8.decode s pos)) : Int) - (48 : Int))))),
        AV.int IntKind.i64 y, AV.int IntKind.i64 z],
        AObj.siter s (pos + Prod.snd (Utf8.decode s pos))]
        (q53_2 n_1 Post))))))
        (needP ((0 : Int) ≤ (0 : Int) ∧ (0 : Int) < (3 : Int))
        (needP ((0 : Int) ≤ (0 : Int) ∧ (0 : Int) < (3 : Int))
        (AWP Tryd.prog 88 n_1 c53_4
        [(4, AV.ptr 0 0), (5, AV.int IntKind.i64 (0 : Int)), (6, AV.int IntKind.i64 (IntKind.wrap IntKind.i64 (n + (1 : Int)))),
        (15, AV.ptr 1 0)]
        [AObj.cells
        [AV.int IntKind.i64
        (IntKind.wrap IntKind.i64
        (IntKind.wrap IntKind.i64 (x * (10 : Int)) + IntKind.wrap IntKind.i64 (IntKind.wrap IntKind.i32 ((↑(Prod.fst (Utf8.decode s pos)) : Int) - (48 : Int))))),
        AV.int IntKind.i64 y, AV.int IntKind.i64 z],
        AObj.siter s (pos + Prod.snd (Utf8.decode s pos))]
        (q53_2 n_1 Post)))))))))
      (AWP Tryd.prog 88 n_1 c53_12 [(4, AV.ptr 0 0), (5, AV.int IntKind.i64 (0 : Int)), (6, AV.int IntKind.i64 n)]
        [AObj.cells [AV.int IntKind.i64 x, AV.int IntKind.i64 y, AV.int IntKind.i64 z], AObj.siter s pos] (q53_0 n_1 Post)) →
    AWP Tryd.prog 88 n_1 c53_4 [(4, AV.ptr 0 0), (5, AV.int IntKind.i64 (0 : Int)), (6, AV.int IntKind.i64 n), (15, AV.ptr 1 0)]
      [AObj.cells [AV.int IntKind.i64 x, AV.int IntKind.i64 y, AV.int IntKind.i64 z], AObj.siter s pos] (q53_2 n_1 Post) := fun x y z n s pos n Post h => Go.Ab.AWP.loop' g53 (Cfg.live g53) c53_4 (by kernel_rfl) (by kernel_rfl) (Go.Ab.kc (by kernel_rfl) h)
theorem v53_4b : ∀ (x y z n : Int) (s : ByteArray) (pos n_1 : Nat) (Post : AV → List AObj → Prop),
  condP (decide (pos < ByteArray.size s))
      (condP ((↑(Prod.fst (Utf8.decode s pos)) : Int) == (46 : Int))
        (condP (decide (n > (0 : Int)))
        (AWP Tryd.prog 88 n_1 c53_4
        [(4, AV.ptr 0 0), (5, AV.int IntKind.i64 (2 : Int)), (6, AV.int IntKind.i64 (0 : Int)), (15, AV.ptr 1 0)]
        [AObj.cells [AV.int IntKind.i64 x, AV.int IntKind.i64 y, AV.int IntKind.i64 z], AObj.siter s (pos + Prod.snd (Utf8.decode s pos))] (q53_2 n_1 Post))
        (condP (decide ((↑(Prod.fst (Utf8.decode s pos)) : Int) < (48 : Int)))
        (Post (AV.tup [AV.int IntKind.i64 (0 : Int), AV.bool false])
        [AObj.cells [AV.int IntKind.i64 x, AV.int IntKind.i64 y, AV.int IntKind.i64 z], AObj.siter s (pos + Prod.snd (Utf8.decode s pos))])
        (condP (decide ((↑(Prod.fst (Utf8.decode s pos)) : Int) > (57 : Int)))
        (Post (AV.tup [AV.int IntKind.i64 (0 : Int), AV.bool false])
        [AObj.cells [AV.int IntKind.i64 x, AV.int IntKind.i64 y, AV.int IntKind.i64 z], AObj.siter s (pos + Prod.snd (Utf8.decode s pos))])
        (condP (n == (3 : Int))
        (Post (AV.tup [AV.int IntKind.i64 (0 : Int), AV.bool false])
        [AObj.cells [AV.int IntKind.i64 x, AV.int IntKind.i64 y, AV.int IntKind.i64 z], AObj.siter s (pos + Prod.snd (Utf8.decode s pos))])
        (condP (decide (n > (0 : Int)))
        (needP ((0 : Int) ≤ (1 : Int) ∧ (1 : Int) < (3 : Int))
        (condP (y == (0 : Int))
        (Post (AV.tup [AV.int IntKind.i64 (0 : Int), AV.bool false])
        [AObj.cells [AV.int IntKind.i64 x, AV.int IntKind.i64 y, AV.int IntKind.i64 z], AObj.siter s (pos + Prod.snd (Utf8.decode s pos))])
        (needP ((0 : Int) ≤ (1 : Int) ∧ (1 : Int) < (3 : Int))
        (needP ((0 : Int) ≤ (1 : Int) ∧ (1 : Int) < (3 : Int))
        (AWP Tryd.prog 88 n_1 c53_4
        [(4, AV.ptr 0 0), (5, AV.int IntKind.i64 (1 : Int)), (6, AV.int IntKind.i64 (IntKind.wrap IntKind.i64 (n + (1 : Int)))),
        (15, AV.ptr 1 0)]
        [AObj.cells
        [AV.int IntKind.i64 x,
        AV.int IntKind.i64
        (IntKind.wrap IntKind.i64
        (IntKind.wrap IntKind.i64 (y * (10 : Int)) + IntKind.wrap IntKind.i64 (IntKind.wrap IntKind.i32 ((↑(Prod.fst (Utf8.decode s pos)) : Int) - (48 : Int))))),
        AV.int IntKind.i64 z],
        AObj.siter s (pos + Prod.snd (Utf8.decode s pos))]
        (q53_2 n_1 Post))))))
        (needP ((0 : Int) ≤ (1 : Int) ∧ (1 : Int) < (3 : Int))
        (needP ((0 : Int) ≤ (1 : Int) ∧ (1 : Int) < (3 : Int))
        (AWP Tryd.prog 88 n_1 c53_4
        [(4, AV.ptr 0 0), (5, AV.int IntKind.i64 (1 : Int)), (6, AV.int IntKind.i64 (IntKind.wrap IntKind.i64 (n + (1 : Int)))),
        (15, AV.ptr 1 0)]
        [AObj.cells
        [AV.int IntKind.i64 x,
        AV.int IntKind.i64
        (IntKind.wrap IntKind.i64
        (IntKind.wrap IntKind.i64 (y * (10 : Int)) + IntKind.wrap IntKind.i64 (IntKind.wrap IntKind.i32 ((↑(Prod.fst (Utf8.decode s pos)) : Int) - (48 : Int))))),
        AV.int IntKind.i64 z],
        AObj.siter s (pos + Prod.snd (Utf8.decode s pos))]
        (q53_2 n_1 Post)))))))))
        (condP (decide ((↑(Prod.fst (Utf8.decode s pos)) : Int) < (48 : Int)))
        (Post (AV.tup [AV.int IntKind.i64 (0 : Int), AV.bool false])
        [AObj.cells [AV.int IntKind.i64 x, AV.int IntKind.i64 y, AV.int IntKind.i64 z], AObj.siter s (pos + Prod.snd (Utf8.decode s pos))])
        (condP (decide ((↑(Prod.fst (Utf8.decode s pos)) : Int) > (57 : Int)))
        (Post (AV.tup [AV.int IntKind.i64 (0 : Int), AV.bool false])
        [AObj.cells [AV.int IntKind.i64 x, AV.int IntKind.i64 y, AV.int IntKind.i64 z], AObj.siter s (pos + Prod.snd (Utf8.decode s pos))])
        (condP (n == (3 : Int))
        (Post (AV.tup [AV.int IntKind.i64 (0 : Int), AV.bool false])
        [AObj.cells [AV.int IntKind.i64 x, AV.int IntKind.i64 y, AV.int IntKind.i64 z], AObj.siter s (pos + Prod.snd (Utf8.decode s pos))])
        (condP (decide (n > (0 : Int)))
        (needP ((0 : Int) ≤ (1 : Int) ∧ (1 : Int) < (3 : Int))
        (condP (y == (0 : Int))
        (Post (AV.tup [AV.int IntKind.i64 (0 : Int), AV.bool false])
        [AObj.cells [AV.int IntKind.i64 x, AV.int IntKind.i64 y, AV.int IntKind.i64 z], AObj.siter s (pos + Prod.snd (Utf8.decode s pos))])
        (needP ((0 : Int) ≤ (1 : Int) ∧ (1 : Int) < (3 : Int))
        (needP ((0 : Int) ≤ (1 : Int) ∧ (1 : Int) < (3 : Int))
        (AWP Tryd.prog 88 n_1 c53_4
        [(4, AV.ptr 0 0), (5, AV.int IntKind.i64 (1 : Int)), (6, AV.int IntKind.i64 (IntKind.wrap IntKind.i64 (n + (1 : Int)))),
        (15, AV.ptr 1 0)]
        [AObj.cells
        [AV.int IntKind.i64 x,
        AV.int IntKind.i64
        (IntKind.wrap IntKind.i64
        (IntKind.wrap IntKind.i64 (y * (10 : Int)) + IntKind.wrap IntKind.i64 (IntKind.wrap IntKind.i32 ((↑(Prod.fst (Utf8.decode s pos)) : Int) - (48 : Int))))),
        AV.int IntKind.i64 z],
        AObj.siter s (pos + Prod.snd (Utf8.decode s pos))]
        (q53_2 n_1 Post))))))
        (needP ((0 : Int) ≤ (1 : Int) ∧ (1 : Int) < (3 : Int))
        (needP ((0 : Int) ≤ (1 : Int) ∧ (1 : Int) < (3 : Int))
        (AWP Tryd.prog 88 n_1 c53_4
        [(4, AV.ptr 0 0), (5, AV.int IntKind.i64 (1 : Int)), (6, AV.int IntKind.i64 (IntKind.wrap IntKind.i64 (n + (1 : Int)))),
        (15, AV.ptr 1 0)]
        [AObj.cells
        [AV.int IntKind.i64 x,
        AV.int IntKind.i64
        (IntKind.wrap IntKind.i64
        (IntKind.wrap IntKind.i64 (y * (10 : Int)) + IntKind.wrap IntKind.i64 (IntKind.wrap IntKind.i32 ((↑(Prod.fst (Utf8.decode s pos)) : Int) - (48 : Int))))),
        AV.int IntKind.i64 z],
        AObj.siter s (pos + Prod.snd (Utf8.decode s pos))]
        (q53_2 n_1 Post)))))))))
      (AWP Tryd.prog 88 n_1 c53_12 [(4, AV.ptr 0 0), (5, AV.int IntKind.i64 (1 : Int)), (6, AV.int IntKind.i64 n)]
        [AObj.cells [AV.int IntKind.i64 x, AV.int IntKind.i64 y, AV.int IntKind.i64 z], AObj.siter s pos] (q53_0 n_1 Post)) →
    AWP Tryd.prog 88 n_1 c53_4 [(4, AV.ptr 0 0), (5, AV.int IntKind.i64 (1 : Int)), (6, AV.int IntKind.i64 n), (15, AV.ptr 1 0)]
      [AObj.cells [AV.int IntKind.i64 x, AV.int IntKind.i64 y, AV.int IntKind.i64 z], AObj.siter s pos] (q53_2 n_1 Post) := fun x y z n s pos n Post h => Go.Ab.AWP.loop' g53 (Cfg.live g53) c53_4 (by kernel_rfl) (by kernel_rfl) (Go.Ab.kc (by kernel_rfl) h)
theorem v53_4c : ∀ (x y z n : Int) (s : ByteArray) (pos n_1 : Nat) (Post : AV → List AObj → Prop),
  condP (decide (pos < ByteArray.size s))
      (condP ((↑(Prod.fst (Utf8.decode s pos)) : Int) == (46 : Int))
        (condP (decide (n > (0 : Int)))
        (condP (decide ((↑(Prod.fst (Utf8.decode s pos)) : Int) < (48 : Int)))
        (Post (AV.tup [AV.int IntKind.i64 (0 : Int), AV.bool false])
        [AObj.cells [AV.int IntKind.i64 x, AV.int IntKind.i64 y, AV.int IntKind.i64 z], AObj.siter s (pos + Prod.snd (Utf8.decode s pos))])
        (condP (decide ((↑(Prod.fst (Utf8.decode s pos)) : Int) > (57 : Int)))
        (Post (AV.tup [AV.int IntKind.i64 (0 : Int), AV.bool false])
        [AObj.cells [AV.int IntKind.i64 x, AV.int IntKind.i64 y, AV.int IntKind.i64 z], AObj.siter s (pos + Prod.snd (Utf8.decode s pos))])
        (condP (n == (3 : Int))
        (Post (AV.tup [AV.int IntKind.i64 (0 : Int), AV.bool false])
        [AObj.cells [AV.int IntKind.i64 x, AV.int IntKind.i64 y, AV.int IntKind.i64 z], AObj.siter s (pos + Prod.snd (Utf8.decode s pos))])
        (condP (decide (n > (0 : Int)))
        (needP ((0 : Int) ≤ (2 : Int) ∧ (2 : Int) < (3 : Int))
        (condP (z == (0 : Int))
        (Post (AV.tup [AV.int IntKind.i64 (0 : Int), AV.bool false])
        [AObj.cells [AV.int IntKind.i64 x, AV.int IntKind.i64 y, AV.int IntKind.i64 z], AObj.siter s (pos + Prod.snd (Utf8.decode s pos))])
        (needP ((0 : Int) ≤ (2 : Int) ∧ (2 : Int) < (3 : Int))
        (needP ((0 : Int) ≤ (2 : Int) ∧ (2 : Int) < (3 : Int))
        (AWP Tryd.prog 88 n_1 c53_4
        [(4, AV.ptr 0 0), (5, AV.int IntKind.i64 (2 : Int)), (6, AV.int IntKind.i64 (IntKind.wrap IntKind.i64 (n + (1 : Int)))),
        (15, AV.ptr 1 0)]
        [AObj.cells
        [AV.int IntKind.i64 x, AV.int IntKind.i64 y,
        AV.int IntKind.i64
        (IntKind.wrap IntKind.i64
        (IntKind.wrap IntKind.i64 (z * (10 : Int)) + IntKind.wrap IntKind.i64 (IntKind.wrap IntKind.i32 ((↑(Prod.fst (Utf8.decode s pos)) : Int) - (48 : Int)))))],
        AObj.siter s (pos + Prod.snd (Utf8.decode s pos))]
        (q53_2 n_1 Post))))))
        (needP ((0 : Int) ≤ (2 : Int) ∧ (2 : Int) < (3 : Int))
        (needP ((0 : Int) ≤ (2 : Int) ∧ (2 : Int) < (3 : Int))
        (AWP Tryd.prog 88 n_1 c53_4
        [(4, AV.ptr 0 0), (5, AV.int IntKind.i64 (2 : Int)), (6, AV.int IntKind.i64 (IntKind.wrap IntKind.i64 (n + (1 : Int)))),
        (15, AV.ptr 1 0)]
        [AObj.cells
        [AV.int IntKind.i64 x, AV.int IntKind.i64 y,
        AV.int IntKind.i64
        (IntKind.wrap IntKind.i64
        (IntKind.wrap IntKind.i64 (z * (10 : Int)) + IntKind.wrap IntKind.i64 (IntKind.wrap IntKind.i32 ((↑(Prod.fst (Utf8.decode s pos)) : Int) - (48 : Int)))))],
        AObj.siter s (pos + Prod.snd (Utf8.decode s pos))]
        (q53_2 n_1 Post))))))))
        (condP (decide ((↑(Prod.fst (Utf8.decode s pos)) : Int) < (48 : Int)))
        (Post (AV.tup [AV.int IntKind.i64 (0 : Int), AV.bool false])
        [AObj.cells [AV.int IntKind.i64 x, AV.int IntKind.i64 y, AV.int IntKind.i64 z], AObj.siter s (pos + Prod.snd (Utf8.decode s pos))])
        (condP (decide ((↑(Prod.fst (Utf8.decode s pos)) : Int) > (57 : Int)))
        (Post (AV.tup [AV.int IntKind.i64 (0 : Int), AV.bool false])
        [AObj.cells [AV.int IntKind.i64 x, AV.int IntKind.i64 y, AV.int IntKind.i64 z], AObj.siter s (pos + Prod.snd (Utf8.decode s pos))])
        (condP (n == (3 : Int))
        (Post (AV.tup [AV.int IntKind.i64 (0 : Int), AV.bool false])
        [AObj.cells [AV.int IntKind.i64 x, AV.int IntKind.i64 y, AV.int IntKind.i64 z], AObj.siter s (pos + Prod.snd (Utf8.decode s pos))])
        (condP (decide (n > (0 : Int)))
        (needP ((0 : Int) ≤ (2 : Int) ∧ (2 : Int) < (3 : Int))
        (condP (z == (0 : Int))
        (Post (AV.tup [AV.int IntKind.i64 (0 : Int), AV.bool false])
        [AObj.cells [AV.int IntKind.i64 x, AV.int IntKind.i64 y, AV.int IntKind.i64 z], AObj.siter s (pos + Prod.snd (Utf8.decode s pos))])
        (needP ((0 : Int) ≤ (2 : Int) ∧ (2 : Int) < (3 : Int))
        (needP ((0 : Int) ≤ (2 : Int) ∧ (2 : Int) < (3 : Int))
        (AWP Tryd.prog 88 n_1 c53_4
        [(4, AV.ptr 0 0), (5, AV.int IntKind.i64 (2 : Int)), (6, AV.int IntKind.i64 (IntKind.wrap IntKind.i64 (n + (1 : Int)))),
        (15, AV.ptr 1 0)]
        [AObj.cells
        [AV.int IntKind.i64 x, AV.int IntKind.i64 y,
        AV.int IntKind.i64
        (IntKind.wrap IntKind.i64
        (IntKind.wrap IntKind.i64 (z * (10 : Int)) + IntKind.wrap IntKind.i64 (IntKind.wrap IntKind.i32 ((↑(Prod.fst (Utf8.decode s pos)) : Int) - (48 : Int)))))],
        AObj.siter s (pos + Prod.snd (Utf8.decode s pos))]
        (q53_2 n_1 Post))))))
        (needP ((0 : Int) ≤ (2 : Int) ∧ (2 : Int) < (3 : Int))
        (needP ((0 : Int) ≤ (2 : Int) ∧ (2 : Int) < (3 : Int))
        (AWP Tryd.prog 88 n_1 c53_4
        [(4, AV.ptr 0 0), (5, AV.int IntKind.i64 (2 : Int)), (6, AV.int IntKind.i64 (IntKind.wrap IntKind.i64 (n + (1 : Int)))),
        (15, AV.ptr 1 0)]
        [AObj.cells
        [AV.int IntKind.i64 x, AV.int IntKind.i64 y,
        AV.int IntKind.i64
        (IntKind.wrap IntKind.i64
        (IntKind.wrap IntKind.i64 (z * (10 : Int)) + IntKind.wrap IntKind.i64 (IntKind.wrap IntKind.i32 ((↑(Prod.fst (Utf8.decode s pos)) : Int) - (48 : Int)))))],
        AObj.siter s (pos + Prod.snd (Utf8.decode s pos))]
        (q53_2 n_1 Post)))))))))
        (condP (decide ((↑(Prod.fst (Utf8.decode s pos)) : Int) < (48 : Int)))
        (Post (AV.tup [AV.int IntKind.i64 (0 : Int), AV.bool false])
        [AObj.cells [AV.int IntKind.i64 x, AV.int IntKind.i64 y, AV.int IntKind.i64 z], AObj.siter s (pos + Prod.snd (Utf8.decode s pos))])
        (condP (decide ((↑(Prod.fst (Utf8.decode s pos)) : Int) > (57 : Int)))
        (Post (AV.tup [AV.int IntKind.i64 (0 : Int), AV.bool false])
        [AObj.cells [AV.int IntKind.i64 x, AV.int IntKind.i64 y, AV.int IntKind.i64 z], AObj.siter s (pos + Prod.snd (Utf8.decode s pos))])
        (condP (n == (3 : Int))
        (Post (AV.tup [AV.int IntKind.i64 (0 : Int), AV.bool false])
        [AObj.cells [AV.int IntKind.i64 x, AV.int IntKind.i64 y, AV.int IntKind.i64 z], AObj.siter s (pos + Prod.snd (Utf8.decode s pos))])
        (condP (decide (n > (0 : Int)))
        (needP ((0 : Int) ≤ (2 : Int) ∧ (2 : Int) < (3 : Int))
        (condP (z == (0 : Int))
        (Post (AV.tup [AV.int IntKind.i64 (0 : Int), AV.bool false])
        [AObj.cells [AV.int IntKind.i64 x, AV.int IntKind.i64 y, AV.int IntKind.i64 z], AObj.siter s (pos + Prod.snd (Utf8.decode s pos))])
        (needP ((0 : Int) ≤ (2 : Int) ∧ (2 : Int) < (3 : Int))
        (needP ((0 : Int) ≤ (2 : Int) ∧ (2 : Int) < (3 : Int))
        (AWP Tryd.prog 88 n_1 c53_4
        [(4, AV.ptr 0 0), (5, AV.int IntKind.i64 (2 : Int)), (6, AV.int IntKind.i64 (IntKind.wrap IntKind.i64 (n + (1 : Int)))),
        (15, AV.ptr 1 0)]
        [AObj.cells
        [AV.int IntKind.i64 x, AV.int IntKind.i64 y,
        AV.int IntKind.i64
        (IntKind.wrap IntKind.i64
        (IntKind.wrap IntKind.i64 (z * (10 : Int)) + IntKind.wrap IntKind.i64 (IntKind.wrap IntKind.i32 ((↑(Prod.fst (Utf8.decode s pos)) : Int) - (48 : Int)))))],
        AObj.siter s (pos + Prod.snd (Utf8.decode s pos))]
        (q53_2 n_1 Post))))))
        (needP ((0 : Int) ≤ (2 : Int) ∧ (2 : Int) < (3 : Int))
        (needP ((0 : Int) ≤ (2 : Int) ∧ (2 : Int) < (3 : Int))
        (AWP Tryd.prog 88 n_1 c53_4
        [(4, AV.ptr 0 0), (5, AV.int IntKind.i64 (2 : Int)), (6, AV.int IntKind.i64 (IntKind.wrap IntKind.i64 (n + (1 : Int)))),
        (15, AV.ptr 1 0)]
        [AObj.cells
        [AV.int IntKind.i64 x, AV.int IntKind.i64 y,
        AV.int IntKind.i64
        (IntKind.wrap IntKind.i64
        (IntKind.wrap IntKind.i64 (z * (10 : Int)) + IntKind.wrap IntKind.i64 (IntKind.wrap IntKind.i32 ((↑(Prod.fst (Utf8.decode s pos)) : Int) - (48 : Int)))))],
        AObj.siter s (pos + Prod.snd (Utf8.decode s pos))]
        (q53_2 n_1 Post)))))))))
      (AWP Tryd.prog 88 n_1 c53_12 [(4, AV.ptr 0 0), (5, AV.int IntKind.i64 (2 : Int)), (6, AV.int IntKind.i64 n)]
        [AObj.cells [AV.int IntKind.i64 x, AV.int IntKind.i64 y, AV.int IntKind.i64 z], AObj.siter s pos] (q53_0 n_1 Post)) →
    AWP Tryd.prog 88 n_1 c53_4 [(4, AV.ptr 0 0), (5, AV.int IntKind.i64 (2 : Int)), (6, AV.int IntKind.i64 n), (15, AV.ptr 1 0)]
      [AObj.cells [AV.int IntKind.i64 x, AV.int IntKind.i64 y, AV.int IntKind.i64 z], AObj.siter s pos] (q53_2 n_1 Post) := fun x y z n s pos n Post h => Go.Ab.AWP.loop' g53 (Cfg.live g53) c53_4 (by kernel_rfl) (by kernel_rfl) (Go.Ab.kc (by kernel_rfl) h)
theorem v53_12 : ∀ (x y z k n : Int) (s : ByteArray) (pos n_1 : Nat) (Post : AV → List AObj → Prop),
  condP (k != (2 : Int)) (Post (AV.tup [AV.int IntKind.i64 (0 : Int), AV.bool false]) [AObj.cells [AV.int IntKind.i64 x, AV.int IntKind.i64 y, AV.int IntKind.i64 z], AObj.siter s pos])
      (condP (n == (0 : Int)) (Post (AV.tup [AV.int IntKind.i64 (0 : Int), AV.bool false]) [AObj.cells [AV.int IntKind.i64 x, AV.int IntKind.i64 y, AV.int IntKind.i64 z], AObj.siter s pos])
        (ASpec Tryd.prog 70 [AV.agg [AV.int IntKind.i64 x, AV.int IntKind.i64 y, AV.int IntKind.i64 z]]
        [AObj.cells [AV.int IntKind.i64 x, AV.int IntKind.i64 y, AV.int IntKind.i64 z], AObj.siter s pos] fun (r : AV) (H' : List AObj) =>
        ∃ (x_1 : Int × Bool),
        r = AV.tup [AV.int IntKind.i64 (Prod.fst x_1), AV.bool (Prod.snd x_1)] ∧
        H' = [AObj.cells [AV.int IntKind.i64 x, AV.int IntKind.i64 y, AV.int IntKind.i64 z], AObj.siter s pos] ∧
        ASpec Tryd.prog 71 [AV.int IntKind.i64 (Prod.fst x_1)] [AObj.cells [AV.int IntKind.i64 x, AV.int IntKind.i64 y, AV.int IntKind.i64 z], AObj.siter s pos]
        fun (r : AV) (H' : List AObj) =>
        ∃ (x_2 : (Int × Int × Int) × Bool),
        r =
        AV.tup
        [AV.agg [AV.int IntKind.i64 (Prod.fst (Prod.fst x_2)), AV.int IntKind.i64 (Prod.fst (Prod.snd (Prod.fst x_2))), AV.int IntKind.i64 (Prod.snd (Prod.snd (Prod.fst x_2)))],
        AV.bool (Prod.snd x_2)] ∧
        H' = [AObj.cells [AV.int IntKind.i64 x, AV.int IntKind.i64 y, AV.int IntKind.i64 z], AObj.siter s pos] ∧
        condP (Prod.snd x_1)
        ((AV.agg [AV.int IntKind.i64 x, AV.int IntKind.i64 y, AV.int IntKind.i64 z] = AV.agg [AV.int IntKind.i64 x, AV.int IntKind.i64 y, AV.int IntKind.i64 z] ∧
        [AObj.cells [AV.int IntKind.i64 x, AV.int IntKind.i64 y, AV.int IntKind.i64 z], AObj.siter s pos,
        AObj.cells
        [AV.int IntKind.i64 (Prod.fst (Prod.fst x_2)), AV.int IntKind.i64 (Prod.fst (Prod.snd (Prod.fst x_2))), AV.int IntKind.i64 (Prod.snd (Prod.snd (Prod.fst x_2)))]] =
        [AObj.cells [AV.int IntKind.i64 x, AV.int IntKind.i64 y, AV.int IntKind.i64 z], AObj.siter s pos,
        AObj.cells
        [AV.int IntKind.i64 (Prod.fst (Prod.fst x_2)), AV.int IntKind.i64 (Prod.fst (Prod.snd (Prod.fst x_2))), AV.int IntKind.i64 (Prod.snd (Prod.snd (Prod.fst x_2)))]]) ∧
        (AV.agg [AV.int IntKind.i64 (Prod.fst (Prod.fst x_2)), AV.int IntKind.i64 (Prod.fst (Prod.snd (Prod.fst x_2))), AV.int IntKind.i64 (Prod.snd (Prod.snd (Prod.fst x_2)))] =
        AV.agg
        [AV.int IntKind.i64 (Prod.fst (Prod.fst x_2)), AV.int IntKind.i64 (Prod.fst (Prod.snd (Prod.fst x_2))), AV.int IntKind.i64 (Prod.snd (Prod.snd (Prod.fst x_2)))] ∧
        [AObj.cells [AV.int IntKind.i64 x, AV.int IntKind.i64 y, AV.int IntKind.i64 z], AObj.siter s pos,
        AObj.cells
        [AV.int IntKind.i64 (Prod.fst (Prod.fst x_2)), AV.int IntKind.i64 (Prod.fst (Prod.snd (Prod.fst x_2))),
        AV.int IntKind.i64 (Prod.snd (Prod.snd (Prod.fst x_2)))]] =
        [AObj.cells [AV.int IntKind.i64 x, AV.int IntKind.i64 y, AV.int IntKind.i64 z], AObj.siter s pos,
        AObj.cells
        [AV.int IntKind.i64 (Prod.fst (Prod.fst x_2)), AV.int IntKind.i64 (Prod.fst (Prod.snd (Prod.fst x_2))),
        AV.int IntKind.i64 (Prod.snd (Prod.snd (Prod.fst x_2)))]]) ∧
        Post
        (AV.tup
        [AV.int IntKind.i64 (Prod.fst x_1), AV.bool (Prod.fst (Prod.fst x_2) == x && (Prod.fst (Prod.snd (Prod.fst x_2)) == y && Prod.snd (Prod.snd (Prod.fst x_2)) == z))])
        [AObj.cells [AV.int IntKind.i64 x, AV.int IntKind.i64 y, AV.int IntKind.i64 z], AObj.siter s pos,
        AObj.cells
        [AV.int IntKind.i64 (Prod.fst (Prod.fst x_2)), AV.int IntKind.i64 (Prod.fst (Prod.snd (Prod.fst x_2))), AV.int IntKind.i64 (Prod.snd (Prod.snd (Prod.fst x_2)))]])
        (AV.tup [] = AV.tup [] ∧
        AV.tup [] = AV.tup [] ∧
        Post (AV.tup [AV.int IntKind.i64 (Prod.fst x_1), AV.bool false])
        [AObj.cells [AV.int IntKind.i64 x, AV.int IntKind.i64 y, AV.int IntKind.i64 z], AObj.siter s pos,
        AObj.cells
        [AV.int IntKind.i64 (Prod.fst (Prod.fst x_2)), AV.int IntKind.i64 (Prod.fst (Prod.snd (Prod.fst x_2))),
        AV.int IntKind.i64 (Prod.snd (Prod.snd (Prod.fst x_2)))]]))) →
    AWP Tryd.prog 88 n_1 c53_12 [(4, AV.ptr 0 0), (5, AV.int IntKind.i64 k), (6, AV.int IntKind.i64 n)]
      [AObj.cells [AV.int IntKind.i64 x, AV.int IntKind.i64 y, AV.int IntKind.i64 z], AObj.siter s pos] (q53_0 n_1 Post) := fun x y z k n s pos n Post h => Go.Ab.awp_sound g53 n _ _ _ _ (Go.Ab.kc (by kernel_rfl) h)

-- 54
noncomputable def l54 : Nat → List Nat
  | _ => []
noncomputable def u54 : Nat → Bool
  | _ => false
noncomputable def m54 : Nat → Bool
  | _ => false
noncomputable def g54 : Cfg := { N := 25, live := l54, cut := u54, mu := m54, ret := rets }
theorem s54 : ∀ (p : Int) (Post : AV → List AObj → Prop),
  (ASpec Tryd.prog 71 [AV.int IntKind.i64 p] [] fun (r : AV) (H' : List AObj) =>
      ∃ (x : (Int × Int × Int) × Bool),
        r =
        AV.tup
        [AV.agg [AV.int IntKind.i64 (Prod.fst (Prod.fst x)), AV.int IntKind.i64 (Prod.fst (Prod.snd (Prod.fst x))), AV.int IntKind.i64 (Prod.snd (Prod.snd (Prod.fst x)))],
        AV.bool (Prod.snd x)] ∧
        H' = [] ∧
        condP (!Prod.snd x)
        (Post (AV.str { data := #[] })
        [AObj.cells [AV.int IntKind.i64 (Prod.fst (Prod.fst x)), AV.int IntKind.i64 (Prod.fst (Prod.snd (Prod.fst x))), AV.int IntKind.i64 (Prod.snd (Prod.snd (Prod.fst x)))]])
        (needP ((0 : Int) ≤ (0 : Int) ∧ (0 : Int) < (3 : Int))
        (needP ((0 : Int) ≤ (1 : Int) ∧ (1 : Int) < (3 : Int))
        (needP ((0 : Int) ≤ (2 : Int) ∧ (2 : Int) < (3 : Int))
        (ASpec Tryd.prog 72 [AV.int IntKind.i64 (Prod.fst (Prod.fst x))]
        [AObj.cells [AV.int IntKind.i64 (Prod.fst (Prod.fst x)), AV.int IntKind.i64 (Prod.fst (Prod.snd (Prod.fst x))), AV.int IntKind.i64 (Prod.snd (Prod.snd (Prod.fst x)))]]
        fun (r : AV) (H' : List AObj) =>
        ∃ (x_1 : ByteArray),
        r = AV.str x_1 ∧
        H' = [AObj.cells [AV.int IntKind.i64 (Prod.fst (Prod.fst x)), AV.int IntKind.i64 (Prod.fst (Prod.snd (Prod.fst x))), AV.int IntKind.i64 (Prod.snd (Prod.snd (Prod.fst x)))]] ∧
        (AV.int IntKind.i64 (Prod.snd (Prod.snd (Prod.fst x))) = AV.int IntKind.i64 (Prod.snd (Prod.snd (Prod.fst x))) ∧
        [AObj.cells
        [AV.int IntKind.i64 (Prod.fst (Prod.fst x)), AV.int IntKind.i64 (Prod.fst (Prod.snd (Prod.fst x))), AV.int IntKind.i64 (Prod.snd (Prod.snd (Prod.fst x)))]] =
        [AObj.cells
        [AV.int IntKind.i64 (Prod.fst (Prod.fst x)), AV.int IntKind.i64 (Prod.fst (Prod.snd (Prod.fst x))), AV.int IntKind.i64 (Prod.snd (Prod.snd (Prod.fst x)))]]) ∧
        (AV.int IntKind.i64 (Prod.fst (Prod.snd (Prod.fst x))) = AV.int IntKind.i64 (Prod.fst (Prod.snd (Prod.fst x))) ∧
        [AObj.cells
        [AV.int IntKind.i64 (Prod.fst (Prod.fst x)), AV.int IntKind.i64 (Prod.fst (Prod.snd (Prod.fst x))), AV.int IntKind.i64 (Prod.snd (Prod.snd (Prod.fst x)))]] =
        [AObj.cells
        [AV.int IntKind.i64 (Prod.fst (Prod.fst x)), AV.int IntKind.i64 (Prod.fst (Prod.snd (Prod.fst x))), AV.int IntKind.i64 (Prod.snd (Prod.snd (Prod.fst x)))]]) ∧
        needP ((↑(ByteArray.size x_1 + 1) : Int) ≤ (9223372036854775807 : Int))
        (ASpec Tryd.prog 72 [AV.int IntKind.i64 (Prod.fst (Prod.snd (Prod.fst x)))]
        [AObj.cells
        [AV.int IntKind.i64 (Prod.fst (Prod.fst x)), AV.int IntKind.i64 (Prod.fst (Prod.snd (Prod.fst x))), AV.int IntKind.i64 (Prod.snd (Prod.snd (Prod.fst x)))]]
        fun (r : AV) (H' : List AObj) =>
        ∃ (x_2 : ByteArray),
        r = AV.str x_2 ∧
        H' =
        [AObj.cells
        [AV.int IntKind.i64 (Prod.fst (Prod.fst x)), AV.int IntKind.i64 (Prod.fst (Prod.snd (Prod.fst x))),
        AV.int IntKind.i64 (Prod.snd (Prod.snd (Prod.fst x)))]] ∧
        (AV.int IntKind.i64 (Prod.snd (Prod.snd (Prod.fst x))) = AV.int IntKind.i64 (Prod.snd (Prod.snd (Prod.fst x))) ∧
        [AObj.cells
        [AV.int IntKind.i64 (Prod.fst (Prod.fst x)), AV.int IntKind.i64 (Prod.fst (Prod.snd (Prod.fst x))),
        AV.int IntKind.i64 (Prod.snd (Prod.snd (Prod.fst x)))]] =
        [AObj.cells
        [AV.int IntKind.i64 (Prod.fst (Prod.fst x)), AV.int IntKind.i64 (Prod.fst (Prod.snd (Prod.fst x))),
        AV.int IntKind.i64 (Prod.snd (Prod.snd (Prod.fst x)))]]) ∧
        needP ((↑(ByteArray.size (x_1 ++ { data := #[(46 : UInt8)] }) + ByteArray.size x_2) : Int) ≤ (9223372036854775807 : Int))
        (needP ((↑(ByteArray.size (x_1 ++ { data := #[(46 : UInt8)] } ++ x_2) + 1) : Int) ≤ (9223372036854775807 : Int))
        (ASpec Tryd.prog 72 [AV.int IntKind.i64 (Prod.snd (Prod.snd (Prod.fst x)))]
        [AObj.cells
        [AV.int IntKind.i64 (Prod.fst (Prod.fst x)), AV.int IntKind.i64 (Prod.fst (Prod.snd (Prod.fst x))),
        AV.int IntKind.i64 (Prod.snd (Prod.snd (Prod.fst x)))]]
        fun (r : AV) (H' : List AObj) =>
        ∃ (x_3 : ByteArray),
        r = AV.str x_3 ∧
        H' =
        [AObj.cells
        [AV.int IntKind.i64 (Prod.fst (Prod.fst x)), AV.int IntKind.i64 (Prod.fst (Prod.snd (Prod.fst x))),
        AV.int IntKind.i64 (Prod.snd (Prod.snd (Prod.fst x)))]] ∧
        needP
        ((↑(ByteArray.size (x_1 ++ { data := #[(46 : UInt8)] } ++ x_2 ++ { data := #[(46 : UInt8)] }) + ByteArray.size x_3) : Int) ≤
        (9223372036854775807 : Int))
        (Post (AV.str (x_1 ++ { data := #[(46 : UInt8)] } ++ x_2 ++ { data := #[(46 : UInt8)] } ++ x_3))
        [AObj.cells
        [AV.int IntKind.i64 (Prod.fst (Prod.fst x)), AV.int IntKind.i64 (Prod.fst (Prod.snd (Prod.fst x))),
        AV.int IntKind.i64 (Prod.snd (Prod.snd (Prod.fst x)))]]))))))))) →
    ASpec Tryd.prog 54 [AV.int IntKind.i64 p] [] Post := fun p Post h => Go.Ab.ASpec.of_vc g54 Go.Proofs.Tryd.func54 (by kernel_rfl) (by kernel_rfl) (by kernel_rfl) (Go.Ab.kc (by kernel_rfl) h)

end
end D
end

section
/- The plain law of versions and their texts. -/

set_option linter.unusedVariables false
set_option linter.unusedSimpArgs false
namespace Ve

/-- a part's digits -/
def dg (n : Nat) : List UInt8 :=
  if n < 10 then [UInt8.ofNat (48 + n)] else if n < 100 then [UInt8.ofNat (48 + n / 10), UInt8.ofNat (48 + n % 10)] else [UInt8.ofNat (48 + n / 100), UInt8.ofNat (48 + n / 10 % 10), UInt8.ofNat (48 + n % 10)]

def text3 (a b c : Nat) : List UInt8 := dg a ++ 46 :: (dg b ++ 46 :: dg c)
def textM (p : Int) : List UInt8 := if 0 ≤ p ∧ p < 1000000000 then text3 (p / 1000000).toNat (p / 1000 % 1000).toNat (p % 1000).toNat else []

theorem dg_len (n : Nat) : 1 ≤ (dg n).length ∧ (dg n).length ≤ 3 := by
  unfold dg; split
  · simp
  · split <;> simp

/-- the code's reading: the parts that are done, the one that is read, how many digits it has -/
def vr : List UInt8 → List Nat → Nat → Nat → Option (List Nat × Nat × Nat)
  | [], done, v, n => some (done, v, n)
  | ch :: l, done, v, n =>
    if ch.toNat = 46 ∧ 0 < n ∧ done.length < 2 then vr l (done ++ [v]) 0 0
    else if ch.toNat < 48 ∨ 57 < ch.toNat ∨ n = 3 ∨ (0 < n ∧ v = 0) then none
    else vr l done (v * 10 + (ch.toNat - 48)) (n + 1)

theorem pow_le {n : Nat} (h : n ≤ 3) : 10 ^ n ≤ 1000 := Nat.pow_le_pow_right (by omega) h

theorem vr_dg {v : Nat} (hv : v < 1000) (l : List UInt8) (done : List Nat) : vr (dg v ++ l) done 0 0 = vr l done v (dg v).length := by
  have h1 : ∀ d, d < 10 → (UInt8.ofNat (48 + d)).toNat = 48 + d := fun d hd => by rw [UInt8.toNat_ofNat', Nat.mod_eq_of_lt (by omega)]
  unfold dg
  by_cases h10 : v < 10
  · rw [if_pos h10]
    simp only [List.cons_append, List.nil_append, vr, h1 v h10, List.length_cons, List.length_nil]
    rw [if_neg (by omega), if_neg (by omega)]
    congr 1; omega
  rw [if_neg h10]
  by_cases h100 : v < 100
  · rw [if_pos h100]
    simp only [List.cons_append, List.nil_append, vr, h1 (v / 10) (by omega), h1 (v % 10) (by omega), List.length_cons, List.length_nil]
    rw [if_neg (by omega), if_neg (by omega), if_neg (by omega), if_neg (by omega)]
    congr 1; omega
  · rw [if_neg h100]
    simp only [List.cons_append, List.nil_append, vr, h1 (v / 100) (by omega), h1 (v / 10 % 10) (by omega), h1 (v % 10) (by omega), List.length_cons, List.length_nil]
    rw [if_neg (by omega), if_neg (by omega), if_neg (by omega), if_neg (by omega), if_neg (by omega), if_neg (by omega)]
    congr 1; omega

theorem vr_text {a b c : Nat} (ha : a < 1000) (hb : b < 1000) (hc : c < 1000) : vr (text3 a b c) [] 0 0 = some ([a, b], c, (dg c).length) := by
  have la := (dg_len a).1
  have lb := (dg_len b).1
  have h46 : (46 : UInt8).toNat = 46 := rfl
  unfold text3
  rw [vr_dg ha]
  simp only [vr, h46]
  rw [if_pos ⟨trivial, by omega, by simp⟩, vr_dg hb]
  simp only [vr, h46]
  rw [if_pos ⟨trivial, by omega, by simp⟩]
  have := vr_dg hc [] ([] ++ [a] ++ [b])
  rw [List.append_nil] at this
  rw [this]
  rfl

/-- what the code reads -/
def readV (l : List UInt8) : Int × Bool := match vr l [] 0 0 with
  | some ([a, b], c, _ + 1) => ((a * 1000000 + b * 1000 + c : Nat), true)
  | _ => (0, false)

theorem textM_split {p : Int} (h : 0 ≤ p ∧ p < 1000000000) : ∃ a b c : Nat, a < 1000 ∧ b < 1000 ∧ c < 1000 ∧ p = (a * 1000000 + b * 1000 + c : Nat) ∧ textM p = text3 a b c := by
  refine ⟨(p / 1000000).toNat, (p / 1000 % 1000).toNat, (p % 1000).toNat, by omega, by omega, by omega, by omega, ?_⟩
  unfold textM
  rw [if_pos h]

theorem readV_text {p : Int} (h : 0 ≤ p ∧ p < 1000000000) : readV (textM p) = (p, true) := by
  obtain ⟨a, b, c, ha, hb, hc, rfl, e⟩ := textM_split h
  rw [e]
  unfold readV
  rw [vr_text ha hb hc]
  obtain ⟨k, hk⟩ : ∃ k, (dg c).length = k + 1 := ⟨(dg c).length - 1, by have := (dg_len c).1; omega⟩
  rw [hk]

/-- the document's reading -/
def w (x : Int) : Int := Go.IntKind.wrap .i64 x
theorem text3_len (a b c : Nat) : 5 ≤ (text3 a b c).length ∧ (text3 a b c).length ≤ 11 := by
  have h1 := dg_len a
  have h2 := dg_len b
  have h3 := dg_len c
  simp only [text3, List.length_append, List.length_cons]; omega

end Ve
end

section
/- Bytes and runes: plain facts. -/

set_option linter.unusedVariables false
set_option linter.unusedSimpArgs false
set_option maxRecDepth 100000
open Go Go.Ab
namespace D

abbrev B (l : List UInt8) : ByteArray := ⟨l.toArray⟩

theorem B_size (l : List UInt8) : (B l).size = l.length := by simp [ByteArray.size]
theorem B_append (a b : List UInt8) : B a ++ B b = B (a ++ b) := by
  apply ByteArray.ext
  simp
/-! ### the rune at a place -/

/-- a byte behind a place -/
abbrev bt (l : List UInt8) (p k : Nat) : Nat := (l.getD (p + k) 0).toNat

theorem bt_lt (l : List UInt8) (p k : Nat) : bt l p k < 256 := (l.getD (p + k) 0).toNat_lt

theorem get_B (l : List UInt8) (j : Nat) : (B l).get! j = l.getD j 0 := by
  show l.toArray[j]! = _
  rw [getElem!_def]
  simp [List.getD]
  rfl

abbrev wideC (a b0 b1 b2 b3 : Nat) : Nat :=
  if 194 ≤ b0 ∧ b0 ≤ 223 then (if 2 ≤ a ∧ (128 ≤ b1 ∧ b1 ≤ 191) then 2 else 0)
  else if 224 ≤ b0 ∧ b0 ≤ 239 then (if 3 ≤ a ∧ (128 ≤ b1 ∧ b1 ≤ 191) ∧ (128 ≤ b2 ∧ b2 ≤ 191) ∧ ¬ (b0 = 224 ∧ b1 < 160) ∧ ¬ (b0 = 237 ∧ 159 < b1) then 3 else 0)
  else if 240 ≤ b0 ∧ b0 ≤ 244 then (if 4 ≤ a ∧ (128 ≤ b1 ∧ b1 ≤ 191) ∧ (128 ≤ b2 ∧ b2 ≤ 191) ∧ (128 ≤ b3 ∧ b3 ≤ 191) ∧ ¬ (b0 = 240 ∧ b1 < 144) ∧ ¬ (b0 = 244 ∧ 143 < b1) then 4 else 0)
  else 0

def wideM (l : List UInt8) (p : Nat) : Nat := wideC (l.length - p) (bt l p 0) (bt l p 1) (bt l p 2) (bt l p 3)

abbrev runeC (w b0 b1 b2 b3 : Nat) : Nat × Nat :=
  if b0 < 128 then (b0, 1) else if w = 0 then (65533, 1) else if w = 2 then (b0 % 32 * 64 + b1 % 64, 2)
  else if w = 3 then ((b0 % 16 * 64 + b1 % 64) * 64 + b2 % 64, 3) else (((b0 % 8 * 64 + b1 % 64) * 64 + b2 % 64) * 64 + b3 % 64, 4)

def runeM (l : List UInt8) (p : Nat) : Nat × Nat := runeC (wideM l p) (bt l p 0) (bt l p 1) (bt l p 2) (bt l p 3)

theorem decode_core (a b0 b1 b2 b3 : Nat) (h0 : b0 < 256) (h1 : b1 < 256) (h2 : b2 < 256) (h3 : b3 < 256) :
    (if b0 < 128 then (b0, 1)
     else if b0 / 32 = 6 ∧ (1 < a ∧ b1 / 64 = 2) then (if 128 ≤ b0 % 32 * 64 + b1 % 64 then (b0 % 32 * 64 + b1 % 64, 2) else (65533, 1))
     else if b0 / 16 = 14 ∧ (1 < a ∧ b1 / 64 = 2) ∧ (2 < a ∧ b2 / 64 = 2) then
       (if 2048 ≤ b0 % 16 * 4096 + b1 % 64 * 64 + b2 % 64 ∧ (b0 % 16 * 4096 + b1 % 64 * 64 + b2 % 64 < 55296 ∨ (57344 ≤ b0 % 16 * 4096 + b1 % 64 * 64 + b2 % 64 ∧ b0 % 16 * 4096 + b1 % 64 * 64 + b2 % 64 ≤ 1114111))
        then (b0 % 16 * 4096 + b1 % 64 * 64 + b2 % 64, 3) else (65533, 1))
     else if b0 / 8 = 30 ∧ (1 < a ∧ b1 / 64 = 2) ∧ (2 < a ∧ b2 / 64 = 2) ∧ (3 < a ∧ b3 / 64 = 2) then
       (if 65536 ≤ b0 % 8 * 262144 + b1 % 64 * 4096 + b2 % 64 * 64 + b3 % 64 ∧ (b0 % 8 * 262144 + b1 % 64 * 4096 + b2 % 64 * 64 + b3 % 64 < 55296 ∨ (57344 ≤ b0 % 8 * 262144 + b1 % 64 * 4096 + b2 % 64 * 64 + b3 % 64 ∧ b0 % 8 * 262144 + b1 % 64 * 4096 + b2 % 64 * 64 + b3 % 64 ≤ 1114111))
        then (b0 % 8 * 262144 + b1 % 64 * 4096 + b2 % 64 * 64 + b3 % 64, 4) else (65533, 1))
     else ((65533 : Nat), (1 : Nat))) = runeC (wideC a b0 b1 b2 b3) b0 b1 b2 b3 := by
  have e2 : ∀ w : Nat, w = 0 ∨ w = 2 ∨ w = 3 ∨ w = 4 ∨ 4 < w ∨ w = 1 := by omega
  by_cases c0 : b0 < 128
  · rw [if_pos c0]; unfold runeC; rw [if_pos c0]
  rw [if_neg c0]
  unfold runeC
  rw [if_neg c0]
  by_cases c1 : 194 ≤ b0 ∧ b0 ≤ 223
  · unfold wideC
    rw [if_pos c1]
    by_cases d : 1 < a ∧ b1 / 64 = 2
    · rw [if_pos ⟨by omega, d⟩, if_pos (by omega), if_pos (show 2 ≤ a ∧ (128 ≤ b1 ∧ b1 ≤ 191) by omega)]; rfl
    · rw [if_neg (fun h => d h.2), if_neg (fun h => d h.2.1), if_neg (fun h => d h.2.1), if_neg (show ¬ (2 ≤ a ∧ (128 ≤ b1 ∧ b1 ≤ 191)) by omega)]; rfl
  by_cases c2 : 224 ≤ b0 ∧ b0 ≤ 239
  · unfold wideC
    rw [if_neg c1, if_pos c2]
    rw [if_neg (show ¬ (b0 / 32 = 6 ∧ (1 < a ∧ b1 / 64 = 2)) by omega)]
    by_cases d : (1 < a ∧ b1 / 64 = 2) ∧ (2 < a ∧ b2 / 64 = 2)
    · rw [if_pos ⟨by omega, d⟩]
      by_cases f : ¬ (b0 = 224 ∧ b1 < 160) ∧ ¬ (b0 = 237 ∧ 159 < b1)
      · rw [if_pos (show 3 ≤ a ∧ (128 ≤ b1 ∧ b1 ≤ 191) ∧ (128 ≤ b2 ∧ b2 ≤ 191) ∧ ¬ (b0 = 224 ∧ b1 < 160) ∧ ¬ (b0 = 237 ∧ 159 < b1) by omega), if_pos (by omega)]
        simp only [if_neg (show ¬ (3 = 0) by omega), if_neg (show ¬ (3 = 2) by omega), if_true]
        rw [show b0 % 16 * 4096 + b1 % 64 * 64 + b2 % 64 = (b0 % 16 * 64 + b1 % 64) * 64 + b2 % 64 by omega]
      · rw [if_neg (show ¬ (3 ≤ a ∧ (128 ≤ b1 ∧ b1 ≤ 191) ∧ (128 ≤ b2 ∧ b2 ≤ 191) ∧ ¬ (b0 = 224 ∧ b1 < 160) ∧ ¬ (b0 = 237 ∧ 159 < b1)) by omega), if_neg (by omega)]; rfl
    · rw [if_neg (fun h => d h.2), if_neg (show ¬ (b0 / 8 = 30 ∧ (1 < a ∧ b1 / 64 = 2) ∧ (2 < a ∧ b2 / 64 = 2) ∧ (3 < a ∧ b3 / 64 = 2)) by omega),
        if_neg (show ¬ (3 ≤ a ∧ (128 ≤ b1 ∧ b1 ≤ 191) ∧ (128 ≤ b2 ∧ b2 ≤ 191) ∧ ¬ (b0 = 224 ∧ b1 < 160) ∧ ¬ (b0 = 237 ∧ 159 < b1)) by omega)]; rfl
  by_cases c3 : 240 ≤ b0 ∧ b0 ≤ 244
  · unfold wideC
    rw [if_neg c1, if_neg c2, if_pos c3]
    rw [if_neg (show ¬ (b0 / 32 = 6 ∧ (1 < a ∧ b1 / 64 = 2)) by omega), if_neg (show ¬ (b0 / 16 = 14 ∧ (1 < a ∧ b1 / 64 = 2) ∧ (2 < a ∧ b2 / 64 = 2)) by omega)]
    by_cases d : (1 < a ∧ b1 / 64 = 2) ∧ (2 < a ∧ b2 / 64 = 2) ∧ (3 < a ∧ b3 / 64 = 2)
    · rw [if_pos ⟨by omega, d⟩]
      by_cases f : ¬ (b0 = 240 ∧ b1 < 144) ∧ ¬ (b0 = 244 ∧ 143 < b1)
      · rw [if_pos (show 4 ≤ a ∧ (128 ≤ b1 ∧ b1 ≤ 191) ∧ (128 ≤ b2 ∧ b2 ≤ 191) ∧ (128 ≤ b3 ∧ b3 ≤ 191) ∧ ¬ (b0 = 240 ∧ b1 < 144) ∧ ¬ (b0 = 244 ∧ 143 < b1) by omega), if_pos (by omega)]
        simp only [if_neg (show ¬ (4 = 0) by omega), if_neg (show ¬ (4 = 2) by omega), if_neg (show ¬ (4 = 3) by omega)]
        rw [show b0 % 8 * 262144 + b1 % 64 * 4096 + b2 % 64 * 64 + b3 % 64 = ((b0 % 8 * 64 + b1 % 64) * 64 + b2 % 64) * 64 + b3 % 64 by omega]
      · rw [if_neg (show ¬ (4 ≤ a ∧ (128 ≤ b1 ∧ b1 ≤ 191) ∧ (128 ≤ b2 ∧ b2 ≤ 191) ∧ (128 ≤ b3 ∧ b3 ≤ 191) ∧ ¬ (b0 = 240 ∧ b1 < 144) ∧ ¬ (b0 = 244 ∧ 143 < b1)) by omega), if_neg (by omega)]; rfl
    · rw [if_neg (fun h => d h.2), if_neg (show ¬ (4 ≤ a ∧ (128 ≤ b1 ∧ b1 ≤ 191) ∧ (128 ≤ b2 ∧ b2 ≤ 191) ∧ (128 ≤ b3 ∧ b3 ≤ 191) ∧ ¬ (b0 = 240 ∧ b1 < 144) ∧ ¬ (b0 = 244 ∧ 143 < b1)) by omega)]; rfl
  · unfold wideC
    rw [if_neg c1, if_neg c2, if_neg c3]
    by_cases d : b0 / 32 = 6 ∧ (1 < a ∧ b1 / 64 = 2)
    · rw [if_pos d, if_neg (by omega)]; rfl
    rw [if_neg d, if_neg (show ¬ (b0 / 16 = 14 ∧ (1 < a ∧ b1 / 64 = 2) ∧ (2 < a ∧ b2 / 64 = 2)) by omega)]
    by_cases f : b0 / 8 = 30 ∧ (1 < a ∧ b1 / 64 = 2) ∧ (2 < a ∧ b2 / 64 = 2) ∧ (3 < a ∧ b3 / 64 = 2)
    · rw [if_pos f, if_neg (by omega)]; rfl
    · rw [if_neg f]; rfl

theorem validN (n : Nat) : Utf8.valid (n : Int) = (decide (n < 55296) || (decide (57344 ≤ n) && decide (n ≤ 1114111))) := by
  unfold Utf8.valid
  rw [Bool.eq_iff_iff]
  simp only [Bool.and_eq_true, Bool.or_eq_true, decide_eq_true_eq]
  omega

set_option maxRecDepth 100000 in
theorem decode_eq (l : List UInt8) (p : Nat) (hp : p < l.length) : Utf8.decode (B l) p = runeM l p := by
  unfold runeM wideM
  rw [← decode_core (l.length - p) _ _ _ _ (bt_lt l p 0) (bt_lt l p 1) (bt_lt l p 2) (bt_lt l p 3)]
  have hb : ∀ k, ((B l).get! (p + k)).toNat = bt l p k := fun k => by rw [get_B]
  have hc : ∀ k, decide (p + k < (B l).size) = decide (k < l.length - p) := fun k => by rw [B_size]; apply decide_eq_decide.2; omega
  unfold Utf8.decode
  simp only [hb, hc, validN]
  generalize bt l p 0 = b0
  generalize bt l p 1 = b1
  generalize bt l p 2 = b2
  generalize bt l p 3 = b3
  generalize l.length - p = a
  simp only [Utf8.runeError, Bool.and_eq_true, Bool.or_eq_true, decide_eq_true_eq, beq_iff_eq, ge_iff_le, and_assoc]

theorem wideM_cases (l : List UInt8) (p : Nat) : wideM l p = 0 ∨ (wideM l p = 2 ∧ 194 ≤ bt l p 0 ∧ bt l p 0 ≤ 223 ∧ p + 2 ≤ l.length) ∨
    (wideM l p = 3 ∧ 224 ≤ bt l p 0 ∧ bt l p 0 ≤ 239 ∧ p + 3 ≤ l.length ∧ (128 ≤ bt l p 1 ∧ bt l p 1 ≤ 191) ∧ ¬ (bt l p 0 = 224 ∧ bt l p 1 < 160)) ∨
    (wideM l p = 4 ∧ 240 ≤ bt l p 0 ∧ bt l p 0 ≤ 244 ∧ p + 4 ≤ l.length ∧ (128 ≤ bt l p 1 ∧ bt l p 1 ≤ 191) ∧ ¬ (bt l p 0 = 240 ∧ bt l p 1 < 144)) := by
  unfold wideM wideC
  repeat' split
  all_goals omega

theorem decode_lt {l : List UInt8} {p : Nat} (hp : p < l.length) (h : (l.getD p 0).toNat < 128) : Utf8.decode (B l) p = ((l.getD p 0).toNat, 1) := by
  rw [decode_eq l p hp]
  unfold runeM runeC
  rw [if_pos (show bt l p 0 < 128 from h)]
  rfl

theorem decode_ge {l : List UInt8} {p : Nat} (hp : p < l.length) (h : 128 ≤ (l.getD p 0).toNat) : 57 < (Utf8.decode (B l) p).1 := by
  rw [decode_eq l p hp]
  have h0 : 128 ≤ bt l p 0 := h
  have hc := wideM_cases l p
  unfold runeM runeC
  rw [if_neg (by omega)]
  repeat' split
  all_goals simp only
  all_goals omega
end D
end

section
/- Printed: what the code of functions 30, 5 asks for, by the framework's own reading of it; each line is checked against the code. -/

set_option linter.unusedVariables false
set_option maxRecDepth 100000
set_option maxHeartbeats 4000000
open Go Go.Ab Go.Proofs
namespace Ek
noncomputable section

noncomputable def retE : List (Nat × Ret) := [
  (51, ⟨List (List UInt8), fun _ _ x => .sl 1 (.map T.encL [] x) .none, fun _ H _ => H⟩),
  (52, ⟨List UInt8 × List UInt8 × Bool, fun _ _ x => .tup [.str ⟨x.1.toArray⟩, .str ⟨x.2.1.toArray⟩, .bool x.2.2], fun _ H _ => H⟩),
  (53, ⟨Int × Bool, fun _ _ x => .tup [.int .i64 x.1, .bool x.2], fun _ H _ => H⟩)]
noncomputable def rets : FuncId → List Ret := fun f => match lookupR retE f with
  | [] => Dk.rets f
  | l => l

-- 30
noncomputable def l30 : Nat → List Nat
  | 5 => [0]
  | 7 => [4, 20, 21, 22]
  | 15 => [4]
  | _ => []
noncomputable def u30 : Nat → Bool
  | 5 => true
  | 15 => true
  | _ => false
noncomputable def m30 : Nat → Bool
  | _ => false
noncomputable def g30 : Cfg := { N := 50, live := l30, cut := u30, mu := m30, ret := rets }
noncomputable def c30 : Go.Code := Go.Ab.bodyOf Go.Proofs.Tryd.f30
noncomputable def q30_0 : Nat → (AV → List AObj → Prop) → AQ := fun (n : Nat) (Post : AV → List AObj → Prop) => endQ Tryd.prog (resultsOf Tryd.f30) Post
noncomputable def c30_5 : Go.Code := codeSnd (codeSnd c30)
theorem s30 : ∀ (s : List UInt8) (Post : AV → List AObj → Prop),
  condP (decide ((↑(ByteArray.size { data := List.toArray s }) : Int) > (4000 : Int))) (Post (AV.tup [AV.sl 0 (Seq.raw []) Tip.nil, AV.bool false]) [])
      (condP (ByteArray.toList { data := List.toArray s } == ByteArray.toList { data := #[(110 : UInt8), (111 : UInt8), (116 : UInt8), (104 : UInt8), (105 : UInt8), (110 : UInt8), (103 : UInt8)] })
        (Post (AV.tup [AV.sl 0 (Seq.raw []) Tip.nil, AV.bool true]) []) (AWP Tryd.prog 50 0 c30_5 [(0, AV.str { data := List.toArray s })] [] (q30_0 0 Post))) →
    ASpec Tryd.prog 30 [AV.str { data := List.toArray s }] [] Post := fun s Post h => Go.Ab.ASpec.of_vc g30 Go.Proofs.Tryd.func30 (by kernel_rfl) (by kernel_rfl) (by kernel_rfl) (Go.Ab.kc (by kernel_rfl) h)
noncomputable def c30_15 : Go.Code := codeSnd (codeSnd c30_5)
noncomputable def q30_1 : Nat → (AV → List AObj → Prop) → AQ := fun (n : Nat) (Post : AV → List AObj → Prop) => seqQ (fun (s' : Slots) (H' : List AObj) => AWP Tryd.prog (Cfg.N g30) n c30_15 (restrict s' (Cfg.live g30 15)) H' (q30_0 n Post)) (q30_0 n Post)
noncomputable def q30_2 : Nat → (AV → List AObj → Prop) → AQ := fun (n : Nat) (Post : AV → List AObj → Prop) => blockQ 1 (q30_1 n Post)
noncomputable def c30_7 : Go.Code := codeFst (codeSnd (codeFst (codeSnd c30_5)))
theorem v30_5 : ∀ (s : List UInt8) (n : Nat) (Post : AV → List AObj → Prop),
  (ASpec Tryd.prog 51 [AV.str { data := List.toArray s }, AV.str { data := #[(44 : UInt8), (32 : UInt8)] }] [] fun (r : AV) (H' : List AObj) =>
      ∃ (x : List (List UInt8)),
        r = AV.sl 1 (Seq.map T.encL [] x) Tip.none ∧
        H' = [] ∧
        AWP Tryd.prog 50 n c30_7
        [(4, AV.sl 0 (Seq.raw []) Tip.nil), (20, AV.sl 1 (Seq.map T.encL [] x) Tip.none), (21, AV.int IntKind.i64 (↑(List.length x) : Int)),
        (22, AV.int IntKind.i64 (0 : Int))]
        [] (q30_2 n Post)) →
    AWP Tryd.prog 50 n c30_5 [(0, AV.str { data := List.toArray s })] [] (q30_0 n Post) := fun s n Post h => Go.Ab.awp_sound g30 n _ _ _ _ (Go.Ab.kc (by kernel_rfl) h)
theorem v30_7 : ∀ (l : List (List UInt8)) (o : List T.Pk) (n i : Int) (n_1 : Nat) (Post : AV → List AObj → Prop),
  condP (decide (i < n))
      (needP ((0 : Int) ≤ i ∧ i < (↑(List.length l) : Int))
        (ASpec Tryd.prog 52 [AV.str { data := List.toArray (List.getD l (Int.toNat i) []) }, AV.str { data := #[(32 : UInt8)] }] [AObj.tok] fun (r : AV) (H' : List AObj) =>
        ∃ (x : List UInt8 × List UInt8 × Bool),
        r = AV.tup [AV.str { data := List.toArray (Prod.fst x) }, AV.str { data := List.toArray (Prod.fst (Prod.snd x)) }, AV.bool (Prod.snd (Prod.snd x))] ∧
        H' = [AObj.tok] ∧
        ASpec Tryd.prog 53 [AV.str { data := List.toArray (Prod.fst (Prod.snd x)) }] [AObj.tok] fun (r : AV) (H' : List AObj) =>
        ∃ (x_1 : Int × Bool),
        r = AV.tup [AV.int IntKind.i64 (Prod.fst x_1), AV.bool (Prod.snd x_1)] ∧
        H' = [AObj.tok] ∧
        condP (!Prod.snd x_1) (Post (AV.tup [AV.sl 0 (Seq.raw []) Tip.nil, AV.bool false]) [AObj.tok])
        (needP ((List.length o + 1) * 24 ≤ 140737488351232)
        (AWP Tryd.prog 50 n_1 c30_7
        [(4,
        AV.sl 2 (Seq.app (Seq.map T.encPk T.noPk o) (Seq.raw [[AV.str { data := List.toArray (Prod.fst x) }, AV.int IntKind.i64 (Prod.fst x_1)]]))
        (Tip.tok 1)),
        (20, AV.sl 1 (Seq.map T.encL [] l) Tip.none), (21, AV.int IntKind.i64 n),
        (22, AV.int IntKind.i64 (IntKind.wrap IntKind.i64 (i + (1 : Int))))]
        [AObj.gone, AObj.tok] (q30_2 n_1 Post)))))
      (AWP Tryd.prog 50 n_1 c30_15 [(4, AV.sl 2 (Seq.map T.encPk T.noPk o) (Tip.tok 0))] [AObj.tok] (q30_0 n_1 Post)) →
    AWP Tryd.prog 50 n_1 c30_7
      [(4, AV.sl 2 (Seq.map T.encPk T.noPk o) (Tip.tok 0)), (20, AV.sl 1 (Seq.map T.encL [] l) Tip.none), (21, AV.int IntKind.i64 n),
        (22, AV.int IntKind.i64 i)]
      [AObj.tok] (q30_2 n_1 Post) := fun l o n i n Post h => Go.Ab.AWP.loop' g30 (Cfg.live g30) c30_7 (by kernel_rfl) (by kernel_rfl) (Go.Ab.kc (by kernel_rfl) h)
theorem v30_15 : ∀ (o : List T.Pk) (n : Nat) (Post : AV → List AObj → Prop),
  (ASpec Tryd.prog 18 [AV.sl 2 (Seq.map T.encPk T.noPk o) (Tip.tok 0)] [AObj.tok] fun (r : AV) (H' : List AObj) =>
      ∃ (x : Bool),
        r = AV.bool x ∧
        H' = [AObj.tok] ∧
        condP (!x) (Post (AV.tup [AV.sl 0 (Seq.raw []) Tip.nil, AV.bool false]) [AObj.tok])
        (Post (AV.tup [AV.sl 2 (Seq.map T.encPk T.noPk o) (Tip.tok 0), AV.bool true]) [AObj.tok])) →
    AWP Tryd.prog 50 n c30_15 [(4, AV.sl 2 (Seq.map T.encPk T.noPk o) (Tip.tok 0))] [AObj.tok] (q30_0 n Post) := fun o n Post h => Go.Ab.awp_sound g30 n _ _ _ _ (Go.Ab.kc (by kernel_rfl) h)

-- 5
noncomputable def l5 : Nat → List Nat
  | 3 => [0, 4, 5]
  | 9 => [0, 4, 5, 7, 8, 9, 10, 12, 13, 14, 15, 16]
  | 12 => [0, 4, 7, 8, 9, 10, 12, 17, 18]
  | _ => []
noncomputable def u5 : Nat → Bool
  | 3 => true
  | 9 => true
  | 12 => true
  | _ => false
noncomputable def m5 : Nat → Bool
  | _ => false
noncomputable def g5 : Cfg := { N := 139, live := l5, cut := u5, mu := m5, ret := rets }
noncomputable def c5 : Go.Code := Go.Ab.bodyOf Go.Proofs.Tryd.f5
noncomputable def q5_0 : Nat → (AV → List AObj → Prop) → AQ := fun (n : Nat) (Post : AV → List AObj → Prop) => endQ Tryd.prog (resultsOf Tryd.f5) Post
noncomputable def c5_3 : Go.Code := codeSnd (codeSnd c5)
theorem s5 : ∀ (l : List T.Pk) (p q : T.Pk) (Post : AV → List AObj → Prop),
  (ASpec Tryd.prog 16 [AV.sl 2 (Seq.map T.encPk T.noPk l) Tip.none]
      [AObj.cells [AV.str { data := List.toArray (Prod.fst p) }, AV.int IntKind.i64 (Prod.snd p)], AObj.cells [AV.str { data := List.toArray (Prod.fst q) }, AV.int IntKind.i64 (Prod.snd q)]]
      fun (r : AV) (H' : List AObj) =>
      ∃ (x : Bool),
        r = AV.bool x ∧
        H' =
        [AObj.cells [AV.str { data := List.toArray (Prod.fst p) }, AV.int IntKind.i64 (Prod.snd p)], AObj.cells [AV.str { data := List.toArray (Prod.fst q) }, AV.int IntKind.i64 (Prod.snd q)]] ∧
        condP x
        (ASpec Tryd.prog 17 []
        [AObj.cells [AV.str { data := List.toArray (Prod.fst p) }, AV.int IntKind.i64 (Prod.snd p)], AObj.cells [AV.str { data := List.toArray (Prod.fst q) }, AV.int IntKind.i64 (Prod.snd q)]]
        fun (r : AV) (H' : List AObj) =>
        ∃ (x : Unit),
        r = AV.bool true ∧
        H' =
        [AObj.cells [AV.str { data := List.toArray (Prod.fst p) }, AV.int IntKind.i64 (Prod.snd p)],
        AObj.cells [AV.str { data := List.toArray (Prod.fst q) }, AV.int IntKind.i64 (Prod.snd q)]] ∧
        Post (AV.bool true)
        [AObj.cells [AV.str { data := List.toArray (Prod.fst p) }, AV.int IntKind.i64 (Prod.snd p)],
        AObj.cells [AV.str { data := List.toArray (Prod.fst q) }, AV.int IntKind.i64 (Prod.snd q)]])
        (ASpec Tryd.prog 18 [AV.sl 2 (Seq.map T.encPk T.noPk l) Tip.none]
        [AObj.cells [AV.str { data := List.toArray (Prod.fst p) }, AV.int IntKind.i64 (Prod.snd p)], AObj.cells [AV.str { data := List.toArray (Prod.fst q) }, AV.int IntKind.i64 (Prod.snd q)]]
        fun (r : AV) (H' : List AObj) =>
        ∃ (x : Bool),
        r = AV.bool x ∧
        H' =
        [AObj.cells [AV.str { data := List.toArray (Prod.fst p) }, AV.int IntKind.i64 (Prod.snd p)],
        AObj.cells [AV.str { data := List.toArray (Prod.fst q) }, AV.int IntKind.i64 (Prod.snd q)]] ∧
        condP (!x)
        (ASpec Tryd.prog 17 []
        [AObj.cells [AV.str { data := List.toArray (Prod.fst p) }, AV.int IntKind.i64 (Prod.snd p)],
        AObj.cells [AV.str { data := List.toArray (Prod.fst q) }, AV.int IntKind.i64 (Prod.snd q)]]
        fun (r : AV) (H' : List AObj) =>
        ∃ (x : Unit),
        r = AV.bool true ∧
        H' =
        [AObj.cells [AV.str { data := List.toArray (Prod.fst p) }, AV.int IntKind.i64 (Prod.snd p)],
        AObj.cells [AV.str { data := List.toArray (Prod.fst q) }, AV.int IntKind.i64 (Prod.snd q)]] ∧
        Post (AV.bool true)
        [AObj.cells [AV.str { data := List.toArray (Prod.fst p) }, AV.int IntKind.i64 (Prod.snd p)],
        AObj.cells [AV.str { data := List.toArray (Prod.fst q) }, AV.int IntKind.i64 (Prod.snd q)]])
        (ASpec Tryd.prog 26 [AV.str { data := List.toArray (Prod.fst p) }]
        [AObj.cells [AV.str { data := List.toArray (Prod.fst p) }, AV.int IntKind.i64 (Prod.snd p)],
        AObj.cells [AV.str { data := List.toArray (Prod.fst q) }, AV.int IntKind.i64 (Prod.snd q)]]
        fun (r : AV) (H' : List AObj) =>
        ∃ (x : Bool),
        r = AV.bool x ∧
        H' =
        [AObj.cells [AV.str { data := List.toArray (Prod.fst p) }, AV.int IntKind.i64 (Prod.snd p)],
        AObj.cells [AV.str { data := List.toArray (Prod.fst q) }, AV.int IntKind.i64 (Prod.snd q)]] ∧
        condP (!x)
        (ASpec Tryd.prog 17 []
        [AObj.cells [AV.str { data := List.toArray (Prod.fst p) }, AV.int IntKind.i64 (Prod.snd p)],
        AObj.cells [AV.str { data := List.toArray (Prod.fst q) }, AV.int IntKind.i64 (Prod.snd q)]]
        fun (r : AV) (H' : List AObj) =>
        ∃ (x : Unit),
        r = AV.bool true ∧
        H' =
        [AObj.cells [AV.str { data := List.toArray (Prod.fst p) }, AV.int IntKind.i64 (Prod.snd p)],
        AObj.cells [AV.str { data := List.toArray (Prod.fst q) }, AV.int IntKind.i64 (Prod.snd q)]] ∧
        Post (AV.bool true)
        [AObj.cells [AV.str { data := List.toArray (Prod.fst p) }, AV.int IntKind.i64 (Prod.snd p)],
        AObj.cells [AV.str { data := List.toArray (Prod.fst q) }, AV.int IntKind.i64 (Prod.snd q)]])
        (ASpec Tryd.prog 27 [AV.int IntKind.i64 (Prod.snd p)]
        [AObj.cells [AV.str { data := List.toArray (Prod.fst p) }, AV.int IntKind.i64 (Prod.snd p)],
        AObj.cells [AV.str { data := List.toArray (Prod.fst q) }, AV.int IntKind.i64 (Prod.snd q)]]
        fun (r : AV) (H' : List AObj) =>
        ∃ (x : Bool),
        r = AV.bool x ∧
        H' =
        [AObj.cells [AV.str { data := List.toArray (Prod.fst p) }, AV.int IntKind.i64 (Prod.snd p)],
        AObj.cells [AV.str { data := List.toArray (Prod.fst q) }, AV.int IntKind.i64 (Prod.snd q)]] ∧
        condP (!x)
        (ASpec Tryd.prog 17 []
        [AObj.cells [AV.str { data := List.toArray (Prod.fst p) }, AV.int IntKind.i64 (Prod.snd p)],
        AObj.cells [AV.str { data := List.toArray (Prod.fst q) }, AV.int IntKind.i64 (Prod.snd q)]]
        fun (r : AV) (H' : List AObj) =>
        ∃ (x : Unit),
        r = AV.bool true ∧
        H' =
        [AObj.cells [AV.str { data := List.toArray (Prod.fst p) }, AV.int IntKind.i64 (Prod.snd p)],
        AObj.cells [AV.str { data := List.toArray (Prod.fst q) }, AV.int IntKind.i64 (Prod.snd q)]] ∧
        Post (AV.bool true)
        [AObj.cells [AV.str { data := List.toArray (Prod.fst p) }, AV.int IntKind.i64 (Prod.snd p)],
        AObj.cells [AV.str { data := List.toArray (Prod.fst q) }, AV.int IntKind.i64 (Prod.snd q)]])
        (condP (decide ((↑(ByteArray.size { data := List.toArray (Prod.fst q) }) : Int) > (200 : Int)))
        (ASpec Tryd.prog 17 []
        [AObj.cells [AV.str { data := List.toArray (Prod.fst p) }, AV.int IntKind.i64 (Prod.snd p)],
        AObj.cells [AV.str { data := List.toArray (Prod.fst q) }, AV.int IntKind.i64 (Prod.snd q)]]
        fun (r : AV) (H' : List AObj) =>
        ∃ (x : Unit),
        r = AV.bool true ∧
        H' =
        [AObj.cells [AV.str { data := List.toArray (Prod.fst p) }, AV.int IntKind.i64 (Prod.snd p)],
        AObj.cells [AV.str { data := List.toArray (Prod.fst q) }, AV.int IntKind.i64 (Prod.snd q)]] ∧
        Post (AV.bool true)
        [AObj.cells [AV.str { data := List.toArray (Prod.fst p) }, AV.int IntKind.i64 (Prod.snd p)],
        AObj.cells [AV.str { data := List.toArray (Prod.fst q) }, AV.int IntKind.i64 (Prod.snd q)]])
        (AWP Tryd.prog 139 0 c5_3
        [(0, AV.sl 2 (Seq.map T.encPk T.noPk l) Tip.none), (4, AV.ptr 0 0), (5, AV.ptr 1 0)]
        [AObj.cells [AV.str { data := List.toArray (Prod.fst p) }, AV.int IntKind.i64 (Prod.snd p)],
        AObj.cells [AV.str { data := List.toArray (Prod.fst q) }, AV.int IntKind.i64 (Prod.snd q)]]
        (q5_0 0 Post))))))) →
    ASpec Tryd.prog 5 [AV.sl 2 (Seq.map T.encPk T.noPk l) Tip.none, AV.agg (T.encPk p), AV.agg (T.encPk q)] [] Post := fun l p q Post h => Go.Ab.ASpec.of_vc g5 Go.Proofs.Tryd.func5 (by kernel_rfl) (by kernel_rfl) (by kernel_rfl) (Go.Ab.kc (by kernel_rfl) h)
noncomputable def c5_9 : Go.Code := codeSnd (codeSnd (codeSnd (codeSnd (codeSnd (codeSnd c5_3)))))
theorem v5_3 : ∀ (l : List T.Pk) (p q : T.Pk) (n : Nat) (Post : AV → List AObj → Prop),
  (ASpec Tryd.prog 28 [AV.sl 2 (Seq.map T.encPk T.noPk l) Tip.none, AV.agg [AV.str { data := List.toArray (Prod.fst p) }, AV.int IntKind.i64 (Prod.snd p)]]
      [AObj.cells [AV.str { data := List.toArray (Prod.fst p) }, AV.int IntKind.i64 (Prod.snd p)], AObj.cells [AV.str { data := List.toArray (Prod.fst q) }, AV.int IntKind.i64 (Prod.snd q)]]
      fun (r : AV) (H' : List AObj) =>
      ∃ (x : List T.Pk),
        r = AV.sl 2 (Seq.map T.encPk T.noPk x) Tip.none ∧
        H' =
        [AObj.cells [AV.str { data := List.toArray (Prod.fst p) }, AV.int IntKind.i64 (Prod.snd p)], AObj.cells [AV.str { data := List.toArray (Prod.fst q) }, AV.int IntKind.i64 (Prod.snd q)]] ∧
        ASpec Tryd.prog 24 [AV.sl 2 (Seq.map T.encPk T.noPk x) Tip.none, AV.str { data := List.toArray (Prod.fst p) }]
        [AObj.cells [AV.str { data := List.toArray (Prod.fst p) }, AV.int IntKind.i64 (Prod.snd p)], AObj.cells [AV.str { data := List.toArray (Prod.fst q) }, AV.int IntKind.i64 (Prod.snd q)]]
        fun (r : AV) (H' : List AObj) =>
        ∃ (x_1 : List T.Pk),
        r = AV.sl 2 (Seq.map T.encPk T.noPk x_1) Tip.none ∧
        H' =
        [AObj.cells [AV.str { data := List.toArray (Prod.fst p) }, AV.int IntKind.i64 (Prod.snd p)],
        AObj.cells [AV.str { data := List.toArray (Prod.fst q) }, AV.int IntKind.i64 (Prod.snd q)]] ∧
        ASpec Tryd.prog 22 [AV.sl 2 (Seq.map T.encPk T.noPk x) Tip.none, AV.str { data := List.toArray (Prod.fst p) }]
        [AObj.cells [AV.str { data := List.toArray (Prod.fst p) }, AV.int IntKind.i64 (Prod.snd p)],
        AObj.cells [AV.str { data := List.toArray (Prod.fst q) }, AV.int IntKind.i64 (Prod.snd q)]]
        fun (r : AV) (H' : List AObj) =>
        ∃ (x_2 : Int × Bool),
        r = AV.tup [AV.int IntKind.i64 (Prod.fst x_2), AV.bool (Prod.snd x_2)] ∧
        H' =
        [AObj.cells [AV.str { data := List.toArray (Prod.fst p) }, AV.int IntKind.i64 (Prod.snd p)],
        AObj.cells [AV.str { data := List.toArray (Prod.fst q) }, AV.int IntKind.i64 (Prod.snd q)]] ∧
        ASpec Tryd.prog 22 [AV.sl 2 (Seq.map T.encPk T.noPk x_1) Tip.none, AV.str { data := List.toArray (Prod.fst p) }]
        [AObj.cells [AV.str { data := List.toArray (Prod.fst p) }, AV.int IntKind.i64 (Prod.snd p)],
        AObj.cells [AV.str { data := List.toArray (Prod.fst q) }, AV.int IntKind.i64 (Prod.snd q)]]
        fun (r : AV) (H' : List AObj) =>
        ∃ (x_3 : Int × Bool),
        r = AV.tup [AV.int IntKind.i64 (Prod.fst x_3), AV.bool (Prod.snd x_3)] ∧
        H' =
        [AObj.cells [AV.str { data := List.toArray (Prod.fst p) }, AV.int IntKind.i64 (Prod.snd p)],
        AObj.cells [AV.str { data := List.toArray (Prod.fst q) }, AV.int IntKind.i64 (Prod.snd q)]] ∧
        ASpec Tryd.prog 22 [AV.sl 2 (Seq.map T.encPk T.noPk l) Tip.none, AV.str { data := List.toArray (Prod.fst q) }]
        [AObj.cells [AV.str { data := List.toArray (Prod.fst p) }, AV.int IntKind.i64 (Prod.snd p)],
        AObj.cells [AV.str { data := List.toArray (Prod.fst q) }, AV.int IntKind.i64 (Prod.snd q)]]
        fun (r : AV) (H' : List AObj) =>
        ∃ (x_4 : Int × Bool),
        r = AV.tup [AV.int IntKind.i64 (Prod.fst x_4), AV.bool (Prod.snd x_4)] ∧
        H' =
        [AObj.cells [AV.str { data := List.toArray (Prod.fst p) }, AV.int IntKind.i64 (Prod.snd p)],
        AObj.cells [AV.str { data := List.toArray (Prod.fst q) }, AV.int IntKind.i64 (Prod.snd q)]] ∧
        ASpec Tryd.prog 22 [AV.sl 2 (Seq.map T.encPk T.noPk x) Tip.none, AV.str { data := List.toArray (Prod.fst q) }]
        [AObj.cells [AV.str { data := List.toArray (Prod.fst p) }, AV.int IntKind.i64 (Prod.snd p)],
        AObj.cells [AV.str { data := List.toArray (Prod.fst q) }, AV.int IntKind.i64 (Prod.snd q)]]
        fun (r : AV) (H' : List AObj) =>
        ∃ (x_5 : Int × Bool),
        r = AV.tup [AV.int IntKind.i64 (Prod.fst x_5), AV.bool (Prod.snd x_5)] ∧
        H' =
        [AObj.cells [AV.str { data := List.toArray (Prod.fst p) }, AV.int IntKind.i64 (Prod.snd p)],
        AObj.cells [AV.str { data := List.toArray (Prod.fst q) }, AV.int IntKind.i64 (Prod.snd q)]] ∧
        AWP Tryd.prog 139 n c5_9
        [(0, AV.sl 2 (Seq.map T.encPk T.noPk l) Tip.none), (4, AV.ptr 0 0),
        (5, AV.ptr 1 0), (7, AV.sl 2 (Seq.map T.encPk T.noPk x) Tip.none),
        (8, AV.sl 2 (Seq.map T.encPk T.noPk x_1) Tip.none), (9, AV.int IntKind.i64 (Prod.fst x_2)),
        (10, AV.bool (Prod.snd x_2)), (12, AV.bool (Prod.snd x_3)), (13, AV.int IntKind.i64 (Prod.fst x_4)),
        (14, AV.bool (Prod.snd x_4)), (15, AV.int IntKind.i64 (Prod.fst x_5)), (16, AV.bool (Prod.snd x_5))]
        [AObj.cells [AV.str { data := List.toArray (Prod.fst p) }, AV.int IntKind.i64 (Prod.snd p)],
        AObj.cells [AV.str { data := List.toArray (Prod.fst q) }, AV.int IntKind.i64 (Prod.snd q)]]
        (q5_0 n Post)) →
    AWP Tryd.prog 139 n c5_3 [(0, AV.sl 2 (Seq.map T.encPk T.noPk l) Tip.none), (4, AV.ptr 0 0), (5, AV.ptr 1 0)]
      [AObj.cells (T.encPk p), AObj.cells (T.encPk q)] (q5_0 n Post) := fun l p q n Post h => Go.Ab.awp_sound g5 n _ _ _ _ (Go.Ab.kc (by kernel_rfl) h)
noncomputable def c5_12 : Go.Code := codeSnd (codeSnd c5_9)
theorem v5_9 : ∀ (l m d : List T.Pk) (p q : T.Pk) (a b c : Int) (ga gg gb gc : Bool) (n : Nat) (Post : AV → List AObj → Prop),
  (ASpec Tryd.prog 31 [AV.sl 2 (Seq.map T.encPk T.noPk m) Tip.none]
      [AObj.cells [AV.str { data := List.toArray (Prod.fst p) }, AV.int IntKind.i64 (Prod.snd p)], AObj.cells [AV.str { data := List.toArray (Prod.fst q) }, AV.int IntKind.i64 (Prod.snd q)]]
      fun (r : AV) (H' : List AObj) =>
      ∃ (x : ByteArray),
        r = AV.str x ∧
        H' =
        [AObj.cells [AV.str { data := List.toArray (Prod.fst p) }, AV.int IntKind.i64 (Prod.snd p)], AObj.cells [AV.str { data := List.toArray (Prod.fst q) }, AV.int IntKind.i64 (Prod.snd q)]] ∧
        ASpec Tryd.prog 30 [AV.str x]
        [AObj.cells [AV.str { data := List.toArray (Prod.fst p) }, AV.int IntKind.i64 (Prod.snd p)], AObj.cells [AV.str { data := List.toArray (Prod.fst q) }, AV.int IntKind.i64 (Prod.snd q)]]
        fun (r : AV) (H' : List AObj) =>
        ∃ (x : List T.Pk × Bool),
        r = AV.tup [AV.sl 2 (Seq.map T.encPk T.noPk (Prod.fst x)) Tip.none, AV.bool (Prod.snd x)] ∧
        H' =
        [AObj.cells [AV.str { data := List.toArray (Prod.fst p) }, AV.int IntKind.i64 (Prod.snd p)],
        AObj.cells [AV.str { data := List.toArray (Prod.fst q) }, AV.int IntKind.i64 (Prod.snd q)]] ∧
        condP (!ByteArray.toList { data := List.toArray (Prod.fst q) } == ByteArray.toList { data := List.toArray (Prod.fst p) })
        (condP (b != c)
        (Post (AV.bool false)
        [AObj.cells [AV.str { data := List.toArray (Prod.fst p) }, AV.int IntKind.i64 (Prod.snd p)],
        AObj.cells [AV.str { data := List.toArray (Prod.fst q) }, AV.int IntKind.i64 (Prod.snd q)]])
        (condP (!gb == gc)
        (Post (AV.bool false)
        [AObj.cells [AV.str { data := List.toArray (Prod.fst p) }, AV.int IntKind.i64 (Prod.snd p)],
        AObj.cells [AV.str { data := List.toArray (Prod.fst q) }, AV.int IntKind.i64 (Prod.snd q)]])
        (AWP Tryd.prog 139 n c5_12
        [(0, AV.sl 2 (Seq.map T.encPk T.noPk l) Tip.none), (4, AV.ptr 0 0),
        (7, AV.sl 2 (Seq.map T.encPk T.noPk m) Tip.none), (8, AV.sl 2 (Seq.map T.encPk T.noPk d) Tip.none), (9, AV.int IntKind.i64 a),
        (10, AV.bool ga), (12, AV.bool gg), (17, AV.sl 2 (Seq.map T.encPk T.noPk (Prod.fst x)) Tip.none), (18, AV.bool (Prod.snd x))]
        [AObj.cells [AV.str { data := List.toArray (Prod.fst p) }, AV.int IntKind.i64 (Prod.snd p)],
        AObj.cells [AV.str { data := List.toArray (Prod.fst q) }, AV.int IntKind.i64 (Prod.snd q)]]
        (q5_0 n Post))))
        (AWP Tryd.prog 139 n c5_12
        [(0, AV.sl 2 (Seq.map T.encPk T.noPk l) Tip.none), (4, AV.ptr 0 0), (7, AV.sl 2 (Seq.map T.encPk T.noPk m) Tip.none),
        (8, AV.sl 2 (Seq.map T.encPk T.noPk d) Tip.none), (9, AV.int IntKind.i64 a), (10, AV.bool ga), (12, AV.bool gg),
        (17, AV.sl 2 (Seq.map T.encPk T.noPk (Prod.fst x)) Tip.none), (18, AV.bool (Prod.snd x))]
        [AObj.cells [AV.str { data := List.toArray (Prod.fst p) }, AV.int IntKind.i64 (Prod.snd p)],
        AObj.cells [AV.str { data := List.toArray (Prod.fst q) }, AV.int IntKind.i64 (Prod.snd q)]]
        (q5_0 n Post))) →
    AWP Tryd.prog 139 n c5_9
      [(0, AV.sl 2 (Seq.map T.encPk T.noPk l) Tip.none), (4, AV.ptr 0 0), (5, AV.ptr 1 0),
        (7, AV.sl 2 (Seq.map T.encPk T.noPk m) Tip.none), (8, AV.sl 2 (Seq.map T.encPk T.noPk d) Tip.none), (9, AV.int IntKind.i64 a), (10, AV.bool ga),
        (12, AV.bool gg), (13, AV.int IntKind.i64 b), (14, AV.bool gb), (15, AV.int IntKind.i64 c), (16, AV.bool gc)]
      [AObj.cells (T.encPk p), AObj.cells (T.encPk q)] (q5_0 n Post) := fun l m d p q a b c ga gg gb gc n Post h => Go.Ab.awp_sound g5 n _ _ _ _ (Go.Ab.kc (by kernel_rfl) h)
theorem v5_12 : ∀ (l m d t : List T.Pk) (p q : T.Pk) (a : Int) (ga gg ok : Bool) (n : Nat) (Post : AV → List AObj → Prop),
  (ASpec Tryd.prog 18 [AV.sl 2 (Seq.map T.encPk T.noPk m) Tip.none]
      [AObj.cells [AV.str { data := List.toArray (Prod.fst p) }, AV.int IntKind.i64 (Prod.snd p)], AObj.cells [AV.str { data := List.toArray (Prod.fst q) }, AV.int IntKind.i64 (Prod.snd q)]]
      fun (r : AV) (H' : List AObj) =>
      ∃ (x : Bool),
        r = AV.bool x ∧
        H' =
        [AObj.cells [AV.str { data := List.toArray (Prod.fst p) }, AV.int IntKind.i64 (Prod.snd p)], AObj.cells [AV.str { data := List.toArray (Prod.fst q) }, AV.int IntKind.i64 (Prod.snd q)]] ∧
        condP x
        (ASpec Tryd.prog 18 [AV.sl 2 (Seq.map T.encPk T.noPk d) Tip.none]
        [AObj.cells [AV.str { data := List.toArray (Prod.fst p) }, AV.int IntKind.i64 (Prod.snd p)], AObj.cells [AV.str { data := List.toArray (Prod.fst q) }, AV.int IntKind.i64 (Prod.snd q)]]
        fun (r : AV) (H' : List AObj) =>
        ∃ (x : Bool),
        r = AV.bool x ∧
        H' =
        [AObj.cells [AV.str { data := List.toArray (Prod.fst p) }, AV.int IntKind.i64 (Prod.snd p)],
        AObj.cells [AV.str { data := List.toArray (Prod.fst q) }, AV.int IntKind.i64 (Prod.snd q)]] ∧
        condP x
        (condP (a == Prod.snd p)
        (condP ga
        (condP (!gg)
        (ASpec Tryd.prog 20 [AV.sl 2 (Seq.map T.encPk T.noPk t) Tip.none, AV.sl 2 (Seq.map T.encPk T.noPk m) Tip.none]
        [AObj.cells [AV.str { data := List.toArray (Prod.fst p) }, AV.int IntKind.i64 (Prod.snd p)],
        AObj.cells [AV.str { data := List.toArray (Prod.fst q) }, AV.int IntKind.i64 (Prod.snd q)]]
        fun (r : AV) (H' : List AObj) =>
        ∃ (x : Bool),
        r = AV.bool x ∧
        H' =
        [AObj.cells [AV.str { data := List.toArray (Prod.fst p) }, AV.int IntKind.i64 (Prod.snd p)],
        AObj.cells [AV.str { data := List.toArray (Prod.fst q) }, AV.int IntKind.i64 (Prod.snd q)]] ∧
        condP x
        (condP ok
        (ASpec Tryd.prog 24 [AV.sl 2 (Seq.map T.encPk T.noPk l) Tip.none, AV.str { data := List.toArray (Prod.fst p) }]
        [AObj.cells [AV.str { data := List.toArray (Prod.fst p) }, AV.int IntKind.i64 (Prod.snd p)],
        AObj.cells [AV.str { data := List.toArray (Prod.fst q) }, AV.int IntKind.i64 (Prod.snd q)]]
        fun (r : AV) (H' : List AObj) =>
        ∃ (x : List T.Pk),
        r = AV.sl 2 (Seq.map T.encPk T.noPk x) Tip.none ∧
        H' =
        [AObj.cells [AV.str { data := List.toArray (Prod.fst p) }, AV.int IntKind.i64 (Prod.snd p)],
        AObj.cells [AV.str { data := List.toArray (Prod.fst q) }, AV.int IntKind.i64 (Prod.snd q)]] ∧
        ASpec Tryd.prog 20 [AV.sl 2 (Seq.map T.encPk T.noPk d) Tip.none, AV.sl 2 (Seq.map T.encPk T.noPk x) Tip.none]
        [AObj.cells [AV.str { data := List.toArray (Prod.fst p) }, AV.int IntKind.i64 (Prod.snd p)],
        AObj.cells [AV.str { data := List.toArray (Prod.fst q) }, AV.int IntKind.i64 (Prod.snd q)]]
        fun (r : AV) (H' : List AObj) =>
        ∃ (x : Bool),
        r = AV.bool x ∧
        H' =
        [AObj.cells [AV.str { data := List.toArray (Prod.fst p) }, AV.int IntKind.i64 (Prod.snd p)],
        AObj.cells [AV.str { data := List.toArray (Prod.fst q) }, AV.int IntKind.i64 (Prod.snd q)]] ∧
        condP x
        (ASpec Tryd.prog 17 []
        [AObj.cells [AV.str { data := List.toArray (Prod.fst p) }, AV.int IntKind.i64 (Prod.snd p)],
        AObj.cells [AV.str { data := List.toArray (Prod.fst q) }, AV.int IntKind.i64 (Prod.snd q)]]
        fun (r : AV) (H' : List AObj) =>
        ∃ (x : Unit),
        r = AV.bool true ∧
        H' =
        [AObj.cells [AV.str { data := List.toArray (Prod.fst p) }, AV.int IntKind.i64 (Prod.snd p)],
        AObj.cells [AV.str { data := List.toArray (Prod.fst q) }, AV.int IntKind.i64 (Prod.snd q)]] ∧
        Post (AV.bool true)
        [AObj.cells [AV.str { data := List.toArray (Prod.fst p) }, AV.int IntKind.i64 (Prod.snd p)],
        AObj.cells [AV.str { data := List.toArray (Prod.fst q) }, AV.int IntKind.i64 (Prod.snd q)]])
        (Post (AV.bool false)
        [AObj.cells [AV.str { data := List.toArray (Prod.fst p) }, AV.int IntKind.i64 (Prod.snd p)],
        AObj.cells [AV.str { data := List.toArray (Prod.fst q) }, AV.int IntKind.i64 (Prod.snd q)]]))
        (Post (AV.bool false)
        [AObj.cells [AV.str { data := List.toArray (Prod.fst p) }, AV.int IntKind.i64 (Prod.snd p)],
        AObj.cells [AV.str { data := List.toArray (Prod.fst q) }, AV.int IntKind.i64 (Prod.snd q)]]))
        (Post (AV.bool false)
        [AObj.cells [AV.str { data := List.toArray (Prod.fst p) }, AV.int IntKind.i64 (Prod.snd p)],
        AObj.cells [AV.str { data := List.toArray (Prod.fst q) }, AV.int IntKind.i64 (Prod.snd q)]]))
        (Post (AV.bool false)
        [AObj.cells [AV.str { data := List.toArray (Prod.fst p) }, AV.int IntKind.i64 (Prod.snd p)],
        AObj.cells [AV.str { data := List.toArray (Prod.fst q) }, AV.int IntKind.i64 (Prod.snd q)]]))
        (Post (AV.bool false)
        [AObj.cells [AV.str { data := List.toArray (Prod.fst p) }, AV.int IntKind.i64 (Prod.snd p)],
        AObj.cells [AV.str { data := List.toArray (Prod.fst q) }, AV.int IntKind.i64 (Prod.snd q)]]))
        (Post (AV.bool false)
        [AObj.cells [AV.str { data := List.toArray (Prod.fst p) }, AV.int IntKind.i64 (Prod.snd p)],
        AObj.cells [AV.str { data := List.toArray (Prod.fst q) }, AV.int IntKind.i64 (Prod.snd q)]]))
        (Post (AV.bool false)
        [AObj.cells [AV.str { data := List.toArray (Prod.fst p) }, AV.int IntKind.i64 (Prod.snd p)],
        AObj.cells [AV.str { data := List.toArray (Prod.fst q) }, AV.int IntKind.i64 (Prod.snd q)]]))
        (Post (AV.bool false)
        [AObj.cells [AV.str { data := List.toArray (Prod.fst p) }, AV.int IntKind.i64 (Prod.snd p)],
        AObj.cells [AV.str { data := List.toArray (Prod.fst q) }, AV.int IntKind.i64 (Prod.snd q)]])) →
    AWP Tryd.prog 139 n c5_12
      [(0, AV.sl 2 (Seq.map T.encPk T.noPk l) Tip.none), (4, AV.ptr 0 0), (7, AV.sl 2 (Seq.map T.encPk T.noPk m) Tip.none),
        (8, AV.sl 2 (Seq.map T.encPk T.noPk d) Tip.none), (9, AV.int IntKind.i64 a), (10, AV.bool ga), (12, AV.bool gg),
        (17, AV.sl 2 (Seq.map T.encPk T.noPk t) Tip.none), (18, AV.bool ok)]
      [AObj.cells (T.encPk p), AObj.cells (T.encPk q)] (q5_0 n Post) := fun l m d t p q a ga gg ok n Post h => Go.Ab.awp_sound g5 n _ _ _ _ (Go.Ab.kc (by kernel_rfl) h)

end
end Ek
end

section
/- A call that hands back texts in a block of its own. -/

set_option linter.unusedVariables false
set_option linter.unusedSimpArgs false
namespace Go.Ab
section
variable {P : Program} {H : List AObj}
theorem ASpec.of_fresh {f : FuncId} {args : List AV} {ps : List (List UInt8)} (h0 : ps ≠ [])
    (h : ∀ M loc w vs, Tabs P M w → VRels M w loc args vs → Calls P f vs w fun e w' =>
      e = .returned (.slice (some ⟨w.heap.size, 0, none⟩) ps.length ps.length) ∧ ∃ Ty, w' = w.alloc (.cells ((ps.map fun p => Value.string ⟨p.toArray⟩).toArray) Ty)) :
    ASpec P f args H (fun r H' => r = .sl 1 (.map T.encL [] ps) .none ∧ H' = H) := by
  intro M loc w vs ht hr hv
  refine (h M loc w vs ht hv).mono fun e w' ⟨he, Ty, hw⟩ => ?_
  subst hw
  obtain ⟨r1, r2⟩ := hr.data (.cells ((ps.map fun p => Value.string ⟨p.toArray⟩).toArray) Ty) ps.length (fun _ => ⟨_, Ty, (0, 0), rfl, by simp⟩)
  have hL : (Seq.map T.encL [] ps).toList.length = ps.length := by simp [Seq.toList]
  refine ⟨_, _, H, _, loc, he, ⟨rfl, rfl⟩, r1, ?_, r2⟩
  have key := VRel.sl (M := M.grow w.heap.size ps.length) (w := w.alloc (.cells ((ps.map fun p => Value.string ⟨p.toArray⟩).toArray) Ty)) (loc := loc) 1 (Seq.map T.encL [] ps) .none w.heap.size 0 ps.length (fun i _ => .string ⟨(ps.getD i []).toArray⟩)
    (fun i hi => by simp [Seq.toList, T.encL])
    (fun i j hi hj => ?_) (fun i j hi hj => ?_) (by rw [hL]; exact Nat.le_refl _) (by intro h; cases h) (by intro h; cases h) (by intro id h; cases h)
  · rw [hL] at key; exact key
  · have hi' : i < ps.length := by rw [hL] at hi; exact hi
    have hj' : j = 0 := by omega
    subst hj'
    refine ⟨?_, .inr ?_⟩
    · simp only [World.cell?, heap_alloc_new]
      simp [List.getD_eq_getElem?_getD, List.getElem?_eq_getElem hi']
    · simp only [Mem.grow, if_pos]
      omega
  · have hi' : i < ps.length := by rw [hL] at hi; exact hi
    have hj' : j = 0 := by
      have : j < 1 := by simpa [Seq.toList, T.encL] using hj
      omega
    subst hj'
    have e : ((Seq.map T.encL [] ps).toList[i]'hi)[0]'hj = .str ⟨(ps.getD i []).toArray⟩ := by
      simp [Seq.toList, T.encL, List.getD_eq_getElem?_getD, List.getElem?_eq_getElem hi']
    rw [e]
    exact .str _
end
end Go.Ab
end

section
/- PickPuts: what was put is there, what was dropped is not: plain laws. -/

set_option linter.unusedVariables false
set_option linter.unusedSimpArgs false
open Go Go.Ab Go.Proofs V S T C
open Pc (putM getM dropM insD putD UpK lessN)
namespace Dk
theorem insD_mem {p y : Pk} : ∀ {l : List Pk}, y ∈ insD p l ↔ y = p ∨ y ∈ l
  | [] => by simp [insD]
  | z :: r => by
    simp only [insD]
    split
    · simp
    · have := insD_mem (p := p) (y := y) (l := r)
      simp only [List.mem_cons, this]
      constructor
      · rintro (h | h | h) <;> simp [h]
      · rintro (h | h | h) <;> simp [h]
theorem get_ins_same {p : Pk} : ∀ {l : List Pk}, (∀ y ∈ l, y.1 ≠ p.1) → getM (insD p l) p.1 = (p.2, true)
  | [], _ => by simp [insD, getM]
  | z :: r, h => by
    simp only [insD]
    split
    · simp [getM]
    · simp only [getM, if_neg (h z (by simp))]
      exact get_ins_same fun y hy => h y (by simp [hy])
theorem get_ins_other {p : Pk} {x : Nm} (hx : p.1 ≠ x) : ∀ {l : List Pk}, getM (insD p l) x = getM l x
  | [] => by simp [insD, getM, hx]
  | z :: r => by
    simp only [insD]
    split
    · simp only [getM, if_neg hx]
    · simp only [getM]
      rw [get_ins_other hx]
theorem drop_mem {l : List Pk} {x : Nm} {y : Pk} : y ∈ dropM l x ↔ y ∈ l ∧ y.1 ≠ x := by simp [dropM]
theorem get_drop_other {x y : Nm} (h : y ≠ x) : ∀ {l : List Pk}, getM (dropM l x) y = getM l y
  | [] => rfl
  | z :: r => by
    have ih := get_drop_other h (l := r)
    unfold dropM at ih ⊢
    rw [List.filter_cons]
    split
    · simp only [getM]; rw [ih]
    · rename_i hz
      have hz : z.1 = x := by simpa using hz
      simp only [getM]
      rw [if_neg (by rw [hz]; exact fun e => h e.symm), ih]
theorem get_none {x : Nm} : ∀ {l : List Pk}, (∀ y ∈ l, y.1 ≠ x) → getM l x = (0, false)
  | [], _ => rfl
  | z :: r, h => by
    simp only [getM, if_neg (h z (by simp))]
    exact get_none fun y hy => h y (by simp [hy])
theorem drop_ins {p : Pk} : ∀ {l : List Pk}, dropM (insD p l) p.1 = dropM l p.1
  | [] => by simp [insD, dropM]
  | z :: r => by
    have ih := drop_ins (p := p) (l := r)
    simp only [insD]
    split
    · simp [dropM]
    · unfold dropM at ih ⊢
      rw [List.filter_cons, List.filter_cons, ih]
theorem put_same (l : List Pk) (p : Pk) : getM (putD l p) p.1 = (p.2, true) := get_ins_same fun y hy => (drop_mem.1 hy).2
theorem put_other {l : List Pk} {p : Pk} {x : Nm} (h : x ≠ p.1) : getM (putD l p) x = getM l x := by
  unfold putD
  rw [get_ins_other (fun e => h e.symm), get_drop_other h]
theorem drop_put (l : List Pk) (p : Pk) : dropM (putD l p) p.1 = dropM l p.1 := by
  unfold putD
  rw [drop_ins]
  simp [dropM]
theorem drop_gone (l : List Pk) (x : Nm) : getM (dropM l x) x = (0, false) := get_none fun y hy => (drop_mem.1 hy).2
theorem drop_up {l : List Pk} {x : Nm} (h : UpK l) : UpK (dropM l x) := List.Pairwise.filter _ h
theorem chk_fit : ∀ {s : List Pk} {o : Option Nm}, chkF o s = true → ∀ p ∈ s, fitP p = true
  | [], _, _, p, hp => by simp at hp
  | z :: r, o, h, p, hp => by
    cases hz : fitP z with
    | false =>
      simp only [chkF, hz, if_true] at h
      cases h
    | true =>
      rcases List.mem_cons.1 hp with rfl | hp
      · exact hz
      · simp only [chkF, hz, Bool.true_eq_false, if_false] at h
        cases o with
        | none => exact chk_fit h p hp
        | some q =>
          simp only at h
          split at h
          · cases h
          · exact chk_fit h p hp
theorem chk_some {s : List Pk} {q : Nm} (hu : UpK s) (hq : ∀ y ∈ s, lessN q y.1) (hf : ∀ p ∈ s, fitP p = true) : chkF (some q) s = true := by
  induction s generalizing q with
  | nil => rfl
  | cons z r ih =>
    have hu' := List.pairwise_cons.1 hu
    have hz := hq z (by simp)
    have h1 : (Op.bytesLess z.1 q || z.1 == q) = false := by
      rw [Bool.or_eq_false_iff]
      exact ⟨Pc.ltn_false hz, by simpa using (Pc.ltn_ne hz).symm⟩
    simp only [chkF, hf z (by simp), Bool.true_eq_false, if_false, h1, Bool.false_eq_true]
    exact ih hu'.2 hu'.1 fun p hp => hf p (by simp [hp])
theorem chk_of {s : List Pk} (hu : UpK s) (hf : ∀ p ∈ s, fitP p = true) : chkF none s = true := by
  cases s with
  | nil => rfl
  | cons z r =>
    have hu' := List.pairwise_cons.1 hu
    simp only [chkF, hf z (by simp), Bool.true_eq_false, if_false]
    exact chk_some hu'.2 hu'.1 fun p hp => hf p (by simp [hp])
theorem put_chk {l : List Pk} {p : Pk} (h : chkF none l = true) (hp : fitP p = true) : chkF none (putM l p) = true := by
  have hu := chk_up h
  refine chk_of (Pc.put_up hu p) fun y hy => ?_
  rw [Pc.putM_putD hu] at hy
  rcases insD_mem.1 hy with rfl | hy
  · exact hp
  · exact chk_fit h y (drop_mem.1 hy).1
theorem drop_chk {l : List Pk} {x : Nm} (h : chkF none l = true) : chkF none (dropM l x) = true :=
  chk_of (drop_up (chk_up h)) fun y hy => chk_fit h y (drop_mem.1 hy).1
end Dk
end

section
/- What was put together is taken apart: plain laws of texts of picks. -/

set_option linter.unusedVariables false
set_option linter.unusedSimpArgs false
open Go Go.Lib
namespace Dk
theorem index_at {c : UInt8} {t r : List UInt8} (hp : List.isPrefixOf (c :: t) (c :: r) = true) : ∀ {x : List UInt8}, c ∉ x → index (x ++ c :: r) (c :: t) = (x.length : Int)
  | [], _ => by
    simp only [List.nil_append, index]
    rw [if_pos hp]; rfl
  | b :: x, h => by
    have hb : c ≠ b := fun e => h (by simp [e])
    have ih := index_at hp (x := x) fun hx => h (by simp [hx])
    have hq : List.isPrefixOf (c :: t) (b :: (x ++ c :: r)) = false := by
      simp only [List.isPrefixOf, Bool.and_eq_false_iff, beq_eq_false_iff_ne]
      exact .inl hb
    simp only [List.cons_append, index]
    rw [hq, ih]
    have hne : ((x.length : Int) == -1) = false := by rw [beq_eq_false_iff_ne]; omega
    simp only [Bool.false_eq_true, if_false, hne, List.length_cons]
    omega
theorem index_no {c : UInt8} {t : List UInt8} : ∀ (x : List UInt8), c ∉ x → index x (c :: t) = -1
  | [], _ => rfl
  | b :: x, h => by
    have hb : c ≠ b := fun e => h (by simp [e])
    have ih : index x (c :: t) = -1 := index_no x fun hx => h (List.mem_cons_of_mem _ hx)
    have hq : List.isPrefixOf (c :: t) (b :: x) = false := by
      simp only [List.isPrefixOf, Bool.and_eq_false_iff, beq_eq_false_iff_ne]
      exact .inl hb
    simp only [index]
    rw [hq, ih]
    rfl
theorem cut_at {x y : List UInt8} (h : (32 : UInt8) ∉ x) : Lib.cut (x ++ 32 :: y) [32] = (x, y, true) := by
  have hi : index (x ++ 32 :: y) [32] = (x.length : Int) := index_at (t := []) (by simp [List.isPrefixOf]) h
  unfold Lib.cut
  rw [hi, if_pos (by omega), Int.toNat_natCast]
  simp
abbrev sepP : List UInt8 := [44, 32]
theorem join_cons (p q : List UInt8) (r : List (List UInt8)) : Lib.join (p :: q :: r) sepP = p ++ 44 :: 32 :: Lib.join (q :: r) sepP := by
  simp [Lib.join, List.intercalate, List.intersperse]
theorem split_join : ∀ (ps : List (List UInt8)) (k : Nat), ps ≠ [] → (∀ p ∈ ps, (44 : UInt8) ∉ p) → ps.length ≤ k + 1 → splitK sepP 0 k (Lib.join ps sepP) = ps
  | [], _, h, _, _ => (h rfl).elim
  | [p], k, _, h, _ => by
    rw [Lib.join_one]
    cases k with
    | zero => rfl
    | succ k =>
      unfold splitK
      rw [index_no _ (h p (by simp))]
      rfl
  | p :: q :: r, k, _, h, hk => by
    rw [join_cons]
    obtain ⟨k, rfl⟩ : ∃ k', k = k' + 1 := ⟨k - 1, by simp at hk; omega⟩
    have hi : index (p ++ 44 :: 32 :: Lib.join (q :: r) sepP) sepP = (p.length : Int) := index_at (t := [32]) (by simp [List.isPrefixOf]) (h p (by simp))
    unfold splitK
    rw [hi]
    have hne : ((p.length : Int) == -1) = false := by rw [beq_eq_false_iff_ne]; omega
    simp only [hne, Bool.false_eq_true, if_false, Int.toNat_natCast, Nat.add_zero]
    have h1 : (p ++ 44 :: 32 :: Lib.join (q :: r) sepP).take p.length = p := by simp
    have h2 : (p ++ 44 :: 32 :: Lib.join (q :: r) sepP).drop (p.length + sepP.length) = Lib.join (q :: r) sepP := by
      rw [List.drop_append]; simp
    rw [h1, h2, split_join (q :: r) k (by simp) (fun x hx => h x (by simp [hx])) (by simp at hk ⊢; omega)]
theorem count_join : ∀ (ps : List (List UInt8)) (f : Nat), ps ≠ [] → (∀ p ∈ ps, (44 : UInt8) ∉ p) → ps.length ≤ f → countFrom sepP f (Lib.join ps sepP) = ps.length - 1
  | [], _, h, _, _ => (h rfl).elim
  | [p], f, _, h, hf => by
    obtain ⟨f, rfl⟩ : ∃ f', f = f' + 1 := ⟨f - 1, by simp at hf; omega⟩
    rw [Lib.join_one]
    unfold countFrom
    rw [index_no _ (h p (by simp))]
    rfl
  | p :: q :: r, f, _, h, hf => by
    obtain ⟨f, rfl⟩ : ∃ f', f = f' + 1 := ⟨f - 1, by simp at hf; omega⟩
    rw [join_cons]
    have hi : index (p ++ 44 :: 32 :: Lib.join (q :: r) sepP) sepP = (p.length : Int) := index_at (t := [32]) (by simp [List.isPrefixOf]) (h p (by simp))
    unfold countFrom
    rw [hi]
    have hne : ((p.length : Int) == -1) = false := by rw [beq_eq_false_iff_ne]; omega
    simp only [hne, Bool.false_eq_true, if_false, Int.toNat_natCast]
    have h2 : (p ++ 44 :: 32 :: Lib.join (q :: r) sepP).drop (p.length + sepP.length) = Lib.join (q :: r) sepP := by
      rw [List.drop_append]; simp
    rw [h2, count_join (q :: r) f (by simp) (fun x hx => h x (by simp [hx])) (by simp at hf ⊢; omega)]
    simp; omega
theorem join_len : ∀ (ps : List (List UInt8)), ps.length ≤ (Lib.join ps sepP).length + 1
  | [] => by simp
  | [p] => by simp
  | p :: q :: r => by
    rw [join_cons]
    have := join_len (q :: r)
    simp at this ⊢; omega
/-- the pieces of what was joined -/
theorem split_spec (ps : List (List UInt8)) (h0 : ps ≠ []) (h : ∀ p ∈ ps, (44 : UInt8) ∉ p) : Lib.count (Lib.join ps sepP) sepP = ps.length - 1 ∧ Lib.split (Lib.join ps sepP) sepP = ps := by
  have hc : Lib.count (Lib.join ps sepP) sepP = ps.length - 1 := count_join ps _ h0 h (join_len ps)
  refine ⟨hc, ?_⟩
  unfold Lib.split
  rw [hc]
  exact split_join ps _ h0 h (by omega)
end Dk
end

section
/- A name that may be has no comma and no blank. -/

set_option linter.unusedVariables false
set_option linter.unusedSimpArgs false
open Go Go.Ab Go.Proofs V S
namespace Dk
theorem fitF_kind : ∀ {cs : List Int} {n : Nat}, fitF n cs = true → ∀ c ∈ cs, kindM c ≤ 3
  | [], _, _, c, hc => by simp at hc
  | d :: r, n, h, c, hc => by
    simp only [fitF] at h
    split at h
    · cases h
    · rename_i hd
      rcases List.mem_cons.1 hc with rfl | hc
      · omega
      · exact fitF_kind h c hc
abbrev badC (n : Nat) : Prop := n = 44 ∨ n = 32
theorem runes_no {l : List UInt8} : ∀ (f p : Nat), l.length - p ≤ f → (∀ c ∈ runesF f l p, kindM c ≤ 3) → ∀ j, p ≤ j → j < l.length → ¬ badC (l.getD j 0).toNat
  | 0, p, hf, _, j, hj, hl => by omega
  | f + 1, p, hf, h, j, hj, hl => by
    have hp : p < l.length := by omega
    simp only [runesF, if_pos hp] at h
    have hk := h _ List.mem_cons_self
    have hw := runeM_width l p
    have ih := runes_no f (p + (runeM l p).2) (by omega) fun c hc => h c (List.mem_cons_of_mem _ hc)
    by_cases hjw : p + (runeM l p).2 ≤ j
    · exact ih j hjw hl
    · obtain ⟨i, rfl⟩ : ∃ i, j = p + i := ⟨j - p, by omega⟩
      show ¬ badC (bt l p i)
      rcases Nat.lt_or_ge (bt l p 0) 128 with hb | hb
      · have e : runeM l p = (bt l p 0, 1) := by unfold runeM runeC; rw [if_pos hb]
        rw [e] at hk hjw
        have hi : i = 0 := by simp at hjw; omega
        subst hi
        intro hbad
        have : kindM ((bt l p 0 : Nat) : Int) = 4 := by
          rcases hbad with h | h <;> rw [h] <;> decide
        simp at hk
        omega
      · by_cases hz : wideM l p = 0
        · have e : runeM l p = (65533, 1) := by unfold runeM runeC; rw [if_neg (by omega), if_pos hz]
          rw [e] at hk
          have : kindM (65533 : Int) = 4 := by decide
          simp at hk
          omega
        · rcases Nat.eq_zero_or_pos i with hi | hi
          · subst hi
            rintro (h | h) <;> omega
          · have hn : (runeM l p).2 ≤ nOf (bt l p 0) := by
              have hc := wideM_cases l p
              have hn := nOf_cases (bt l p 0)
              unfold runeM runeC
              rw [if_neg (by omega), if_neg hz]
              split
              · simp only; omega
              · split
                · simp only; omega
                · simp only; omega
            have hr : ¬ (bt l p i < 128 ∨ 191 < bt l p i) := fun hb => hz (wide_bad (l := l) (p := p) (i := i) hi (by omega) hb)
            rintro (h | h) <;> omega
/-- no comma, no blank -/
theorem fit_no {l : List UInt8} (h : fitM l = true) : (44 : UInt8) ∉ l ∧ (32 : UInt8) ∉ l := by
  have key := runes_no l.length 0 (by omega) (fitF_kind h)
  have no : ∀ c : UInt8, badC c.toNat → c ∉ l := by
    intro c hc hm
    obtain ⟨j, hj, e⟩ := List.getElem_of_mem hm
    refine key j (Nat.zero_le _) hj ?_
    rw [List.getD_eq_getElem?_getD, List.getElem?_eq_getElem hj]
    simp only [Option.getD_some]
    rw [e]; exact hc
  exact ⟨no 44 (.inl rfl), no 32 (.inr rfl)⟩
end Dk
end

section
/- The codecs of this seat's plain arguments. -/

open Go Go.Ab Go.Proofs
namespace Go.Ab

noncomputable def cInt : Codec Tryd.prog 3 Int := Codec.int .i64 Tryd.underlying3
noncomputable def cStr : Codec Tryd.prog 9 ByteArray := Codec.str Tryd.underlying9
end Go.Ab
end

section
/- The codecs of manifests. -/

open Go Go.Ab Go.Proofs
namespace Go.Ab

noncomputable def cName : Codec Tryd.prog 9 (List UInt8) := cStr.iso (fun s => s.data.toList) (fun l => [.str ⟨l.toArray⟩]) (fun _ => True) (fun _ => rfl) (fun _ _ => trivial)
end Go.Ab
end
