/- Printed: what the code of functions 17, 18, 19, 6, 7, 8, 9, 10, 11, 12, 13, 21, 15, 16, 14, 4, 3, 5 asks for, by the framework's own reading of it; each line is checked against the code. -/
import Derived.Test.YtifbfcljgagacaaDoorProg
import Derived.Test.YtifbfcljgagacaaDoorAbVc
set_option linter.unusedVariables false
set_option maxRecDepth 100000
set_option maxHeartbeats 4000000
open Go Go.Ab Go.Proofs
namespace D
noncomputable section

noncomputable def retL : List (Nat × Ret) := [
  (3, ⟨Unit, fun _ _ _ => .bool true, fun _ H _ => H⟩),
  (4, ⟨Unit, fun _ _ _ => .bool true, fun _ H _ => H⟩),
  (5, ⟨Unit, fun _ _ _ => .bool true, fun _ H _ => H⟩),
  (6, ⟨Int × Bool, fun _ _ x => .tup [.int .i64 x.1, .bool x.2], fun _ H _ => H⟩),
  (7, ⟨Int × Bool, fun _ _ x => .tup [.int .i64 x.1, .bool x.2], fun _ H _ => H⟩),
  (8, ⟨(Int × Int × Int) × Bool, fun _ _ x => .tup [.agg [.int .i64 x.1.1, .int .i64 x.1.2.1, .int .i64 x.1.2.2], .bool x.2], fun _ H _ => H⟩),
  (9, ⟨(Int × Int × Int) × Bool, fun _ _ x => .tup [.agg [.int .i64 x.1.1, .int .i64 x.1.2.1, .int .i64 x.1.2.2], .bool x.2], fun _ H _ => H⟩),
  (10, ⟨ByteArray, fun _ _ x => .str x, fun _ H _ => H⟩),
  (11, ⟨ByteArray, fun _ _ x => .str x, fun _ H _ => H⟩),
  (12, ⟨Int, fun _ _ x => .int .i64 x, fun _ H _ => H⟩),
  (13, ⟨Int, fun _ _ x => .int .i64 x, fun _ H _ => H⟩),
  (14, ⟨Bool, fun _ _ x => .bool x, fun _ H _ => H⟩),
  (15, ⟨Int × Bool, fun _ _ x => .tup [.int .i64 x.1, .bool x.2], fun _ H _ => H⟩),
  (16, ⟨Int × Bool, fun _ _ x => .tup [.int .i64 x.1, .bool x.2], fun _ H _ => H⟩),
  (17, ⟨Unit, fun _ _ x => .agg [.int .i64 1000000, .int .i64 1000, .int .i64 1], fun _ H _ => H⟩),
  (18, ⟨Bool, fun _ _ x => .bool x, fun _ H _ => H⟩),
  (19, ⟨Bool, fun _ _ x => .bool x, fun _ H _ => H⟩),
  (20, ⟨ByteArray, fun _ _ x => .str x, fun _ H _ => H⟩),
  (21, ⟨ByteArray, fun _ _ x => .str x, fun _ H _ => H⟩)]
noncomputable def rets : FuncId → List Ret := lookupR retL

-- 17
noncomputable def l17 : Nat → List Nat
  | _ => []
noncomputable def u17 : Nat → Bool
  | _ => false
noncomputable def m17 : Nat → Bool
  | _ => false
noncomputable def g17 : Cfg := { N := 2, live := l17, cut := u17, mu := m17, ret := rets }
noncomputable def c17 : Go.Code := Go.Ab.bodyOf Go.Proofs.Tryd.f17
theorem s17 : ∀ (Post : AV → List AObj → Prop),
  Post (AV.agg [AV.int IntKind.i64 (1000000 : Int), AV.int IntKind.i64 (1000 : Int), AV.int IntKind.i64 (1 : Int)])
      [AObj.cells [AV.int IntKind.i64 (1000000 : Int), AV.int IntKind.i64 (1000 : Int), AV.int IntKind.i64 (1 : Int)]] →
    ASpec Tryd.prog 17 [] [] Post := fun Post h => Go.Ab.ASpec.of_vc g17 Go.Proofs.Tryd.func17 (by kernel_rfl) (by kernel_rfl) (by kernel_rfl) (Go.Ab.kc (by kernel_rfl) h)

-- 18
noncomputable def l18 : Nat → List Nat
  | _ => []
noncomputable def u18 : Nat → Bool
  | _ => false
noncomputable def m18 : Nat → Bool
  | _ => false
noncomputable def g18 : Cfg := { N := 9, live := l18, cut := u18, mu := m18, ret := rets }
noncomputable def c18 : Go.Code := Go.Ab.bodyOf Go.Proofs.Tryd.f18
theorem s18 : ∀ (p : Int) (Post : AV → List AObj → Prop),
  condP (decide (p ≥ (0 : Int))) (Post (AV.bool (decide (p < (1000000000 : Int)))) []) (Post (AV.bool false) []) → ASpec Tryd.prog 18 [AV.int IntKind.i64 p] [] Post := fun p Post h => Go.Ab.ASpec.of_vc g18 Go.Proofs.Tryd.func18 (by kernel_rfl) (by kernel_rfl) (by kernel_rfl) (Go.Ab.kc (by kernel_rfl) h)

-- 19
noncomputable def l19 : Nat → List Nat
  | _ => []
noncomputable def u19 : Nat → Bool
  | _ => false
noncomputable def m19 : Nat → Bool
  | _ => false
noncomputable def g19 : Cfg := { N := 9, live := l19, cut := u19, mu := m19, ret := rets }
noncomputable def c19 : Go.Code := Go.Ab.bodyOf Go.Proofs.Tryd.f19
theorem s19 : ∀ (p : Int) (Post : AV → List AObj → Prop),
  condP (decide (p ≥ (0 : Int))) (Post (AV.bool (decide (p < (1000000000 : Int)))) []) (Post (AV.bool false) []) → ASpec Tryd.prog 19 [AV.int IntKind.i64 p] [] Post := fun p Post h => Go.Ab.ASpec.of_vc g19 Go.Proofs.Tryd.func19 (by kernel_rfl) (by kernel_rfl) (by kernel_rfl) (Go.Ab.kc (by kernel_rfl) h)

-- 6
noncomputable def l6 : Nat → List Nat
  | 3 => [1, 4, 7, 8]
  | _ => []
noncomputable def u6 : Nat → Bool
  | _ => false
noncomputable def m6 : Nat → Bool
  | _ => false
noncomputable def g6 : Cfg := { N := 31, live := l6, cut := u6, mu := m6, ret := rets }
noncomputable def c6 : Go.Code := Go.Ab.bodyOf Go.Proofs.Tryd.f6
noncomputable def q6_0 : Nat → (AV → List AObj → Prop) → AQ := fun (n : Nat) (Post : AV → List AObj → Prop) => endQ Tryd.prog (resultsOf Tryd.f6) Post
noncomputable def q6_1 : Nat → (AV → List AObj → Prop) → AQ := fun (n : Nat) (Post : AV → List AObj → Prop) => seqQ (fun (s' : Slots) (H' : List AObj) => awp Tryd.prog g6 n (codeSnd (codeSnd (codeSnd c6))) s' H' (q6_0 n Post)) (q6_0 n Post)
noncomputable def q6_2 : Nat → (AV → List AObj → Prop) → AQ := fun (n : Nat) (Post : AV → List AObj → Prop) => blockQ 0 (q6_1 n Post)
noncomputable def c6_3 : Go.Code := codeFst (codeSnd (codeFst (codeSnd (codeSnd c6))))
theorem s6 : ∀ (a b c : Int) (Post : AV → List AObj → Prop),
  (ASpec Tryd.prog 17 [] [AObj.cells [AV.int IntKind.i64 a, AV.int IntKind.i64 b, AV.int IntKind.i64 c]] fun (r : AV) (H' : List AObj) =>
      ∃ (x : Unit),
        r = AV.agg [AV.int IntKind.i64 (1000000 : Int), AV.int IntKind.i64 (1000 : Int), AV.int IntKind.i64 (1 : Int)] ∧
          H' = [AObj.cells [AV.int IntKind.i64 a, AV.int IntKind.i64 b, AV.int IntKind.i64 c]] ∧
            AWP Tryd.prog 31 0 c6_3
              [(1, AV.ptr 0 0), (4, AV.int IntKind.i64 (0 : Int)),
                (7, AV.agg [AV.int IntKind.i64 (1000000 : Int), AV.int IntKind.i64 (1000 : Int), AV.int IntKind.i64 (1 : Int)]), (8, AV.int IntKind.i64 (0 : Int))]
              [AObj.cells [AV.int IntKind.i64 a, AV.int IntKind.i64 b, AV.int IntKind.i64 c]] (q6_2 0 Post)) →
    ASpec Tryd.prog 6 [AV.agg [AV.int IntKind.i64 a, AV.int IntKind.i64 b, AV.int IntKind.i64 c]] [] Post := fun a b c Post h => Go.Ab.ASpec.of_vc g6 Go.Proofs.Tryd.func6 (by kernel_rfl) (by kernel_rfl) (by kernel_rfl) (Go.Ab.kc (by kernel_rfl) h)
theorem v6_3a : ∀ (a b c s : Int) (n : Nat) (Post : AV → List AObj → Prop),
  needP ((0 : Int) ≤ (0 : Int) ∧ (0 : Int) < (3 : Int))
      (needP ((0 : Int) ≤ (0 : Int) ∧ (0 : Int) < (3 : Int))
        (condP (decide (a < (0 : Int))) (Post (AV.tup [AV.int IntKind.i64 (0 : Int), AV.bool false]) [AObj.cells [AV.int IntKind.i64 a, AV.int IntKind.i64 b, AV.int IntKind.i64 c]])
          (needP ((0 : Int) ≤ (0 : Int) ∧ (0 : Int) < (3 : Int))
            (condP (decide (a ≥ (1000 : Int))) (Post (AV.tup [AV.int IntKind.i64 (0 : Int), AV.bool false]) [AObj.cells [AV.int IntKind.i64 a, AV.int IntKind.i64 b, AV.int IntKind.i64 c]])
              (needP ((0 : Int) ≤ (0 : Int) ∧ (0 : Int) < (3 : Int))
                (AWP Tryd.prog 31 n c6_3
                  [(1, AV.ptr 0 0), (4, AV.int IntKind.i64 (IntKind.wrap IntKind.i64 (s + IntKind.wrap IntKind.i64 (a * (1000000 : Int))))),
                    (7, AV.agg [AV.int IntKind.i64 (1000000 : Int), AV.int IntKind.i64 (1000 : Int), AV.int IntKind.i64 (1 : Int)]), (8, AV.int IntKind.i64 (1 : Int))]
                  [AObj.cells [AV.int IntKind.i64 a, AV.int IntKind.i64 b, AV.int IntKind.i64 c]] (q6_2 n Post))))))) →
    AWP Tryd.prog 31 n c6_3
      [(1, AV.ptr 0 0), (4, AV.int IntKind.i64 s),
        (7, AV.agg [AV.int IntKind.i64 (1000000 : Int), AV.int IntKind.i64 (1000 : Int), AV.int IntKind.i64 (1 : Int)]), (8, AV.int IntKind.i64 (0 : Int))]
      [AObj.cells [AV.int IntKind.i64 a, AV.int IntKind.i64 b, AV.int IntKind.i64 c]] (q6_2 n Post) := fun a b c s n Post h => Go.Ab.AWP.loop' g6 (Cfg.live g6) c6_3 (by kernel_rfl) (by kernel_rfl) (Go.Ab.kc (by kernel_rfl) h)
theorem v6_3b : ∀ (a b c s : Int) (n : Nat) (Post : AV → List AObj → Prop),
  needP ((0 : Int) ≤ (1 : Int) ∧ (1 : Int) < (3 : Int))
      (needP ((0 : Int) ≤ (1 : Int) ∧ (1 : Int) < (3 : Int))
        (condP (decide (b < (0 : Int))) (Post (AV.tup [AV.int IntKind.i64 (0 : Int), AV.bool false]) [AObj.cells [AV.int IntKind.i64 a, AV.int IntKind.i64 b, AV.int IntKind.i64 c]])
          (needP ((0 : Int) ≤ (1 : Int) ∧ (1 : Int) < (3 : Int))
            (condP (decide (b ≥ (1000 : Int))) (Post (AV.tup [AV.int IntKind.i64 (0 : Int), AV.bool false]) [AObj.cells [AV.int IntKind.i64 a, AV.int IntKind.i64 b, AV.int IntKind.i64 c]])
              (needP ((0 : Int) ≤ (1 : Int) ∧ (1 : Int) < (3 : Int))
                (AWP Tryd.prog 31 n c6_3
                  [(1, AV.ptr 0 0), (4, AV.int IntKind.i64 (IntKind.wrap IntKind.i64 (s + IntKind.wrap IntKind.i64 (b * (1000 : Int))))),
                    (7, AV.agg [AV.int IntKind.i64 (1000000 : Int), AV.int IntKind.i64 (1000 : Int), AV.int IntKind.i64 (1 : Int)]), (8, AV.int IntKind.i64 (2 : Int))]
                  [AObj.cells [AV.int IntKind.i64 a, AV.int IntKind.i64 b, AV.int IntKind.i64 c]] (q6_2 n Post))))))) →
    AWP Tryd.prog 31 n c6_3
      [(1, AV.ptr 0 0), (4, AV.int IntKind.i64 s),
        (7, AV.agg [AV.int IntKind.i64 (1000000 : Int), AV.int IntKind.i64 (1000 : Int), AV.int IntKind.i64 (1 : Int)]), (8, AV.int IntKind.i64 (1 : Int))]
      [AObj.cells [AV.int IntKind.i64 a, AV.int IntKind.i64 b, AV.int IntKind.i64 c]] (q6_2 n Post) := fun a b c s n Post h => Go.Ab.AWP.loop' g6 (Cfg.live g6) c6_3 (by kernel_rfl) (by kernel_rfl) (Go.Ab.kc (by kernel_rfl) h)
theorem v6_3c : ∀ (a b c s : Int) (n : Nat) (Post : AV → List AObj → Prop),
  needP ((0 : Int) ≤ (2 : Int) ∧ (2 : Int) < (3 : Int))
      (needP ((0 : Int) ≤ (2 : Int) ∧ (2 : Int) < (3 : Int))
        (condP (decide (c < (0 : Int))) (Post (AV.tup [AV.int IntKind.i64 (0 : Int), AV.bool false]) [AObj.cells [AV.int IntKind.i64 a, AV.int IntKind.i64 b, AV.int IntKind.i64 c]])
          (needP ((0 : Int) ≤ (2 : Int) ∧ (2 : Int) < (3 : Int))
            (condP (decide (c ≥ (1000 : Int))) (Post (AV.tup [AV.int IntKind.i64 (0 : Int), AV.bool false]) [AObj.cells [AV.int IntKind.i64 a, AV.int IntKind.i64 b, AV.int IntKind.i64 c]])
              (needP ((0 : Int) ≤ (2 : Int) ∧ (2 : Int) < (3 : Int))
                (AWP Tryd.prog 31 n c6_3
                  [(1, AV.ptr 0 0), (4, AV.int IntKind.i64 (IntKind.wrap IntKind.i64 (s + IntKind.wrap IntKind.i64 (c * (1 : Int))))),
                    (7, AV.agg [AV.int IntKind.i64 (1000000 : Int), AV.int IntKind.i64 (1000 : Int), AV.int IntKind.i64 (1 : Int)]), (8, AV.int IntKind.i64 (3 : Int))]
                  [AObj.cells [AV.int IntKind.i64 a, AV.int IntKind.i64 b, AV.int IntKind.i64 c]] (q6_2 n Post))))))) →
    AWP Tryd.prog 31 n c6_3
      [(1, AV.ptr 0 0), (4, AV.int IntKind.i64 s),
        (7, AV.agg [AV.int IntKind.i64 (1000000 : Int), AV.int IntKind.i64 (1000 : Int), AV.int IntKind.i64 (1 : Int)]), (8, AV.int IntKind.i64 (2 : Int))]
      [AObj.cells [AV.int IntKind.i64 a, AV.int IntKind.i64 b, AV.int IntKind.i64 c]] (q6_2 n Post) := fun a b c s n Post h => Go.Ab.AWP.loop' g6 (Cfg.live g6) c6_3 (by kernel_rfl) (by kernel_rfl) (Go.Ab.kc (by kernel_rfl) h)
theorem v6_3d : ∀ (a b c s : Int) (n : Nat) (Post : AV → List AObj → Prop),
  Post (AV.tup [AV.int IntKind.i64 s, AV.bool true]) [AObj.cells [AV.int IntKind.i64 a, AV.int IntKind.i64 b, AV.int IntKind.i64 c]] →
    AWP Tryd.prog 31 n c6_3
      [(1, AV.ptr 0 0), (4, AV.int IntKind.i64 s),
        (7, AV.agg [AV.int IntKind.i64 (1000000 : Int), AV.int IntKind.i64 (1000 : Int), AV.int IntKind.i64 (1 : Int)]), (8, AV.int IntKind.i64 (3 : Int))]
      [AObj.cells [AV.int IntKind.i64 a, AV.int IntKind.i64 b, AV.int IntKind.i64 c]] (q6_2 n Post) := fun a b c s n Post h => Go.Ab.AWP.loop' g6 (Cfg.live g6) c6_3 (by kernel_rfl) (by kernel_rfl) (Go.Ab.kc (by kernel_rfl) h)

-- 7
noncomputable def l7 : Nat → List Nat
  | 3 => [1, 4, 5]
  | _ => []
noncomputable def u7 : Nat → Bool
  | _ => false
noncomputable def m7 : Nat → Bool
  | _ => false
noncomputable def g7 : Cfg := { N := 27, live := l7, cut := u7, mu := m7, ret := rets }
noncomputable def c7 : Go.Code := Go.Ab.bodyOf Go.Proofs.Tryd.f7
noncomputable def q7_0 : Nat → (AV → List AObj → Prop) → AQ := fun (n : Nat) (Post : AV → List AObj → Prop) => endQ Tryd.prog (resultsOf Tryd.f7) Post
noncomputable def q7_1 : Nat → (AV → List AObj → Prop) → AQ := fun (n : Nat) (Post : AV → List AObj → Prop) => seqQ (fun (s' : Slots) (H' : List AObj) => awp Tryd.prog g7 n (codeSnd (codeSnd (codeSnd c7))) s' H' (q7_0 n Post)) (q7_0 n Post)
noncomputable def q7_2 : Nat → (AV → List AObj → Prop) → AQ := fun (n : Nat) (Post : AV → List AObj → Prop) => blockQ 0 (q7_1 n Post)
noncomputable def c7_3 : Go.Code := codeFst (codeSnd (codeFst (codeSnd (codeSnd c7))))
theorem s7 : ∀ (a b c : Int) (Post : AV → List AObj → Prop),
  AWP Tryd.prog 27 0 c7_3 [(1, AV.ptr 0 0), (4, AV.int IntKind.i64 (0 : Int)), (5, AV.int IntKind.i64 (0 : Int))]
      [AObj.cells [AV.int IntKind.i64 a, AV.int IntKind.i64 b, AV.int IntKind.i64 c]] (q7_2 0 Post) →
    ASpec Tryd.prog 7 [AV.agg [AV.int IntKind.i64 a, AV.int IntKind.i64 b, AV.int IntKind.i64 c]] [] Post := fun a b c Post h => Go.Ab.ASpec.of_vc g7 Go.Proofs.Tryd.func7 (by kernel_rfl) (by kernel_rfl) (by kernel_rfl) (Go.Ab.kc (by kernel_rfl) h)
theorem v7_3a : ∀ (a b c s : Int) (n : Nat) (Post : AV → List AObj → Prop),
  needP ((0 : Int) ≤ (0 : Int) ∧ (0 : Int) < (3 : Int))
      (condP (decide (a < (0 : Int))) (Post (AV.tup [AV.int IntKind.i64 (0 : Int), AV.bool false]) [AObj.cells [AV.int IntKind.i64 a, AV.int IntKind.i64 b, AV.int IntKind.i64 c]])
        (needP ((0 : Int) ≤ (0 : Int) ∧ (0 : Int) < (3 : Int))
          (condP (decide (a > (999 : Int))) (Post (AV.tup [AV.int IntKind.i64 (0 : Int), AV.bool false]) [AObj.cells [AV.int IntKind.i64 a, AV.int IntKind.i64 b, AV.int IntKind.i64 c]])
            (needP ((0 : Int) ≤ (0 : Int) ∧ (0 : Int) < (3 : Int))
              (AWP Tryd.prog 27 n c7_3
                [(1, AV.ptr 0 0), (4, AV.int IntKind.i64 (IntKind.wrap IntKind.i64 (IntKind.wrap IntKind.i64 (s * (1000 : Int)) + a))),
                  (5, AV.int IntKind.i64 (1 : Int))]
                [AObj.cells [AV.int IntKind.i64 a, AV.int IntKind.i64 b, AV.int IntKind.i64 c]] (q7_2 n Post)))))) →
    AWP Tryd.prog 27 n c7_3 [(1, AV.ptr 0 0), (4, AV.int IntKind.i64 s), (5, AV.int IntKind.i64 (0 : Int))]
      [AObj.cells [AV.int IntKind.i64 a, AV.int IntKind.i64 b, AV.int IntKind.i64 c]] (q7_2 n Post) := fun a b c s n Post h => Go.Ab.AWP.loop' g7 (Cfg.live g7) c7_3 (by kernel_rfl) (by kernel_rfl) (Go.Ab.kc (by kernel_rfl) h)
theorem v7_3b : ∀ (a b c s : Int) (n : Nat) (Post : AV → List AObj → Prop),
  needP ((0 : Int) ≤ (1 : Int) ∧ (1 : Int) < (3 : Int))
      (condP (decide (b < (0 : Int))) (Post (AV.tup [AV.int IntKind.i64 (0 : Int), AV.bool false]) [AObj.cells [AV.int IntKind.i64 a, AV.int IntKind.i64 b, AV.int IntKind.i64 c]])
        (needP ((0 : Int) ≤ (1 : Int) ∧ (1 : Int) < (3 : Int))
          (condP (decide (b > (999 : Int))) (Post (AV.tup [AV.int IntKind.i64 (0 : Int), AV.bool false]) [AObj.cells [AV.int IntKind.i64 a, AV.int IntKind.i64 b, AV.int IntKind.i64 c]])
            (needP ((0 : Int) ≤ (1 : Int) ∧ (1 : Int) < (3 : Int))
              (AWP Tryd.prog 27 n c7_3
                [(1, AV.ptr 0 0), (4, AV.int IntKind.i64 (IntKind.wrap IntKind.i64 (IntKind.wrap IntKind.i64 (s * (1000 : Int)) + b))),
                  (5, AV.int IntKind.i64 (2 : Int))]
                [AObj.cells [AV.int IntKind.i64 a, AV.int IntKind.i64 b, AV.int IntKind.i64 c]] (q7_2 n Post)))))) →
    AWP Tryd.prog 27 n c7_3 [(1, AV.ptr 0 0), (4, AV.int IntKind.i64 s), (5, AV.int IntKind.i64 (1 : Int))]
      [AObj.cells [AV.int IntKind.i64 a, AV.int IntKind.i64 b, AV.int IntKind.i64 c]] (q7_2 n Post) := fun a b c s n Post h => Go.Ab.AWP.loop' g7 (Cfg.live g7) c7_3 (by kernel_rfl) (by kernel_rfl) (Go.Ab.kc (by kernel_rfl) h)
theorem v7_3c : ∀ (a b c s : Int) (n : Nat) (Post : AV → List AObj → Prop),
  needP ((0 : Int) ≤ (2 : Int) ∧ (2 : Int) < (3 : Int))
      (condP (decide (c < (0 : Int))) (Post (AV.tup [AV.int IntKind.i64 (0 : Int), AV.bool false]) [AObj.cells [AV.int IntKind.i64 a, AV.int IntKind.i64 b, AV.int IntKind.i64 c]])
        (needP ((0 : Int) ≤ (2 : Int) ∧ (2 : Int) < (3 : Int))
          (condP (decide (c > (999 : Int))) (Post (AV.tup [AV.int IntKind.i64 (0 : Int), AV.bool false]) [AObj.cells [AV.int IntKind.i64 a, AV.int IntKind.i64 b, AV.int IntKind.i64 c]])
            (needP ((0 : Int) ≤ (2 : Int) ∧ (2 : Int) < (3 : Int))
              (AWP Tryd.prog 27 n c7_3
                [(1, AV.ptr 0 0), (4, AV.int IntKind.i64 (IntKind.wrap IntKind.i64 (IntKind.wrap IntKind.i64 (s * (1000 : Int)) + c))),
                  (5, AV.int IntKind.i64 (3 : Int))]
                [AObj.cells [AV.int IntKind.i64 a, AV.int IntKind.i64 b, AV.int IntKind.i64 c]] (q7_2 n Post)))))) →
    AWP Tryd.prog 27 n c7_3 [(1, AV.ptr 0 0), (4, AV.int IntKind.i64 s), (5, AV.int IntKind.i64 (2 : Int))]
      [AObj.cells [AV.int IntKind.i64 a, AV.int IntKind.i64 b, AV.int IntKind.i64 c]] (q7_2 n Post) := fun a b c s n Post h => Go.Ab.AWP.loop' g7 (Cfg.live g7) c7_3 (by kernel_rfl) (by kernel_rfl) (Go.Ab.kc (by kernel_rfl) h)
theorem v7_3d : ∀ (a b c s : Int) (n : Nat) (Post : AV → List AObj → Prop),
  Post (AV.tup [AV.int IntKind.i64 s, AV.bool true]) [AObj.cells [AV.int IntKind.i64 a, AV.int IntKind.i64 b, AV.int IntKind.i64 c]] →
    AWP Tryd.prog 27 n c7_3 [(1, AV.ptr 0 0), (4, AV.int IntKind.i64 s), (5, AV.int IntKind.i64 (3 : Int))]
      [AObj.cells [AV.int IntKind.i64 a, AV.int IntKind.i64 b, AV.int IntKind.i64 c]] (q7_2 n Post) := fun a b c s n Post h => Go.Ab.AWP.loop' g7 (Cfg.live g7) c7_3 (by kernel_rfl) (by kernel_rfl) (Go.Ab.kc (by kernel_rfl) h)

-- 8
noncomputable def l8 : Nat → List Nat
  | 5 => [0, 2, 4, 12, 13]
  | _ => []
noncomputable def u8 : Nat → Bool
  | _ => false
noncomputable def m8 : Nat → Bool
  | _ => false
noncomputable def g8 : Cfg := { N := 25, live := l8, cut := u8, mu := m8, ret := rets }
noncomputable def c8 : Go.Code := Go.Ab.bodyOf Go.Proofs.Tryd.f8
noncomputable def q8_0 : Nat → (AV → List AObj → Prop) → AQ := fun (n : Nat) (Post : AV → List AObj → Prop) => endQ Tryd.prog (resultsOf Tryd.f8) Post
noncomputable def q8_1 : Nat → (AV → List AObj → Prop) → AQ := fun (n : Nat) (Post : AV → List AObj → Prop) => seqQ (fun (s' : Slots) (H' : List AObj) => awp Tryd.prog g8 n (codeSnd (codeSnd (codeSnd (codeSnd c8)))) s' H' (q8_0 n Post)) (q8_0 n Post)
noncomputable def q8_2 : Nat → (AV → List AObj → Prop) → AQ := fun (n : Nat) (Post : AV → List AObj → Prop) => blockQ 0 (q8_1 n Post)
noncomputable def c8_5 : Go.Code := codeFst (codeSnd (codeFst (codeSnd (codeSnd (codeSnd c8)))))
theorem s8 : ∀ (p : Int) (Post : AV → List AObj → Prop),
  (ASpec Tryd.prog 18 [AV.int IntKind.i64 p]
      [AObj.cells [AV.int IntKind.i64 (0 : Int), AV.int IntKind.i64 (0 : Int), AV.int IntKind.i64 (0 : Int)],
        AObj.cells [AV.int IntKind.i64 (0 : Int), AV.int IntKind.i64 (0 : Int), AV.int IntKind.i64 (0 : Int)]]
      fun (r : AV) (H' : List AObj) =>
      ∃ (x : Bool),
        r = AV.bool x ∧
          H' =
              [AObj.cells [AV.int IntKind.i64 (0 : Int), AV.int IntKind.i64 (0 : Int), AV.int IntKind.i64 (0 : Int)],
                AObj.cells [AV.int IntKind.i64 (0 : Int), AV.int IntKind.i64 (0 : Int), AV.int IntKind.i64 (0 : Int)]] ∧
            condP (!x)
              (Post (AV.tup [AV.agg [AV.int IntKind.i64 (0 : Int), AV.int IntKind.i64 (0 : Int), AV.int IntKind.i64 (0 : Int)], AV.bool false])
                [AObj.cells [AV.int IntKind.i64 (0 : Int), AV.int IntKind.i64 (0 : Int), AV.int IntKind.i64 (0 : Int)],
                  AObj.cells [AV.int IntKind.i64 (0 : Int), AV.int IntKind.i64 (0 : Int), AV.int IntKind.i64 (0 : Int)]])
              (ASpec Tryd.prog 17 []
                [AObj.cells [AV.int IntKind.i64 (0 : Int), AV.int IntKind.i64 (0 : Int), AV.int IntKind.i64 (0 : Int)],
                  AObj.cells [AV.int IntKind.i64 (0 : Int), AV.int IntKind.i64 (0 : Int), AV.int IntKind.i64 (0 : Int)]]
                fun (r : AV) (H' : List AObj) =>
                ∃ (x : Unit),
                  r = AV.agg [AV.int IntKind.i64 (1000000 : Int), AV.int IntKind.i64 (1000 : Int), AV.int IntKind.i64 (1 : Int)] ∧
                    H' =
                        [AObj.cells [AV.int IntKind.i64 (0 : Int), AV.int IntKind.i64 (0 : Int), AV.int IntKind.i64 (0 : Int)],
                          AObj.cells [AV.int IntKind.i64 (0 : Int), AV.int IntKind.i64 (0 : Int), AV.int IntKind.i64 (0 : Int)]] ∧
                      AWP Tryd.prog 25 0 c8_5
                        [(0, AV.int IntKind.i64 p), (2, AV.ptr 0 0), (4, AV.ptr 1 0),
                          (12, AV.agg [AV.int IntKind.i64 (1000000 : Int), AV.int IntKind.i64 (1000 : Int), AV.int IntKind.i64 (1 : Int)]), (13, AV.int IntKind.i64 (0 : Int))]
                        [AObj.cells [AV.int IntKind.i64 (0 : Int), AV.int IntKind.i64 (0 : Int), AV.int IntKind.i64 (0 : Int)],
                          AObj.cells [AV.int IntKind.i64 (0 : Int), AV.int IntKind.i64 (0 : Int), AV.int IntKind.i64 (0 : Int)]]
                        (q8_2 0 Post))) →
    ASpec Tryd.prog 8 [AV.int IntKind.i64 p] [] Post := fun p Post h => Go.Ab.ASpec.of_vc g8 Go.Proofs.Tryd.func8 (by kernel_rfl) (by kernel_rfl) (by kernel_rfl) (Go.Ab.kc (by kernel_rfl) h)
theorem v8_5a : ∀ (p x y z : Int) (n : Nat) (Post : AV → List AObj → Prop),
  needP ((0 : Int) ≤ (0 : Int) ∧ (0 : Int) < (3 : Int))
      (needP ((1000000 : Int) ≠ (0 : Int))
        (needP ((1000 : Int) ≠ (0 : Int))
          (needP ((0 : Int) ≤ (0 : Int) ∧ (0 : Int) < (3 : Int))
            (AWP Tryd.prog 25 n c8_5
              [(0, AV.int IntKind.i64 p), (2, AV.ptr 0 0), (4, AV.ptr 1 0),
                (12, AV.agg [AV.int IntKind.i64 (1000000 : Int), AV.int IntKind.i64 (1000 : Int), AV.int IntKind.i64 (1 : Int)]), (13, AV.int IntKind.i64 (1 : Int))]
              [AObj.cells [AV.int IntKind.i64 (0 : Int), AV.int IntKind.i64 (0 : Int), AV.int IntKind.i64 (0 : Int)],
                AObj.cells [AV.int IntKind.i64 (Int.tmod (IntKind.wrap IntKind.i64 (Int.tdiv p (1000000 : Int))) (1000 : Int)), AV.int IntKind.i64 y, AV.int IntKind.i64 z]]
              (q8_2 n Post))))) →
    AWP Tryd.prog 25 n c8_5
      [(0, AV.int IntKind.i64 p), (2, AV.ptr 0 0), (4, AV.ptr 1 0),
        (12, AV.agg [AV.int IntKind.i64 (1000000 : Int), AV.int IntKind.i64 (1000 : Int), AV.int IntKind.i64 (1 : Int)]), (13, AV.int IntKind.i64 (0 : Int))]
      [AObj.cells [AV.int IntKind.i64 (0 : Int), AV.int IntKind.i64 (0 : Int), AV.int IntKind.i64 (0 : Int)], AObj.cells [AV.int IntKind.i64 x, AV.int IntKind.i64 y, AV.int IntKind.i64 z]]
      (q8_2 n Post) := fun p x y z n Post h => Go.Ab.AWP.loop' g8 (Cfg.live g8) c8_5 (by kernel_rfl) (by kernel_rfl) (Go.Ab.kc (by kernel_rfl) h)
theorem v8_5b : ∀ (p x y z : Int) (n : Nat) (Post : AV → List AObj → Prop),
  needP ((0 : Int) ≤ (1 : Int) ∧ (1 : Int) < (3 : Int))
      (needP ((1000 : Int) ≠ (0 : Int))
        (needP ((1000 : Int) ≠ (0 : Int))
          (needP ((0 : Int) ≤ (1 : Int) ∧ (1 : Int) < (3 : Int))
            (AWP Tryd.prog 25 n c8_5
              [(0, AV.int IntKind.i64 p), (2, AV.ptr 0 0), (4, AV.ptr 1 0),
                (12, AV.agg [AV.int IntKind.i64 (1000000 : Int), AV.int IntKind.i64 (1000 : Int), AV.int IntKind.i64 (1 : Int)]), (13, AV.int IntKind.i64 (2 : Int))]
              [AObj.cells [AV.int IntKind.i64 (0 : Int), AV.int IntKind.i64 (0 : Int), AV.int IntKind.i64 (0 : Int)],
                AObj.cells [AV.int IntKind.i64 x, AV.int IntKind.i64 (Int.tmod (IntKind.wrap IntKind.i64 (Int.tdiv p (1000 : Int))) (1000 : Int)), AV.int IntKind.i64 z]]
              (q8_2 n Post))))) →
    AWP Tryd.prog 25 n c8_5
      [(0, AV.int IntKind.i64 p), (2, AV.ptr 0 0), (4, AV.ptr 1 0),
        (12, AV.agg [AV.int IntKind.i64 (1000000 : Int), AV.int IntKind.i64 (1000 : Int), AV.int IntKind.i64 (1 : Int)]), (13, AV.int IntKind.i64 (1 : Int))]
      [AObj.cells [AV.int IntKind.i64 (0 : Int), AV.int IntKind.i64 (0 : Int), AV.int IntKind.i64 (0 : Int)], AObj.cells [AV.int IntKind.i64 x, AV.int IntKind.i64 y, AV.int IntKind.i64 z]]
      (q8_2 n Post) := fun p x y z n Post h => Go.Ab.AWP.loop' g8 (Cfg.live g8) c8_5 (by kernel_rfl) (by kernel_rfl) (Go.Ab.kc (by kernel_rfl) h)
theorem v8_5c : ∀ (p x y z : Int) (n : Nat) (Post : AV → List AObj → Prop),
  needP ((0 : Int) ≤ (2 : Int) ∧ (2 : Int) < (3 : Int))
      (needP ((1 : Int) ≠ (0 : Int))
        (needP ((1000 : Int) ≠ (0 : Int))
          (needP ((0 : Int) ≤ (2 : Int) ∧ (2 : Int) < (3 : Int))
            (AWP Tryd.prog 25 n c8_5
              [(0, AV.int IntKind.i64 p), (2, AV.ptr 0 0), (4, AV.ptr 1 0),
                (12, AV.agg [AV.int IntKind.i64 (1000000 : Int), AV.int IntKind.i64 (1000 : Int), AV.int IntKind.i64 (1 : Int)]), (13, AV.int IntKind.i64 (3 : Int))]
              [AObj.cells [AV.int IntKind.i64 (0 : Int), AV.int IntKind.i64 (0 : Int), AV.int IntKind.i64 (0 : Int)],
                AObj.cells [AV.int IntKind.i64 x, AV.int IntKind.i64 y, AV.int IntKind.i64 (Int.tmod (IntKind.wrap IntKind.i64 (Int.tdiv p (1 : Int))) (1000 : Int))]]
              (q8_2 n Post))))) →
    AWP Tryd.prog 25 n c8_5
      [(0, AV.int IntKind.i64 p), (2, AV.ptr 0 0), (4, AV.ptr 1 0),
        (12, AV.agg [AV.int IntKind.i64 (1000000 : Int), AV.int IntKind.i64 (1000 : Int), AV.int IntKind.i64 (1 : Int)]), (13, AV.int IntKind.i64 (2 : Int))]
      [AObj.cells [AV.int IntKind.i64 (0 : Int), AV.int IntKind.i64 (0 : Int), AV.int IntKind.i64 (0 : Int)], AObj.cells [AV.int IntKind.i64 x, AV.int IntKind.i64 y, AV.int IntKind.i64 z]]
      (q8_2 n Post) := fun p x y z n Post h => Go.Ab.AWP.loop' g8 (Cfg.live g8) c8_5 (by kernel_rfl) (by kernel_rfl) (Go.Ab.kc (by kernel_rfl) h)
theorem v8_5d : ∀ (p x y z : Int) (n : Nat) (Post : AV → List AObj → Prop),
  Post (AV.tup [AV.agg [AV.int IntKind.i64 x, AV.int IntKind.i64 y, AV.int IntKind.i64 z], AV.bool true])
      [AObj.cells [AV.int IntKind.i64 x, AV.int IntKind.i64 y, AV.int IntKind.i64 z], AObj.cells [AV.int IntKind.i64 x, AV.int IntKind.i64 y, AV.int IntKind.i64 z]] →
    AWP Tryd.prog 25 n c8_5
      [(0, AV.int IntKind.i64 p), (2, AV.ptr 0 0), (4, AV.ptr 1 0),
        (12, AV.agg [AV.int IntKind.i64 (1000000 : Int), AV.int IntKind.i64 (1000 : Int), AV.int IntKind.i64 (1 : Int)]), (13, AV.int IntKind.i64 (3 : Int))]
      [AObj.cells [AV.int IntKind.i64 (0 : Int), AV.int IntKind.i64 (0 : Int), AV.int IntKind.i64 (0 : Int)], AObj.cells [AV.int IntKind.i64 x, AV.int IntKind.i64 y, AV.int IntKind.i64 z]]
      (q8_2 n Post) := fun p x y z n Post h => Go.Ab.AWP.loop' g8 (Cfg.live g8) c8_5 (by kernel_rfl) (by kernel_rfl) (Go.Ab.kc (by kernel_rfl) h)

-- 9
noncomputable def l9 : Nat → List Nat
  | _ => []
noncomputable def u9 : Nat → Bool
  | _ => false
noncomputable def m9 : Nat → Bool
  | _ => false
noncomputable def g9 : Cfg := { N := 16, live := l9, cut := u9, mu := m9, ret := rets }
noncomputable def c9 : Go.Code := Go.Ab.bodyOf Go.Proofs.Tryd.f9
theorem s9 : ∀ (p : Int) (Post : AV → List AObj → Prop),
  (ASpec Tryd.prog 19 [AV.int IntKind.i64 p] [AObj.cells [AV.int IntKind.i64 (0 : Int), AV.int IntKind.i64 (0 : Int), AV.int IntKind.i64 (0 : Int)]] fun (r : AV) (H' : List AObj) =>
      ∃ (x : Bool),
        r = AV.bool x ∧
          H' = [AObj.cells [AV.int IntKind.i64 (0 : Int), AV.int IntKind.i64 (0 : Int), AV.int IntKind.i64 (0 : Int)]] ∧
            condP (!x)
              (Post (AV.tup [AV.agg [AV.int IntKind.i64 (0 : Int), AV.int IntKind.i64 (0 : Int), AV.int IntKind.i64 (0 : Int)], AV.bool false])
                [AObj.cells [AV.int IntKind.i64 (0 : Int), AV.int IntKind.i64 (0 : Int), AV.int IntKind.i64 (0 : Int)]])
              (needP ((1000000 : Int) ≠ (0 : Int))
                (needP ((1000 : Int) ≠ (0 : Int))
                  (needP ((1000 : Int) ≠ (0 : Int))
                    (needP ((1000 : Int) ≠ (0 : Int))
                      (Post
                        (AV.tup
                          [AV.agg
                              [AV.int IntKind.i64 (IntKind.wrap IntKind.i64 (Int.tdiv p (1000000 : Int))),
                                AV.int IntKind.i64 (Int.tmod (IntKind.wrap IntKind.i64 (Int.tdiv p (1000 : Int))) (1000 : Int)), AV.int IntKind.i64 (Int.tmod p (1000 : Int))],
                            AV.bool true])
                        [AObj.cells
                            [AV.int IntKind.i64 (IntKind.wrap IntKind.i64 (Int.tdiv p (1000000 : Int))),
                              AV.int IntKind.i64 (Int.tmod (IntKind.wrap IntKind.i64 (Int.tdiv p (1000 : Int))) (1000 : Int)), AV.int IntKind.i64 (Int.tmod p (1000 : Int))]])))))) →
    ASpec Tryd.prog 9 [AV.int IntKind.i64 p] [] Post := fun p Post h => Go.Ab.ASpec.of_vc g9 Go.Proofs.Tryd.func9 (by kernel_rfl) (by kernel_rfl) (by kernel_rfl) (Go.Ab.kc (by kernel_rfl) h)

-- 10
noncomputable def l10 : Nat → List Nat
  | _ => []
noncomputable def u10 : Nat → Bool
  | _ => false
noncomputable def m10 : Nat → Bool
  | _ => false
noncomputable def g10 : Cfg := { N := 25, live := l10, cut := u10, mu := m10, ret := rets }
noncomputable def c10 : Go.Code := Go.Ab.bodyOf Go.Proofs.Tryd.f10
theorem s10 : ∀ (p : Int) (Post : AV → List AObj → Prop),
  (ASpec Tryd.prog 8 [AV.int IntKind.i64 p] [] fun (r : AV) (H' : List AObj) =>
      ∃ (x : (Int × Int × Int) × Bool),
        r =
            AV.tup
              [AV.agg [AV.int IntKind.i64 (Prod.fst (Prod.fst x)), AV.int IntKind.i64 (Prod.fst (Prod.snd (Prod.fst x))), AV.int IntKind.i64 (Prod.snd (Prod.snd (Prod.fst x)))],
                AV.bool (Prod.snd x)] ∧
          H' = [] ∧
            condP (!Prod.snd x)
              (Post (AV.str { data := #[] })
                [AObj.cells [AV.int IntKind.i64 (Prod.fst (Prod.fst x)), AV.int IntKind.i64 (Prod.fst (Prod.snd (Prod.fst x))), AV.int IntKind.i64 (Prod.snd (Prod.snd (Prod.fst x)))]])
              (needP ((0 : Int) ≤ (0 : Int) ∧ (0 : Int) < (3 : Int))
                (needP ((0 : Int) ≤ (1 : Int) ∧ (1 : Int) < (3 : Int))
                  (needP ((0 : Int) ≤ (2 : Int) ∧ (2 : Int) < (3 : Int))
                    (ASpec Tryd.prog 20 [AV.int IntKind.i64 (Prod.fst (Prod.fst x))]
                      [AObj.cells [AV.int IntKind.i64 (Prod.fst (Prod.fst x)), AV.int IntKind.i64 (Prod.fst (Prod.snd (Prod.fst x))), AV.int IntKind.i64 (Prod.snd (Prod.snd (Prod.fst x)))]]
                      fun (r : AV) (H' : List AObj) =>
                      ∃ (x_1 : ByteArray),
                        r = AV.str x_1 ∧
                          H' = [AObj.cells [AV.int IntKind.i64 (Prod.fst (Prod.fst x)), AV.int IntKind.i64 (Prod.fst (Prod.snd (Prod.fst x))), AV.int IntKind.i64 (Prod.snd (Prod.snd (Prod.fst x)))]] ∧
                            (AV.int IntKind.i64 (Prod.snd (Prod.snd (Prod.fst x))) = AV.int IntKind.i64 (Prod.snd (Prod.snd (Prod.fst x))) ∧
                                [AObj.cells
                                      [AV.int IntKind.i64 (Prod.fst (Prod.fst x)), AV.int IntKind.i64 (Prod.fst (Prod.snd (Prod.fst x))), AV.int IntKind.i64 (Prod.snd (Prod.snd (Prod.fst x)))]] =
                                  [AObj.cells
                                      [AV.int IntKind.i64 (Prod.fst (Prod.fst x)), AV.int IntKind.i64 (Prod.fst (Prod.snd (Prod.fst x))), AV.int IntKind.i64 (Prod.snd (Prod.snd (Prod.fst x)))]]) ∧
                              (AV.int IntKind.i64 (Prod.fst (Prod.snd (Prod.fst x))) = AV.int IntKind.i64 (Prod.fst (Prod.snd (Prod.fst x))) ∧
                                  [AObj.cells
                                        [AV.int IntKind.i64 (Prod.fst (Prod.fst x)), AV.int IntKind.i64 (Prod.fst (Prod.snd (Prod.fst x))), AV.int IntKind.i64 (Prod.snd (Prod.snd (Prod.fst x)))]] =
                                    [AObj.cells
                                        [AV.int IntKind.i64 (Prod.fst (Prod.fst x)), AV.int IntKind.i64 (Prod.fst (Prod.snd (Prod.fst x))), AV.int IntKind.i64 (Prod.snd (Prod.snd (Prod.fst x)))]]) ∧
                                needP ((↑(ByteArray.size x_1 + 1) : Int) ≤ (9223372036854775807 : Int))
                                  (ASpec Tryd.prog 20 [AV.int IntKind.i64 (Prod.fst (Prod.snd (Prod.fst x)))]
                                    [AObj.cells
                                        [AV.int IntKind.i64 (Prod.fst (Prod.fst x)), AV.int IntKind.i64 (Prod.fst (Prod.snd (Prod.fst x))), AV.int IntKind.i64 (Prod.snd (Prod.snd (Prod.fst x)))]]
                                    fun (r : AV) (H' : List AObj) =>
                                    ∃ (x_2 : ByteArray),
                                      r = AV.str x_2 ∧
                                        H' =
                                            [AObj.cells
                                                [AV.int IntKind.i64 (Prod.fst (Prod.fst x)), AV.int IntKind.i64 (Prod.fst (Prod.snd (Prod.fst x))),
                                                  AV.int IntKind.i64 (Prod.snd (Prod.snd (Prod.fst x)))]] ∧
                                          (AV.int IntKind.i64 (Prod.snd (Prod.snd (Prod.fst x))) = AV.int IntKind.i64 (Prod.snd (Prod.snd (Prod.fst x))) ∧
                                              [AObj.cells
                                                    [AV.int IntKind.i64 (Prod.fst (Prod.fst x)), AV.int IntKind.i64 (Prod.fst (Prod.snd (Prod.fst x))),
                                                      AV.int IntKind.i64 (Prod.snd (Prod.snd (Prod.fst x)))]] =
                                                [AObj.cells
                                                    [AV.int IntKind.i64 (Prod.fst (Prod.fst x)), AV.int IntKind.i64 (Prod.fst (Prod.snd (Prod.fst x))),
                                                      AV.int IntKind.i64 (Prod.snd (Prod.snd (Prod.fst x)))]]) ∧
                                            needP ((↑(ByteArray.size (x_1 ++ { data := #[(46 : UInt8)] }) + ByteArray.size x_2) : Int) ≤ (9223372036854775807 : Int))
                                              (needP ((↑(ByteArray.size (x_1 ++ { data := #[(46 : UInt8)] } ++ x_2) + 1) : Int) ≤ (9223372036854775807 : Int))
                                                (ASpec Tryd.prog 20 [AV.int IntKind.i64 (Prod.snd (Prod.snd (Prod.fst x)))]
                                                  [AObj.cells
                                                      [AV.int IntKind.i64 (Prod.fst (Prod.fst x)), AV.int IntKind.i64 (Prod.fst (Prod.snd (Prod.fst x))),
                                                        AV.int IntKind.i64 (Prod.snd (Prod.snd (Prod.fst x)))]]
                                                  fun (r : AV) (H' : List AObj) =>
                                                  ∃ (x_3 : ByteArray),
                                                    r = AV.str x_3 ∧
                                                      H' =
                                                          [AObj.cells
                                                              [AV.int IntKind.i64 (Prod.fst (Prod.fst x)), AV.int IntKind.i64 (Prod.fst (Prod.snd (Prod.fst x))),
                                                                AV.int IntKind.i64 (Prod.snd (Prod.snd (Prod.fst x)))]] ∧
                                                        needP
                                                          ((↑(ByteArray.size (x_1 ++ { data := #[(46 : UInt8)] } ++ x_2 ++ { data := #[(46 : UInt8)] }) + ByteArray.size x_3) : Int) ≤
                                                            (9223372036854775807 : Int))
                                                          (Post (AV.str (x_1 ++ { data := #[(46 : UInt8)] } ++ x_2 ++ { data := #[(46 : UInt8)] } ++ x_3))
                                                            [AObj.cells
                                                                [AV.int IntKind.i64 (Prod.fst (Prod.fst x)), AV.int IntKind.i64 (Prod.fst (Prod.snd (Prod.fst x))),
                                                                  AV.int IntKind.i64 (Prod.snd (Prod.snd (Prod.fst x)))]]))))))))) →
    ASpec Tryd.prog 10 [AV.int IntKind.i64 p] [] Post := fun p Post h => Go.Ab.ASpec.of_vc g10 Go.Proofs.Tryd.func10 (by kernel_rfl) (by kernel_rfl) (by kernel_rfl) (Go.Ab.kc (by kernel_rfl) h)

-- 11
noncomputable def l11 : Nat → List Nat
  | _ => []
noncomputable def u11 : Nat → Bool
  | _ => false
noncomputable def m11 : Nat → Bool
  | _ => false
noncomputable def g11 : Cfg := { N := 20, live := l11, cut := u11, mu := m11, ret := rets }
noncomputable def c11 : Go.Code := Go.Ab.bodyOf Go.Proofs.Tryd.f11
theorem s11 : ∀ (p : Int) (Post : AV → List AObj → Prop),
  (ASpec Tryd.prog 19 [AV.int IntKind.i64 p] [] fun (r : AV) (H' : List AObj) =>
      ∃ (x : Bool),
        r = AV.bool x ∧
          H' = [] ∧
            condP (!x) (Post (AV.str { data := #[] }) [])
              (needP ((1000000 : Int) ≠ (0 : Int))
                (ASpec Tryd.prog 21 [AV.int IntKind.i64 (IntKind.wrap IntKind.i64 (Int.tdiv p (1000000 : Int)))] [] fun (r : AV) (H' : List AObj) =>
                  ∃ (x : ByteArray),
                    r = AV.str x ∧
                      H' = [] ∧
                        needP ((↑(ByteArray.size x + 1) : Int) ≤ (9223372036854775807 : Int))
                          (needP ((1000 : Int) ≠ (0 : Int))
                            (needP ((1000 : Int) ≠ (0 : Int))
                              (ASpec Tryd.prog 21 [AV.int IntKind.i64 (Int.tmod (IntKind.wrap IntKind.i64 (Int.tdiv p (1000 : Int))) (1000 : Int))] [] fun (r : AV) (H' : List AObj) =>
                                ∃ (x_1 : ByteArray),
                                  r = AV.str x_1 ∧
                                    H' = [] ∧
                                      needP ((↑(ByteArray.size (x ++ { data := #[(46 : UInt8)] }) + ByteArray.size x_1) : Int) ≤ (9223372036854775807 : Int))
                                        (needP ((↑(ByteArray.size (x ++ { data := #[(46 : UInt8)] } ++ x_1) + 1) : Int) ≤ (9223372036854775807 : Int))
                                          (needP ((1000 : Int) ≠ (0 : Int))
                                            (ASpec Tryd.prog 21 [AV.int IntKind.i64 (Int.tmod p (1000 : Int))] [] fun (r : AV) (H' : List AObj) =>
                                              ∃ (x_2 : ByteArray),
                                                r = AV.str x_2 ∧
                                                  H' = [] ∧
                                                    needP
                                                      ((↑(ByteArray.size (x ++ { data := #[(46 : UInt8)] } ++ x_1 ++ { data := #[(46 : UInt8)] }) + ByteArray.size x_2) : Int) ≤
                                                        (9223372036854775807 : Int))
                                                      (Post (AV.str (x ++ { data := #[(46 : UInt8)] } ++ x_1 ++ { data := #[(46 : UInt8)] } ++ x_2)) [])))))))))) →
    ASpec Tryd.prog 11 [AV.int IntKind.i64 p] [] Post := fun p Post h => Go.Ab.ASpec.of_vc g11 Go.Proofs.Tryd.func11 (by kernel_rfl) (by kernel_rfl) (by kernel_rfl) (Go.Ab.kc (by kernel_rfl) h)

-- 12
noncomputable def l12 : Nat → List Nat
  | 3 => [0, 1]
  | _ => []
noncomputable def u12 : Nat → Bool
  | 3 => true
  | _ => false
noncomputable def m12 : Nat → Bool
  | _ => false
noncomputable def g12 : Cfg := { N := 26, live := l12, cut := u12, mu := m12, ret := rets }
noncomputable def c12 : Go.Code := Go.Ab.bodyOf Go.Proofs.Tryd.f12
noncomputable def q12_0 : Nat → (AV → List AObj → Prop) → AQ := fun (n : Nat) (Post : AV → List AObj → Prop) => endQ Tryd.prog (resultsOf Tryd.f12) Post
noncomputable def c12_3 : Go.Code := codeSnd (codeSnd c12)
theorem s12 : ∀ (p k : Int) (Post : AV → List AObj → Prop),
  (ASpec Tryd.prog 18 [AV.int IntKind.i64 p] [] fun (r : AV) (H' : List AObj) =>
      ∃ (x : Bool),
        r = AV.bool x ∧
          H' = [] ∧
            condP (!x) (Post (AV.int IntKind.i64 (0 : Int)) [])
              (condP (decide (k < (0 : Int))) (Post (AV.int IntKind.i64 (0 : Int)) [])
                (condP (decide (k > (2 : Int))) (Post (AV.int IntKind.i64 (0 : Int)) [])
                  (AWP Tryd.prog 26 0 c12_3 [(0, AV.int IntKind.i64 p), (1, AV.int IntKind.i64 k)] [] (q12_0 0 Post))))) →
    ASpec Tryd.prog 12 [AV.int IntKind.i64 p, AV.int IntKind.i64 k] [] Post := fun p k Post h => Go.Ab.ASpec.of_vc g12 Go.Proofs.Tryd.func12 (by kernel_rfl) (by kernel_rfl) (by kernel_rfl) (Go.Ab.kc (by kernel_rfl) h)
theorem v12_3a : ∀ (p : Int) (n : Nat) (Post : AV → List AObj → Prop),
  (ASpec Tryd.prog 17 [] [] fun (r : AV) (H' : List AObj) =>
      ∃ (x : Unit),
        r = AV.agg [AV.int IntKind.i64 (1000000 : Int), AV.int IntKind.i64 (1000 : Int), AV.int IntKind.i64 (1 : Int)] ∧
          H' = [] ∧
            needP ((0 : Int) ≤ (0 : Int) ∧ (0 : Int) < (3 : Int))
              (needP ((1000000 : Int) ≠ (0 : Int))
                (Post (AV.int IntKind.i64 (IntKind.wrap IntKind.i64 (IntKind.wrap IntKind.i64 (IntKind.wrap IntKind.i64 (Int.tdiv p (1000000 : Int)) + (1 : Int)) * (1000000 : Int)))) []))) →
    AWP Tryd.prog 26 n c12_3 [(0, AV.int IntKind.i64 p), (1, AV.int IntKind.i64 (0 : Int))] [] (q12_0 n Post) := fun p n Post h => Go.Ab.awp_sound g12 n _ _ _ _ (Go.Ab.kc (by kernel_rfl) h)
theorem v12_3b : ∀ (p : Int) (n : Nat) (Post : AV → List AObj → Prop),
  (ASpec Tryd.prog 17 [] [] fun (r : AV) (H' : List AObj) =>
      ∃ (x : Unit),
        r = AV.agg [AV.int IntKind.i64 (1000000 : Int), AV.int IntKind.i64 (1000 : Int), AV.int IntKind.i64 (1 : Int)] ∧
          H' = [] ∧
            needP ((0 : Int) ≤ (1 : Int) ∧ (1 : Int) < (3 : Int))
              (needP ((1000 : Int) ≠ (0 : Int))
                (Post (AV.int IntKind.i64 (IntKind.wrap IntKind.i64 (IntKind.wrap IntKind.i64 (IntKind.wrap IntKind.i64 (Int.tdiv p (1000 : Int)) + (1 : Int)) * (1000 : Int)))) []))) →
    AWP Tryd.prog 26 n c12_3 [(0, AV.int IntKind.i64 p), (1, AV.int IntKind.i64 (1 : Int))] [] (q12_0 n Post) := fun p n Post h => Go.Ab.awp_sound g12 n _ _ _ _ (Go.Ab.kc (by kernel_rfl) h)
theorem v12_3c : ∀ (p : Int) (n : Nat) (Post : AV → List AObj → Prop),
  (ASpec Tryd.prog 17 [] [] fun (r : AV) (H' : List AObj) =>
      ∃ (x : Unit),
        r = AV.agg [AV.int IntKind.i64 (1000000 : Int), AV.int IntKind.i64 (1000 : Int), AV.int IntKind.i64 (1 : Int)] ∧
          H' = [] ∧
            needP ((0 : Int) ≤ (2 : Int) ∧ (2 : Int) < (3 : Int))
              (needP ((1 : Int) ≠ (0 : Int))
                (Post (AV.int IntKind.i64 (IntKind.wrap IntKind.i64 (IntKind.wrap IntKind.i64 (IntKind.wrap IntKind.i64 (Int.tdiv p (1 : Int)) + (1 : Int)) * (1 : Int)))) []))) →
    AWP Tryd.prog 26 n c12_3 [(0, AV.int IntKind.i64 p), (1, AV.int IntKind.i64 (2 : Int))] [] (q12_0 n Post) := fun p n Post h => Go.Ab.awp_sound g12 n _ _ _ _ (Go.Ab.kc (by kernel_rfl) h)

-- 13
noncomputable def l13 : Nat → List Nat
  | 5 => [0, 5, 6]
  | _ => []
noncomputable def u13 : Nat → Bool
  | _ => false
noncomputable def m13 : Nat → Bool
  | _ => false
noncomputable def g13 : Cfg := { N := 31, live := l13, cut := u13, mu := m13, ret := rets }
noncomputable def c13 : Go.Code := Go.Ab.bodyOf Go.Proofs.Tryd.f13
noncomputable def q13_0 : Nat → (AV → List AObj → Prop) → AQ := fun (n : Nat) (Post : AV → List AObj → Prop) => endQ Tryd.prog (resultsOf Tryd.f13) Post
noncomputable def q13_1 : Nat → (AV → List AObj → Prop) → AQ := fun (n : Nat) (Post : AV → List AObj → Prop) => seqQ (fun (s' : Slots) (H' : List AObj) => awp Tryd.prog g13 n (codeSnd (codeSnd (codeSnd (codeSnd c13)))) s' H' (q13_0 n Post)) (q13_0 n Post)
noncomputable def q13_2 : Nat → (AV → List AObj → Prop) → AQ := fun (n : Nat) (Post : AV → List AObj → Prop) => blockQ 0 (q13_1 n Post)
noncomputable def c13_5 : Go.Code := codeFst (codeSnd (codeFst (codeSnd (codeSnd (codeSnd c13)))))
theorem s13 : ∀ (p k : Int) (Post : AV → List AObj → Prop),
  (ASpec Tryd.prog 19 [AV.int IntKind.i64 p] [] fun (r : AV) (H' : List AObj) =>
      ∃ (x : Bool),
        r = AV.bool x ∧
          H' = [] ∧
            condP (!x) (Post (AV.int IntKind.i64 (0 : Int)) [])
              (condP (decide (k < (0 : Int))) (Post (AV.int IntKind.i64 (0 : Int)) [])
                (condP (decide (k > (2 : Int))) (Post (AV.int IntKind.i64 (0 : Int)) [])
                  (AWP Tryd.prog 31 0 c13_5 [(0, AV.int IntKind.i64 p), (5, AV.int IntKind.i64 (1 : Int)), (6, AV.int IntKind.i64 k)] []
                    (q13_2 0 Post))))) →
    ASpec Tryd.prog 13 [AV.int IntKind.i64 p, AV.int IntKind.i64 k] [] Post := fun p k Post h => Go.Ab.ASpec.of_vc g13 Go.Proofs.Tryd.func13 (by kernel_rfl) (by kernel_rfl) (by kernel_rfl) (Go.Ab.kc (by kernel_rfl) h)
theorem v13_5 : ∀ (p w i : Int) (n : Nat) (Post : AV → List AObj → Prop),
  condP (decide (i < (2 : Int)))
      (AWP Tryd.prog 31 n c13_5
        [(0, AV.int IntKind.i64 p), (5, AV.int IntKind.i64 (IntKind.wrap IntKind.i64 (w * (1000 : Int)))), (6, AV.int IntKind.i64 (IntKind.wrap IntKind.i64 (i + (1 : Int))))]
        [] (q13_2 n Post))
      (needP (w ≠ (0 : Int)) (Post (AV.int IntKind.i64 (IntKind.wrap IntKind.i64 (IntKind.wrap IntKind.i64 (IntKind.wrap IntKind.i64 (Int.tdiv p w) + (1 : Int)) * w))) [])) →
    AWP Tryd.prog 31 n c13_5 [(0, AV.int IntKind.i64 p), (5, AV.int IntKind.i64 w), (6, AV.int IntKind.i64 i)] [] (q13_2 n Post) := fun p w i n Post h => Go.Ab.AWP.loop' g13 (Cfg.live g13) c13_5 (by kernel_rfl) (by kernel_rfl) (Go.Ab.kc (by kernel_rfl) h)

-- 21
noncomputable def l21 : Nat → List Nat
  | _ => []
noncomputable def u21 : Nat → Bool
  | _ => false
noncomputable def m21 : Nat → Bool
  | _ => false
noncomputable def g21 : Cfg := { N := 18, live := l21, cut := u21, mu := m21, ret := rets }
noncomputable def c21 : Go.Code := Go.Ab.bodyOf Go.Proofs.Tryd.f21
theorem s21 : ∀ (n : Int) (Post : AV → List AObj → Prop),
  needP ((10 : Int) ≠ (0 : Int))
      (needP (allBytes (Seq.raw [[AV.int IntKind.u8 (IntKind.wrap IntKind.u8 (IntKind.wrap IntKind.i64 ((48 : Int) + Int.tmod n (10 : Int))))]]))
        (condP (decide (n < (10 : Int))) (Post (AV.str (bytesOf (Seq.raw [[AV.int IntKind.u8 (IntKind.wrap IntKind.u8 (IntKind.wrap IntKind.i64 ((48 : Int) + Int.tmod n (10 : Int))))]]))) [])
          (needP ((10 : Int) ≠ (0 : Int))
            (ASpec Tryd.prog 21 [AV.int IntKind.i64 (IntKind.wrap IntKind.i64 (Int.tdiv n (10 : Int)))] [] fun (r : AV) (H' : List AObj) =>
              ∃ (x : ByteArray),
                r = AV.str x ∧
                  H' = [] ∧
                    needP
                      ((↑(ByteArray.size x + ByteArray.size (bytesOf (Seq.raw [[AV.int IntKind.u8 (IntKind.wrap IntKind.u8 (IntKind.wrap IntKind.i64 ((48 : Int) + Int.tmod n (10 : Int))))]]))) :
                          Int) ≤
                        (9223372036854775807 : Int))
                      (Post (AV.str (x ++ bytesOf (Seq.raw [[AV.int IntKind.u8 (IntKind.wrap IntKind.u8 (IntKind.wrap IntKind.i64 ((48 : Int) + Int.tmod n (10 : Int))))]]))) []))))) →
    ASpec Tryd.prog 21 [AV.int IntKind.i64 n] [] Post := fun n Post h => Go.Ab.ASpec.of_vc g21 Go.Proofs.Tryd.func21 (by kernel_rfl) (by kernel_rfl) (by kernel_rfl) (Go.Ab.kc (by kernel_rfl) h)

-- 15
noncomputable def l15 : Nat → List Nat
  | 4 => [4, 5, 6, 15]
  | 12 => [4, 5, 6]
  | _ => []
noncomputable def u15 : Nat → Bool
  | 12 => true
  | _ => false
noncomputable def m15 : Nat → Bool
  | _ => false
noncomputable def g15 : Cfg := { N := 88, live := l15, cut := u15, mu := m15, ret := rets }
noncomputable def c15 : Go.Code := Go.Ab.bodyOf Go.Proofs.Tryd.f15
noncomputable def q15_0 : Nat → (AV → List AObj → Prop) → AQ := fun (n : Nat) (Post : AV → List AObj → Prop) => endQ Tryd.prog (resultsOf Tryd.f15) Post
noncomputable def c15_12 : Go.Code := codeSnd (codeSnd (codeSnd (codeSnd c15)))
noncomputable def q15_1 : Nat → (AV → List AObj → Prop) → AQ := fun (n : Nat) (Post : AV → List AObj → Prop) => seqQ (fun (s' : Slots) (H' : List AObj) => AWP Tryd.prog (Cfg.N g15) n c15_12 (restrict s' (Cfg.live g15 12)) H' (q15_0 n Post)) (q15_0 n Post)
noncomputable def q15_2 : Nat → (AV → List AObj → Prop) → AQ := fun (n : Nat) (Post : AV → List AObj → Prop) => blockQ 0 (q15_1 n Post)
noncomputable def c15_4 : Go.Code := codeFst (codeSnd (codeFst (codeSnd (codeSnd (codeSnd c15)))))
theorem s15 : ∀ (s : ByteArray) (Post : AV → List AObj → Prop),
  AWP Tryd.prog 88 0 c15_4
      [(4, AV.ptr 0 0), (5, AV.int IntKind.i64 (0 : Int)), (6, AV.int IntKind.i64 (0 : Int)), (15, AV.ptr 1 0)]
      [AObj.cells [AV.int IntKind.i64 (0 : Int), AV.int IntKind.i64 (0 : Int), AV.int IntKind.i64 (0 : Int)], AObj.siter s 0] (q15_2 0 Post) →
    ASpec Tryd.prog 15 [AV.str s] [] Post := fun s Post h => Go.Ab.ASpec.of_vc g15 Go.Proofs.Tryd.func15 (by kernel_rfl) (by kernel_rfl) (by kernel_rfl) (Go.Ab.kc (by kernel_rfl) h)
theorem v15_4a : ∀ (x y z n : Int) (s : ByteArray) (pos n_1 : Nat) (Post : AV → List AObj → Prop),
  condP (decide (pos < ByteArray.size s))
      (condP ((↑(Prod.fst (Utf8.decode s pos)) : Int) == (46 : Int))
        (condP (decide (n > (0 : Int)))
          (AWP Tryd.prog 88 n_1 c15_4
            [(4, AV.ptr 0 0), (5, AV.int IntKind.i64 (1 : Int)), (6, AV.int IntKind.i64 (0 : Int)), (15, AV.ptr 1 0)]
            [AObj.cells [AV.int IntKind.i64 x, AV.int IntKind.i64 y, AV.int IntKind.i64 z], AObj.siter s (pos + Prod.snd (Utf8.decode s pos))] (q15_2 n_1 Post))
          (condP (decide ((↑(Prod.fst (Utf8.decode s pos)) : Int) < (48 : Int)))
            (Post (AV.tup [AV.int IntKind.i64 (0 : Int), AV.bool false])
              [AObj.cells [AV.int IntKind.i64 x, AV.int IntKind.i64 y, AV.int IntKind.i64 z], AObj.siter s (pos + Prod.snd (Utf8.decode s pos))])
            (condP (decide ((↑(Prod.fst (Utf8.decode s pos)) : Int) > (57 : Int)))
              (Post (AV.tup [AV.int IntKind.i64 (0 : Int), AV.bool false])
                [AObj.cells [AV.int IntKind.i64 x, AV.int IntKind.i64 y, AV.int IntKind.i64 z], AObj.siter s (pos + Prod.snd (Utf8.decode s pos))])
              (condP (n == (3 : Int))
                (Post (AV.tup [AV.int IntKind.i64 (0 : Int), AV.bool false])
                  [AObj.cells [AV.int IntKind.i64 x, AV.int IntKind.i64 y, AV.int IntKind.i64 z], AObj.siter s (pos + Prod.snd (Utf8.decode s pos))])
                (condP (decide (n > (0 : Int)))
                  (needP ((0 : Int) ≤ (0 : Int) ∧ (0 : Int) < (3 : Int))
                    (condP (x == (0 : Int))
                      (Post (AV.tup [AV.int IntKind.i64 (0 : Int), AV.bool false])
                        [AObj.cells [AV.int IntKind.i64 x, AV.int IntKind.i64 y, AV.int IntKind.i64 z], AObj.siter s (pos + Prod.snd (Utf8.decode s pos))])
                      (needP ((0 : Int) ≤ (0 : Int) ∧ (0 : Int) < (3 : Int))
                        (needP ((0 : Int) ≤ (0 : Int) ∧ (0 : Int) < (3 : Int))
                          (AWP Tryd.prog 88 n_1 c15_4
                            [(4, AV.ptr 0 0), (5, AV.int IntKind.i64 (0 : Int)), (6, AV.int IntKind.i64 (IntKind.wrap IntKind.i64 (n + (1 : Int)))),
                              (15, AV.ptr 1 0)]
                            [AObj.cells
                                [AV.int IntKind.i64
                                    (IntKind.wrap IntKind.i64
                                      (IntKind.wrap IntKind.i64 (x * (10 : Int)) + IntKind.wrap IntKind.i64 (IntKind.wrap IntKind.i32 ((↑(Prod.fst (Utf8.decode s pos)) : Int) - (48 : Int))))),
                                  AV.int IntKind.i64 y, AV.int IntKind.i64 z],
                              AObj.siter s (pos + Prod.snd (Utf8.decode s pos))]
                            (q15_2 n_1 Post))))))
                  (needP ((0 : Int) ≤ (0 : Int) ∧ (0 : Int) < (3 : Int))
                    (needP ((0 : Int) ≤ (0 : Int) ∧ (0 : Int) < (3 : Int))
                      (AWP Tryd.prog 88 n_1 c15_4
                        [(4, AV.ptr 0 0), (5, AV.int IntKind.i64 (0 : Int)), (6, AV.int IntKind.i64 (IntKind.wrap IntKind.i64 (n + (1 : Int)))),
                          (15, AV.ptr 1 0)]
                        [AObj.cells
                            [AV.int IntKind.i64
                                (IntKind.wrap IntKind.i64
                                  (IntKind.wrap IntKind.i64 (x * (10 : Int)) + IntKind.wrap IntKind.i64 (IntKind.wrap IntKind.i32 ((↑(Prod.fst (Utf8.decode s pos)) : Int) - (48 : Int))))),
                              AV.int IntKind.i64 y, AV.int IntKind.i64 z],
                          AObj.siter s (pos + Prod.snd (Utf8.decode s pos))]
                        (q15_2 n_1 Post)))))))))
        (condP (decide ((↑(Prod.fst (Utf8.decode s pos)) : Int) < (48 : Int)))
          (Post (AV.tup [AV.int IntKind.i64 (0 : Int), AV.bool false])
            [AObj.cells [AV.int IntKind.i64 x, AV.int IntKind.i64 y, AV.int IntKind.i64 z], AObj.siter s (pos + Prod.snd (Utf8.decode s pos))])
          (condP (decide ((↑(Prod.fst (Utf8.decode s pos)) : Int) > (57 : Int)))
            (Post (AV.tup [AV.int IntKind.i64 (0 : Int), AV.bool false])
              [AObj.cells [AV.int IntKind.i64 x, AV.int IntKind.i64 y, AV.int IntKind.i64 z], AObj.siter s (pos + Prod.snd (Utf8.decode s pos))])
            (condP (n == (3 : Int))
              (Post (AV.tup [AV.int IntKind.i64 (0 : Int), AV.bool false])
                [AObj.cells [AV.int IntKind.i64 x, AV.int IntKind.i64 y, AV.int IntKind.i64 z], AObj.siter s (pos + Prod.snd (Utf8.decode s pos))])
              (condP (decide (n > (0 : Int)))
                (needP ((0 : Int) ≤ (0 : Int) ∧ (0 : Int) < (3 : Int))
                  (condP (x == (0 : Int))
                    (Post (AV.tup [AV.int IntKind.i64 (0 : Int), AV.bool false])
                      [AObj.cells [AV.int IntKind.i64 x, AV.int IntKind.i64 y, AV.int IntKind.i64 z], AObj.siter s (pos + Prod.snd (Utf8.decode s pos))])
                    (needP ((0 : Int) ≤ (0 : Int) ∧ (0 : Int) < (3 : Int))
                      (needP ((0 : Int) ≤ (0 : Int) ∧ (0 : Int) < (3 : Int))
                        (AWP Tryd.prog 88 n_1 c15_4
                          [(4, AV.ptr 0 0), (5, AV.int IntKind.i64 (0 : Int)), (6, AV.int IntKind.i64 (IntKind.wrap IntKind.i64 (n + (1 : Int)))),
                            (15, AV.ptr 1 0)]
                          [AObj.cells
                              [AV.int IntKind.i64
                                  (IntKind.wrap IntKind.i64
                                    (IntKind.wrap IntKind.i64 (x * (10 : Int)) + IntKind.wrap IntKind.i64 (IntKind.wrap IntKind.i32 ((↑(Prod.fst (Utf8.decode s pos)) : Int) - (48 : Int))))),
                                AV.int IntKind.i64 y, AV.int IntKind.i64 z],
                            AObj.siter s (pos + Prod.snd (Utf8.decode s pos))]
                          (q15_2 n_1 Post))))))
                (needP ((0 : Int) ≤ (0 : Int) ∧ (0 : Int) < (3 : Int))
                  (needP ((0 : Int) ≤ (0 : Int) ∧ (0 : Int) < (3 : Int))
                    (AWP Tryd.prog 88 n_1 c15_4
                      [(4, AV.ptr 0 0), (5, AV.int IntKind.i64 (0 : Int)), (6, AV.int IntKind.i64 (IntKind.wrap IntKind.i64 (n + (1 : Int)))),
                        (15, AV.ptr 1 0)]
                      [AObj.cells
                          [AV.int IntKind.i64
                              (IntKind.wrap IntKind.i64
                                (IntKind.wrap IntKind.i64 (x * (10 : Int)) + IntKind.wrap IntKind.i64 (IntKind.wrap IntKind.i32 ((↑(Prod.fst (Utf8.decode s pos)) : Int) - (48 : Int))))),
                            AV.int IntKind.i64 y, AV.int IntKind.i64 z],
                        AObj.siter s (pos + Prod.snd (Utf8.decode s pos))]
                      (q15_2 n_1 Post)))))))))
      (AWP Tryd.prog 88 n_1 c15_12 [(4, AV.ptr 0 0), (5, AV.int IntKind.i64 (0 : Int)), (6, AV.int IntKind.i64 n)]
        [AObj.cells [AV.int IntKind.i64 x, AV.int IntKind.i64 y, AV.int IntKind.i64 z], AObj.siter s pos] (q15_0 n_1 Post)) →
    AWP Tryd.prog 88 n_1 c15_4 [(4, AV.ptr 0 0), (5, AV.int IntKind.i64 (0 : Int)), (6, AV.int IntKind.i64 n), (15, AV.ptr 1 0)]
      [AObj.cells [AV.int IntKind.i64 x, AV.int IntKind.i64 y, AV.int IntKind.i64 z], AObj.siter s pos] (q15_2 n_1 Post) := fun x y z n s pos n Post h => Go.Ab.AWP.loop' g15 (Cfg.live g15) c15_4 (by kernel_rfl) (by kernel_rfl) (Go.Ab.kc (by kernel_rfl) h)
theorem v15_4b : ∀ (x y z n : Int) (s : ByteArray) (pos n_1 : Nat) (Post : AV → List AObj → Prop),
  condP (decide (pos < ByteArray.size s))
      (condP ((↑(Prod.fst (Utf8.decode s pos)) : Int) == (46 : Int))
        (condP (decide (n > (0 : Int)))
          (AWP Tryd.prog 88 n_1 c15_4
            [(4, AV.ptr 0 0), (5, AV.int IntKind.i64 (2 : Int)), (6, AV.int IntKind.i64 (0 : Int)), (15, AV.ptr 1 0)]
            [AObj.cells [AV.int IntKind.i64 x, AV.int IntKind.i64 y, AV.int IntKind.i64 z], AObj.siter s (pos + Prod.snd (Utf8.decode s pos))] (q15_2 n_1 Post))
          (condP (decide ((↑(Prod.fst (Utf8.decode s pos)) : Int) < (48 : Int)))
            (Post (AV.tup [AV.int IntKind.i64 (0 : Int), AV.bool false])
              [AObj.cells [AV.int IntKind.i64 x, AV.int IntKind.i64 y, AV.int IntKind.i64 z], AObj.siter s (pos + Prod.snd (Utf8.decode s pos))])
            (condP (decide ((↑(Prod.fst (Utf8.decode s pos)) : Int) > (57 : Int)))
              (Post (AV.tup [AV.int IntKind.i64 (0 : Int), AV.bool false])
                [AObj.cells [AV.int IntKind.i64 x, AV.int IntKind.i64 y, AV.int IntKind.i64 z], AObj.siter s (pos + Prod.snd (Utf8.decode s pos))])
              (condP (n == (3 : Int))
                (Post (AV.tup [AV.int IntKind.i64 (0 : Int), AV.bool false])
                  [AObj.cells [AV.int IntKind.i64 x, AV.int IntKind.i64 y, AV.int IntKind.i64 z], AObj.siter s (pos + Prod.snd (Utf8.decode s pos))])
                (condP (decide (n > (0 : Int)))
                  (needP ((0 : Int) ≤ (1 : Int) ∧ (1 : Int) < (3 : Int))
                    (condP (y == (0 : Int))
                      (Post (AV.tup [AV.int IntKind.i64 (0 : Int), AV.bool false])
                        [AObj.cells [AV.int IntKind.i64 x, AV.int IntKind.i64 y, AV.int IntKind.i64 z], AObj.siter s (pos + Prod.snd (Utf8.decode s pos))])
                      (needP ((0 : Int) ≤ (1 : Int) ∧ (1 : Int) < (3 : Int))
                        (needP ((0 : Int) ≤ (1 : Int) ∧ (1 : Int) < (3 : Int))
                          (AWP Tryd.prog 88 n_1 c15_4
                            [(4, AV.ptr 0 0), (5, AV.int IntKind.i64 (1 : Int)), (6, AV.int IntKind.i64 (IntKind.wrap IntKind.i64 (n + (1 : Int)))),
                              (15, AV.ptr 1 0)]
                            [AObj.cells
                                [AV.int IntKind.i64 x,
                                  AV.int IntKind.i64
                                    (IntKind.wrap IntKind.i64
                                      (IntKind.wrap IntKind.i64 (y * (10 : Int)) + IntKind.wrap IntKind.i64 (IntKind.wrap IntKind.i32 ((↑(Prod.fst (Utf8.decode s pos)) : Int) - (48 : Int))))),
                                  AV.int IntKind.i64 z],
                              AObj.siter s (pos + Prod.snd (Utf8.decode s pos))]
                            (q15_2 n_1 Post))))))
                  (needP ((0 : Int) ≤ (1 : Int) ∧ (1 : Int) < (3 : Int))
                    (needP ((0 : Int) ≤ (1 : Int) ∧ (1 : Int) < (3 : Int))
                      (AWP Tryd.prog 88 n_1 c15_4
                        [(4, AV.ptr 0 0), (5, AV.int IntKind.i64 (1 : Int)), (6, AV.int IntKind.i64 (IntKind.wrap IntKind.i64 (n + (1 : Int)))),
                          (15, AV.ptr 1 0)]
                        [AObj.cells
                            [AV.int IntKind.i64 x,
                              AV.int IntKind.i64
                                (IntKind.wrap IntKind.i64
                                  (IntKind.wrap IntKind.i64 (y * (10 : Int)) + IntKind.wrap IntKind.i64 (IntKind.wrap IntKind.i32 ((↑(Prod.fst (Utf8.decode s pos)) : Int) - (48 : Int))))),
                              AV.int IntKind.i64 z],
                          AObj.siter s (pos + Prod.snd (Utf8.decode s pos))]
                        (q15_2 n_1 Post)))))))))
        (condP (decide ((↑(Prod.fst (Utf8.decode s pos)) : Int) < (48 : Int)))
          (Post (AV.tup [AV.int IntKind.i64 (0 : Int), AV.bool false])
            [AObj.cells [AV.int IntKind.i64 x, AV.int IntKind.i64 y, AV.int IntKind.i64 z], AObj.siter s (pos + Prod.snd (Utf8.decode s pos))])
          (condP (decide ((↑(Prod.fst (Utf8.decode s pos)) : Int) > (57 : Int)))
            (Post (AV.tup [AV.int IntKind.i64 (0 : Int), AV.bool false])
              [AObj.cells [AV.int IntKind.i64 x, AV.int IntKind.i64 y, AV.int IntKind.i64 z], AObj.siter s (pos + Prod.snd (Utf8.decode s pos))])
            (condP (n == (3 : Int))
              (Post (AV.tup [AV.int IntKind.i64 (0 : Int), AV.bool false])
                [AObj.cells [AV.int IntKind.i64 x, AV.int IntKind.i64 y, AV.int IntKind.i64 z], AObj.siter s (pos + Prod.snd (Utf8.decode s pos))])
              (condP (decide (n > (0 : Int)))
                (needP ((0 : Int) ≤ (1 : Int) ∧ (1 : Int) < (3 : Int))
                  (condP (y == (0 : Int))
                    (Post (AV.tup [AV.int IntKind.i64 (0 : Int), AV.bool false])
                      [AObj.cells [AV.int IntKind.i64 x, AV.int IntKind.i64 y, AV.int IntKind.i64 z], AObj.siter s (pos + Prod.snd (Utf8.decode s pos))])
                    (needP ((0 : Int) ≤ (1 : Int) ∧ (1 : Int) < (3 : Int))
                      (needP ((0 : Int) ≤ (1 : Int) ∧ (1 : Int) < (3 : Int))
                        (AWP Tryd.prog 88 n_1 c15_4
                          [(4, AV.ptr 0 0), (5, AV.int IntKind.i64 (1 : Int)), (6, AV.int IntKind.i64 (IntKind.wrap IntKind.i64 (n + (1 : Int)))),
                            (15, AV.ptr 1 0)]
                          [AObj.cells
                              [AV.int IntKind.i64 x,
                                AV.int IntKind.i64
                                  (IntKind.wrap IntKind.i64
                                    (IntKind.wrap IntKind.i64 (y * (10 : Int)) + IntKind.wrap IntKind.i64 (IntKind.wrap IntKind.i32 ((↑(Prod.fst (Utf8.decode s pos)) : Int) - (48 : Int))))),
                                AV.int IntKind.i64 z],
                            AObj.siter s (pos + Prod.snd (Utf8.decode s pos))]
                          (q15_2 n_1 Post))))))
                (needP ((0 : Int) ≤ (1 : Int) ∧ (1 : Int) < (3 : Int))
                  (needP ((0 : Int) ≤ (1 : Int) ∧ (1 : Int) < (3 : Int))
                    (AWP Tryd.prog 88 n_1 c15_4
                      [(4, AV.ptr 0 0), (5, AV.int IntKind.i64 (1 : Int)), (6, AV.int IntKind.i64 (IntKind.wrap IntKind.i64 (n + (1 : Int)))),
                        (15, AV.ptr 1 0)]
                      [AObj.cells
                          [AV.int IntKind.i64 x,
                            AV.int IntKind.i64
                              (IntKind.wrap IntKind.i64
                                (IntKind.wrap IntKind.i64 (y * (10 : Int)) + IntKind.wrap IntKind.i64 (IntKind.wrap IntKind.i32 ((↑(Prod.fst (Utf8.decode s pos)) : Int) - (48 : Int))))),
                            AV.int IntKind.i64 z],
                        AObj.siter s (pos + Prod.snd (Utf8.decode s pos))]
                      (q15_2 n_1 Post)))))))))
      (AWP Tryd.prog 88 n_1 c15_12 [(4, AV.ptr 0 0), (5, AV.int IntKind.i64 (1 : Int)), (6, AV.int IntKind.i64 n)]
        [AObj.cells [AV.int IntKind.i64 x, AV.int IntKind.i64 y, AV.int IntKind.i64 z], AObj.siter s pos] (q15_0 n_1 Post)) →
    AWP Tryd.prog 88 n_1 c15_4 [(4, AV.ptr 0 0), (5, AV.int IntKind.i64 (1 : Int)), (6, AV.int IntKind.i64 n), (15, AV.ptr 1 0)]
      [AObj.cells [AV.int IntKind.i64 x, AV.int IntKind.i64 y, AV.int IntKind.i64 z], AObj.siter s pos] (q15_2 n_1 Post) := fun x y z n s pos n Post h => Go.Ab.AWP.loop' g15 (Cfg.live g15) c15_4 (by kernel_rfl) (by kernel_rfl) (Go.Ab.kc (by kernel_rfl) h)
theorem v15_4c : ∀ (x y z n : Int) (s : ByteArray) (pos n_1 : Nat) (Post : AV → List AObj → Prop),
  condP (decide (pos < ByteArray.size s))
      (condP ((↑(Prod.fst (Utf8.decode s pos)) : Int) == (46 : Int))
        (condP (decide (n > (0 : Int)))
          (condP (decide ((↑(Prod.fst (Utf8.decode s pos)) : Int) < (48 : Int)))
            (Post (AV.tup [AV.int IntKind.i64 (0 : Int), AV.bool false])
              [AObj.cells [AV.int IntKind.i64 x, AV.int IntKind.i64 y, AV.int IntKind.i64 z], AObj.siter s (pos + Prod.snd (Utf8.decode s pos))])
            (condP (decide ((↑(Prod.fst (Utf8.decode s pos)) : Int) > (57 : Int)))
              (Post (AV.tup [AV.int IntKind.i64 (0 : Int), AV.bool false])
                [AObj.cells [AV.int IntKind.i64 x, AV.int IntKind.i64 y, AV.int IntKind.i64 z], AObj.siter s (pos + Prod.snd (Utf8.decode s pos))])
              (condP (n == (3 : Int))
                (Post (AV.tup [AV.int IntKind.i64 (0 : Int), AV.bool false])
                  [AObj.cells [AV.int IntKind.i64 x, AV.int IntKind.i64 y, AV.int IntKind.i64 z], AObj.siter s (pos + Prod.snd (Utf8.decode s pos))])
                (condP (decide (n > (0 : Int)))
                  (needP ((0 : Int) ≤ (2 : Int) ∧ (2 : Int) < (3 : Int))
                    (condP (z == (0 : Int))
                      (Post (AV.tup [AV.int IntKind.i64 (0 : Int), AV.bool false])
                        [AObj.cells [AV.int IntKind.i64 x, AV.int IntKind.i64 y, AV.int IntKind.i64 z], AObj.siter s (pos + Prod.snd (Utf8.decode s pos))])
                      (needP ((0 : Int) ≤ (2 : Int) ∧ (2 : Int) < (3 : Int))
                        (needP ((0 : Int) ≤ (2 : Int) ∧ (2 : Int) < (3 : Int))
                          (AWP Tryd.prog 88 n_1 c15_4
                            [(4, AV.ptr 0 0), (5, AV.int IntKind.i64 (2 : Int)), (6, AV.int IntKind.i64 (IntKind.wrap IntKind.i64 (n + (1 : Int)))),
                              (15, AV.ptr 1 0)]
                            [AObj.cells
                                [AV.int IntKind.i64 x, AV.int IntKind.i64 y,
                                  AV.int IntKind.i64
                                    (IntKind.wrap IntKind.i64
                                      (IntKind.wrap IntKind.i64 (z * (10 : Int)) + IntKind.wrap IntKind.i64 (IntKind.wrap IntKind.i32 ((↑(Prod.fst (Utf8.decode s pos)) : Int) - (48 : Int)))))],
                              AObj.siter s (pos + Prod.snd (Utf8.decode s pos))]
                            (q15_2 n_1 Post))))))
                  (needP ((0 : Int) ≤ (2 : Int) ∧ (2 : Int) < (3 : Int))
                    (needP ((0 : Int) ≤ (2 : Int) ∧ (2 : Int) < (3 : Int))
                      (AWP Tryd.prog 88 n_1 c15_4
                        [(4, AV.ptr 0 0), (5, AV.int IntKind.i64 (2 : Int)), (6, AV.int IntKind.i64 (IntKind.wrap IntKind.i64 (n + (1 : Int)))),
                          (15, AV.ptr 1 0)]
                        [AObj.cells
                            [AV.int IntKind.i64 x, AV.int IntKind.i64 y,
                              AV.int IntKind.i64
                                (IntKind.wrap IntKind.i64
                                  (IntKind.wrap IntKind.i64 (z * (10 : Int)) + IntKind.wrap IntKind.i64 (IntKind.wrap IntKind.i32 ((↑(Prod.fst (Utf8.decode s pos)) : Int) - (48 : Int)))))],
                          AObj.siter s (pos + Prod.snd (Utf8.decode s pos))]
                        (q15_2 n_1 Post))))))))
          (condP (decide ((↑(Prod.fst (Utf8.decode s pos)) : Int) < (48 : Int)))
            (Post (AV.tup [AV.int IntKind.i64 (0 : Int), AV.bool false])
              [AObj.cells [AV.int IntKind.i64 x, AV.int IntKind.i64 y, AV.int IntKind.i64 z], AObj.siter s (pos + Prod.snd (Utf8.decode s pos))])
            (condP (decide ((↑(Prod.fst (Utf8.decode s pos)) : Int) > (57 : Int)))
              (Post (AV.tup [AV.int IntKind.i64 (0 : Int), AV.bool false])
                [AObj.cells [AV.int IntKind.i64 x, AV.int IntKind.i64 y, AV.int IntKind.i64 z], AObj.siter s (pos + Prod.snd (Utf8.decode s pos))])
              (condP (n == (3 : Int))
                (Post (AV.tup [AV.int IntKind.i64 (0 : Int), AV.bool false])
                  [AObj.cells [AV.int IntKind.i64 x, AV.int IntKind.i64 y, AV.int IntKind.i64 z], AObj.siter s (pos + Prod.snd (Utf8.decode s pos))])
                (condP (decide (n > (0 : Int)))
                  (needP ((0 : Int) ≤ (2 : Int) ∧ (2 : Int) < (3 : Int))
                    (condP (z == (0 : Int))
                      (Post (AV.tup [AV.int IntKind.i64 (0 : Int), AV.bool false])
                        [AObj.cells [AV.int IntKind.i64 x, AV.int IntKind.i64 y, AV.int IntKind.i64 z], AObj.siter s (pos + Prod.snd (Utf8.decode s pos))])
                      (needP ((0 : Int) ≤ (2 : Int) ∧ (2 : Int) < (3 : Int))
                        (needP ((0 : Int) ≤ (2 : Int) ∧ (2 : Int) < (3 : Int))
                          (AWP Tryd.prog 88 n_1 c15_4
                            [(4, AV.ptr 0 0), (5, AV.int IntKind.i64 (2 : Int)), (6, AV.int IntKind.i64 (IntKind.wrap IntKind.i64 (n + (1 : Int)))),
                              (15, AV.ptr 1 0)]
                            [AObj.cells
                                [AV.int IntKind.i64 x, AV.int IntKind.i64 y,
                                  AV.int IntKind.i64
                                    (IntKind.wrap IntKind.i64
                                      (IntKind.wrap IntKind.i64 (z * (10 : Int)) + IntKind.wrap IntKind.i64 (IntKind.wrap IntKind.i32 ((↑(Prod.fst (Utf8.decode s pos)) : Int) - (48 : Int)))))],
                              AObj.siter s (pos + Prod.snd (Utf8.decode s pos))]
                            (q15_2 n_1 Post))))))
                  (needP ((0 : Int) ≤ (2 : Int) ∧ (2 : Int) < (3 : Int))
                    (needP ((0 : Int) ≤ (2 : Int) ∧ (2 : Int) < (3 : Int))
                      (AWP Tryd.prog 88 n_1 c15_4
                        [(4, AV.ptr 0 0), (5, AV.int IntKind.i64 (2 : Int)), (6, AV.int IntKind.i64 (IntKind.wrap IntKind.i64 (n + (1 : Int)))),
                          (15, AV.ptr 1 0)]
                        [AObj.cells
                            [AV.int IntKind.i64 x, AV.int IntKind.i64 y,
                              AV.int IntKind.i64
                                (IntKind.wrap IntKind.i64
                                  (IntKind.wrap IntKind.i64 (z * (10 : Int)) + IntKind.wrap IntKind.i64 (IntKind.wrap IntKind.i32 ((↑(Prod.fst (Utf8.decode s pos)) : Int) - (48 : Int)))))],
                          AObj.siter s (pos + Prod.snd (Utf8.decode s pos))]
                        (q15_2 n_1 Post)))))))))
        (condP (decide ((↑(Prod.fst (Utf8.decode s pos)) : Int) < (48 : Int)))
          (Post (AV.tup [AV.int IntKind.i64 (0 : Int), AV.bool false])
            [AObj.cells [AV.int IntKind.i64 x, AV.int IntKind.i64 y, AV.int IntKind.i64 z], AObj.siter s (pos + Prod.snd (Utf8.decode s pos))])
          (condP (decide ((↑(Prod.fst (Utf8.decode s pos)) : Int) > (57 : Int)))
            (Post (AV.tup [AV.int IntKind.i64 (0 : Int), AV.bool false])
              [AObj.cells [AV.int IntKind.i64 x, AV.int IntKind.i64 y, AV.int IntKind.i64 z], AObj.siter s (pos + Prod.snd (Utf8.decode s pos))])
            (condP (n == (3 : Int))
              (Post (AV.tup [AV.int IntKind.i64 (0 : Int), AV.bool false])
                [AObj.cells [AV.int IntKind.i64 x, AV.int IntKind.i64 y, AV.int IntKind.i64 z], AObj.siter s (pos + Prod.snd (Utf8.decode s pos))])
              (condP (decide (n > (0 : Int)))
                (needP ((0 : Int) ≤ (2 : Int) ∧ (2 : Int) < (3 : Int))
                  (condP (z == (0 : Int))
                    (Post (AV.tup [AV.int IntKind.i64 (0 : Int), AV.bool false])
                      [AObj.cells [AV.int IntKind.i64 x, AV.int IntKind.i64 y, AV.int IntKind.i64 z], AObj.siter s (pos + Prod.snd (Utf8.decode s pos))])
                    (needP ((0 : Int) ≤ (2 : Int) ∧ (2 : Int) < (3 : Int))
                      (needP ((0 : Int) ≤ (2 : Int) ∧ (2 : Int) < (3 : Int))
                        (AWP Tryd.prog 88 n_1 c15_4
                          [(4, AV.ptr 0 0), (5, AV.int IntKind.i64 (2 : Int)), (6, AV.int IntKind.i64 (IntKind.wrap IntKind.i64 (n + (1 : Int)))),
                            (15, AV.ptr 1 0)]
                          [AObj.cells
                              [AV.int IntKind.i64 x, AV.int IntKind.i64 y,
                                AV.int IntKind.i64
                                  (IntKind.wrap IntKind.i64
                                    (IntKind.wrap IntKind.i64 (z * (10 : Int)) + IntKind.wrap IntKind.i64 (IntKind.wrap IntKind.i32 ((↑(Prod.fst (Utf8.decode s pos)) : Int) - (48 : Int)))))],
                            AObj.siter s (pos + Prod.snd (Utf8.decode s pos))]
                          (q15_2 n_1 Post))))))
                (needP ((0 : Int) ≤ (2 : Int) ∧ (2 : Int) < (3 : Int))
                  (needP ((0 : Int) ≤ (2 : Int) ∧ (2 : Int) < (3 : Int))
                    (AWP Tryd.prog 88 n_1 c15_4
                      [(4, AV.ptr 0 0), (5, AV.int IntKind.i64 (2 : Int)), (6, AV.int IntKind.i64 (IntKind.wrap IntKind.i64 (n + (1 : Int)))),
                        (15, AV.ptr 1 0)]
                      [AObj.cells
                          [AV.int IntKind.i64 x, AV.int IntKind.i64 y,
                            AV.int IntKind.i64
                              (IntKind.wrap IntKind.i64
                                (IntKind.wrap IntKind.i64 (z * (10 : Int)) + IntKind.wrap IntKind.i64 (IntKind.wrap IntKind.i32 ((↑(Prod.fst (Utf8.decode s pos)) : Int) - (48 : Int)))))],
                        AObj.siter s (pos + Prod.snd (Utf8.decode s pos))]
                      (q15_2 n_1 Post)))))))))
      (AWP Tryd.prog 88 n_1 c15_12 [(4, AV.ptr 0 0), (5, AV.int IntKind.i64 (2 : Int)), (6, AV.int IntKind.i64 n)]
        [AObj.cells [AV.int IntKind.i64 x, AV.int IntKind.i64 y, AV.int IntKind.i64 z], AObj.siter s pos] (q15_0 n_1 Post)) →
    AWP Tryd.prog 88 n_1 c15_4 [(4, AV.ptr 0 0), (5, AV.int IntKind.i64 (2 : Int)), (6, AV.int IntKind.i64 n), (15, AV.ptr 1 0)]
      [AObj.cells [AV.int IntKind.i64 x, AV.int IntKind.i64 y, AV.int IntKind.i64 z], AObj.siter s pos] (q15_2 n_1 Post) := fun x y z n s pos n Post h => Go.Ab.AWP.loop' g15 (Cfg.live g15) c15_4 (by kernel_rfl) (by kernel_rfl) (Go.Ab.kc (by kernel_rfl) h)
theorem v15_12 : ∀ (x y z k n : Int) (s : ByteArray) (pos n_1 : Nat) (Post : AV → List AObj → Prop),
  condP (k != (2 : Int)) (Post (AV.tup [AV.int IntKind.i64 (0 : Int), AV.bool false]) [AObj.cells [AV.int IntKind.i64 x, AV.int IntKind.i64 y, AV.int IntKind.i64 z], AObj.siter s pos])
      (condP (n == (0 : Int)) (Post (AV.tup [AV.int IntKind.i64 (0 : Int), AV.bool false]) [AObj.cells [AV.int IntKind.i64 x, AV.int IntKind.i64 y, AV.int IntKind.i64 z], AObj.siter s pos])
        (ASpec Tryd.prog 6 [AV.agg [AV.int IntKind.i64 x, AV.int IntKind.i64 y, AV.int IntKind.i64 z]]
          [AObj.cells [AV.int IntKind.i64 x, AV.int IntKind.i64 y, AV.int IntKind.i64 z], AObj.siter s pos] fun (r : AV) (H' : List AObj) =>
          ∃ (x_1 : Int × Bool),
            r = AV.tup [AV.int IntKind.i64 (Prod.fst x_1), AV.bool (Prod.snd x_1)] ∧
              H' = [AObj.cells [AV.int IntKind.i64 x, AV.int IntKind.i64 y, AV.int IntKind.i64 z], AObj.siter s pos] ∧
                ASpec Tryd.prog 8 [AV.int IntKind.i64 (Prod.fst x_1)] [AObj.cells [AV.int IntKind.i64 x, AV.int IntKind.i64 y, AV.int IntKind.i64 z], AObj.siter s pos]
                  fun (r : AV) (H' : List AObj) =>
                  ∃ (x_2 : (Int × Int × Int) × Bool),
                    r =
                        AV.tup
                          [AV.agg [AV.int IntKind.i64 (Prod.fst (Prod.fst x_2)), AV.int IntKind.i64 (Prod.fst (Prod.snd (Prod.fst x_2))), AV.int IntKind.i64 (Prod.snd (Prod.snd (Prod.fst x_2)))],
                            AV.bool (Prod.snd x_2)] ∧
                      H' = [AObj.cells [AV.int IntKind.i64 x, AV.int IntKind.i64 y, AV.int IntKind.i64 z], AObj.siter s pos] ∧
                        condP (Prod.snd x_1)
                          ((AV.agg [AV.int IntKind.i64 x, AV.int IntKind.i64 y, AV.int IntKind.i64 z] = AV.agg [AV.int IntKind.i64 x, AV.int IntKind.i64 y, AV.int IntKind.i64 z] ∧
                              [AObj.cells [AV.int IntKind.i64 x, AV.int IntKind.i64 y, AV.int IntKind.i64 z], AObj.siter s pos,
                                  AObj.cells
                                    [AV.int IntKind.i64 (Prod.fst (Prod.fst x_2)), AV.int IntKind.i64 (Prod.fst (Prod.snd (Prod.fst x_2))), AV.int IntKind.i64 (Prod.snd (Prod.snd (Prod.fst x_2)))]] =
                                [AObj.cells [AV.int IntKind.i64 x, AV.int IntKind.i64 y, AV.int IntKind.i64 z], AObj.siter s pos,
                                  AObj.cells
                                    [AV.int IntKind.i64 (Prod.fst (Prod.fst x_2)), AV.int IntKind.i64 (Prod.fst (Prod.snd (Prod.fst x_2))), AV.int IntKind.i64 (Prod.snd (Prod.snd (Prod.fst x_2)))]]) ∧
                            (AV.agg [AV.int IntKind.i64 (Prod.fst (Prod.fst x_2)), AV.int IntKind.i64 (Prod.fst (Prod.snd (Prod.fst x_2))), AV.int IntKind.i64 (Prod.snd (Prod.snd (Prod.fst x_2)))] =
                                  AV.agg
                                    [AV.int IntKind.i64 (Prod.fst (Prod.fst x_2)), AV.int IntKind.i64 (Prod.fst (Prod.snd (Prod.fst x_2))), AV.int IntKind.i64 (Prod.snd (Prod.snd (Prod.fst x_2)))] ∧
                                [AObj.cells [AV.int IntKind.i64 x, AV.int IntKind.i64 y, AV.int IntKind.i64 z], AObj.siter s pos,
                                    AObj.cells
                                      [AV.int IntKind.i64 (Prod.fst (Prod.fst x_2)), AV.int IntKind.i64 (Prod.fst (Prod.snd (Prod.fst x_2))),
                                        AV.int IntKind.i64 (Prod.snd (Prod.snd (Prod.fst x_2)))]] =
                                  [AObj.cells [AV.int IntKind.i64 x, AV.int IntKind.i64 y, AV.int IntKind.i64 z], AObj.siter s pos,
                                    AObj.cells
                                      [AV.int IntKind.i64 (Prod.fst (Prod.fst x_2)), AV.int IntKind.i64 (Prod.fst (Prod.snd (Prod.fst x_2))),
                                        AV.int IntKind.i64 (Prod.snd (Prod.snd (Prod.fst x_2)))]]) ∧
                              Post
                                (AV.tup
                                  [AV.int IntKind.i64 (Prod.fst x_1), AV.bool (Prod.fst (Prod.fst x_2) == x && (Prod.fst (Prod.snd (Prod.fst x_2)) == y && Prod.snd (Prod.snd (Prod.fst x_2)) == z))])
                                [AObj.cells [AV.int IntKind.i64 x, AV.int IntKind.i64 y, AV.int IntKind.i64 z], AObj.siter s pos,
                                  AObj.cells
                                    [AV.int IntKind.i64 (Prod.fst (Prod.fst x_2)), AV.int IntKind.i64 (Prod.fst (Prod.snd (Prod.fst x_2))), AV.int IntKind.i64 (Prod.snd (Prod.snd (Prod.fst x_2)))]])
                          (AV.tup [] = AV.tup [] ∧
                            AV.tup [] = AV.tup [] ∧
                              Post (AV.tup [AV.int IntKind.i64 (Prod.fst x_1), AV.bool false])
                                [AObj.cells [AV.int IntKind.i64 x, AV.int IntKind.i64 y, AV.int IntKind.i64 z], AObj.siter s pos,
                                  AObj.cells
                                    [AV.int IntKind.i64 (Prod.fst (Prod.fst x_2)), AV.int IntKind.i64 (Prod.fst (Prod.snd (Prod.fst x_2))),
                                      AV.int IntKind.i64 (Prod.snd (Prod.snd (Prod.fst x_2)))]]))) →
    AWP Tryd.prog 88 n_1 c15_12 [(4, AV.ptr 0 0), (5, AV.int IntKind.i64 k), (6, AV.int IntKind.i64 n)]
      [AObj.cells [AV.int IntKind.i64 x, AV.int IntKind.i64 y, AV.int IntKind.i64 z], AObj.siter s pos] (q15_0 n_1 Post) := fun x y z k n s pos n Post h => Go.Ab.awp_sound g15 n _ _ _ _ (Go.Ab.kc (by kernel_rfl) h)

-- 16
noncomputable def l16 : Nat → List Nat
  | 5 => [0, 4, 5, 6]
  | _ => []
noncomputable def u16 : Nat → Bool
  | _ => false
noncomputable def m16 : Nat → Bool
  | _ => false
noncomputable def g16 : Cfg := { N := 45, live := l16, cut := u16, mu := m16, ret := rets }
noncomputable def c16 : Go.Code := Go.Ab.bodyOf Go.Proofs.Tryd.f16
noncomputable def q16_0 : Nat → (AV → List AObj → Prop) → AQ := fun (n : Nat) (Post : AV → List AObj → Prop) => endQ Tryd.prog (resultsOf Tryd.f16) Post
noncomputable def q16_1 : Nat → (AV → List AObj → Prop) → AQ := fun (n : Nat) (Post : AV → List AObj → Prop) => seqQ (fun (s' : Slots) (H' : List AObj) => awp Tryd.prog g16 n (codeSnd (codeSnd (codeSnd (codeSnd c16)))) s' H' (q16_0 n Post)) (q16_0 n Post)
noncomputable def q16_2 : Nat → (AV → List AObj → Prop) → AQ := fun (n : Nat) (Post : AV → List AObj → Prop) => blockQ 0 (q16_1 n Post)
noncomputable def c16_5 : Go.Code := codeFst (codeSnd (codeFst (codeSnd (codeSnd (codeSnd c16)))))
theorem s16 : ∀ (s : ByteArray) (Post : AV → List AObj → Prop),
  condP (decide ((↑(ByteArray.size s) : Int) > (11 : Int))) (Post (AV.tup [AV.int IntKind.i64 (0 : Int), AV.bool false]) [])
      (AWP Tryd.prog 45 0 c16_5 [(0, AV.str s), (4, AV.int IntKind.i64 (0 : Int)), (5, AV.int IntKind.i64 (0 : Int)), (6, AV.int IntKind.i64 (0 : Int))]
        [] (q16_2 0 Post)) →
    ASpec Tryd.prog 16 [AV.str s] [] Post := fun s Post h => Go.Ab.ASpec.of_vc g16 Go.Proofs.Tryd.func16 (by kernel_rfl) (by kernel_rfl) (by kernel_rfl) (Go.Ab.kc (by kernel_rfl) h)
theorem v16_5 : ∀ (s : ByteArray) (p n i : Int) (n_1 : Nat) (Post : AV → List AObj → Prop),
  condP (decide (i < (↑(ByteArray.size s) : Int)))
      (needP ((0 : Int) ≤ i ∧ i < (↑(ByteArray.size s) : Int))
        (condP ((↑(UInt8.toNat (List.getD (Array.toList (ByteArray.data s)) (Int.toNat i) (0 : UInt8))) : Int) == (46 : Int))
          (AWP Tryd.prog 45 n_1 c16_5
            [(0, AV.str s), (4, AV.int IntKind.i64 (IntKind.wrap IntKind.i64 (IntKind.wrap IntKind.i64 (p + n) * (1000 : Int)))), (5, AV.int IntKind.i64 (0 : Int)),
              (6, AV.int IntKind.i64 (IntKind.wrap IntKind.i64 (i + (1 : Int))))]
            [] (q16_2 n_1 Post))
          (needP ((0 : Int) ≤ i ∧ i < (↑(ByteArray.size s) : Int))
            (needP ((48 : Int) ≠ (0 : Int))
              (needP ((10 : Int) ≠ (0 : Int))
                (AWP Tryd.prog 45 n_1 c16_5
                  [(0, AV.str s), (4, AV.int IntKind.i64 p),
                    (5,
                      AV.int IntKind.i64
                        (IntKind.wrap IntKind.i64
                          (IntKind.wrap IntKind.i64 (n * (10 : Int)) +
                            Int.tmod (Int.tmod (IntKind.wrap IntKind.i64 (↑(UInt8.toNat (List.getD (Array.toList (ByteArray.data s)) (Int.toNat i) (0 : UInt8))) : Int)) (48 : Int)) (10 : Int)))),
                    (6, AV.int IntKind.i64 (IntKind.wrap IntKind.i64 (i + (1 : Int))))]
                  [] (q16_2 n_1 Post)))))))
      (condP (ByteArray.toList s == ByteArray.toList { data := #[] }) (Post (AV.tup [AV.int IntKind.i64 (0 : Int), AV.bool false]) [])
        (ASpec Tryd.prog 11 [AV.int IntKind.i64 (IntKind.wrap IntKind.i64 (p + n))] [] fun (r : AV) (H' : List AObj) =>
          ∃ (x : ByteArray),
            r = AV.str x ∧
              H' = [] ∧
                condP (!ByteArray.toList x == ByteArray.toList s) (Post (AV.tup [AV.int IntKind.i64 (0 : Int), AV.bool false]) [])
                  (Post (AV.tup [AV.int IntKind.i64 (IntKind.wrap IntKind.i64 (p + n)), AV.bool true]) []))) →
    AWP Tryd.prog 45 n_1 c16_5 [(0, AV.str s), (4, AV.int IntKind.i64 p), (5, AV.int IntKind.i64 n), (6, AV.int IntKind.i64 i)] [] (q16_2 n_1 Post) := fun s p n i n Post h => Go.Ab.AWP.loop' g16 (Cfg.live g16) c16_5 (by kernel_rfl) (by kernel_rfl) (Go.Ab.kc (by kernel_rfl) h)

-- 14
noncomputable def l14 : Nat → List Nat
  | _ => []
noncomputable def u14 : Nat → Bool
  | _ => false
noncomputable def m14 : Nat → Bool
  | _ => false
noncomputable def g14 : Cfg := { N := 33, live := l14, cut := u14, mu := m14, ret := rets }
noncomputable def c14 : Go.Code := Go.Ab.bodyOf Go.Proofs.Tryd.f14
theorem s14 : ∀ (Post : AV → List AObj → Prop),
  (ASpec Tryd.prog 6 [AV.agg [AV.int IntKind.i64 (1 : Int), AV.int IntKind.i64 (2 : Int), AV.int IntKind.i64 (3 : Int)]] [] fun (r : AV) (H' : List AObj) =>
      ∃ (x : Int × Bool),
        r = AV.tup [AV.int IntKind.i64 (Prod.fst x), AV.bool (Prod.snd x)] ∧
          H' = [] ∧
            ASpec Tryd.prog 15 [AV.str { data := #[(48 : UInt8), (49 : UInt8), (46 : UInt8), (50 : UInt8), (46 : UInt8), (51 : UInt8)] }] [] fun (r : AV) (H' : List AObj) =>
              ∃ (x_1 : Int × Bool),
                r = AV.tup [AV.int IntKind.i64 (Prod.fst x_1), AV.bool (Prod.snd x_1)] ∧
                  H' = [] ∧
                    condP (Prod.fst x == (1002003 : Int))
                      (condP (Prod.snd x)
                        (ASpec Tryd.prog 10 [AV.int IntKind.i64 (Prod.fst x)] [] fun (r : AV) (H' : List AObj) =>
                          ∃ (x_2 : ByteArray),
                            r = AV.str x_2 ∧
                              H' = [] ∧
                                condP (ByteArray.toList x_2 == ByteArray.toList { data := #[(49 : UInt8), (46 : UInt8), (50 : UInt8), (46 : UInt8), (51 : UInt8)] })
                                  (ASpec Tryd.prog 12 [AV.int IntKind.i64 (Prod.fst x), AV.int IntKind.i64 (1 : Int)] [] fun (r : AV) (H' : List AObj) =>
                                    ∃ (x : Int), r = AV.int IntKind.i64 x ∧ H' = [] ∧ condP (x == (1003000 : Int)) (Post (AV.bool !Prod.snd x_1) []) (Post (AV.bool false) []))
                                  (Post (AV.bool false) []))
                        (Post (AV.bool false) []))
                      (Post (AV.bool false) [])) →
    ASpec Tryd.prog 14 [] [] Post := fun Post h => Go.Ab.ASpec.of_vc g14 Go.Proofs.Tryd.func14 (by kernel_rfl) (by kernel_rfl) (by kernel_rfl) (Go.Ab.kc (by kernel_rfl) h)

-- 4
noncomputable def l4 : Nat → List Nat
  | _ => []
noncomputable def u4 : Nat → Bool
  | _ => false
noncomputable def m4 : Nat → Bool
  | _ => false
noncomputable def g4 : Cfg := { N := 38, live := l4, cut := u4, mu := m4, ret := rets }
noncomputable def c4 : Go.Code := Go.Ab.bodyOf Go.Proofs.Tryd.f4
theorem s4 : ∀ (s : ByteArray) (Post : AV → List AObj → Prop),
  (ASpec Tryd.prog 15 [AV.str s] [] fun (r : AV) (H' : List AObj) =>
      ∃ (x : Int × Bool),
        r = AV.tup [AV.int IntKind.i64 (Prod.fst x), AV.bool (Prod.snd x)] ∧
          H' = [] ∧
            ASpec Tryd.prog 16 [AV.str s] [] fun (r : AV) (H' : List AObj) =>
              ∃ (x_1 : Int × Bool),
                r = AV.tup [AV.int IntKind.i64 (Prod.fst x_1), AV.bool (Prod.snd x_1)] ∧
                  H' = [] ∧
                    condP (Prod.fst x == Prod.fst x_1)
                      (condP (Prod.snd x == Prod.snd x_1)
                        (condP (!Prod.snd x) (ASpec Tryd.prog 14 [] [] fun (r : AV) (H' : List AObj) => ∃ (x : Bool), r = AV.bool x ∧ H' = [] ∧ Post (AV.bool x) [])
                          (ASpec Tryd.prog 10 [AV.int IntKind.i64 (Prod.fst x)] [] fun (r : AV) (H' : List AObj) =>
                            ∃ (x : ByteArray),
                              r = AV.str x ∧
                                H' = [] ∧
                                  condP (ByteArray.toList x == ByteArray.toList s)
                                    (ASpec Tryd.prog 14 [] [] fun (r : AV) (H' : List AObj) => ∃ (x : Bool), r = AV.bool x ∧ H' = [] ∧ Post (AV.bool x) []) (Post (AV.bool false) [])))
                        (Post (AV.bool false) []))
                      (Post (AV.bool false) [])) →
    ASpec Tryd.prog 4 [AV.str s] [] Post := fun s Post h => Go.Ab.ASpec.of_vc g4 Go.Proofs.Tryd.func4 (by kernel_rfl) (by kernel_rfl) (by kernel_rfl) (Go.Ab.kc (by kernel_rfl) h)

-- 3
noncomputable def l3 : Nat → List Nat
  | _ => []
noncomputable def u3 : Nat → Bool
  | _ => false
noncomputable def m3 : Nat → Bool
  | _ => false
noncomputable def g3 : Cfg := { N := 72, live := l3, cut := u3, mu := m3, ret := rets }
noncomputable def c3 : Go.Code := Go.Ab.bodyOf Go.Proofs.Tryd.f3
theorem s3 : ∀ (a b c p k : Int) (Post : AV → List AObj → Prop),
  (ASpec Tryd.prog 6 [AV.agg [AV.int IntKind.i64 a, AV.int IntKind.i64 b, AV.int IntKind.i64 c]] [AObj.cells [AV.int IntKind.i64 a, AV.int IntKind.i64 b, AV.int IntKind.i64 c]]
      fun (r : AV) (H' : List AObj) =>
      ∃ (x : Int × Bool),
        r = AV.tup [AV.int IntKind.i64 (Prod.fst x), AV.bool (Prod.snd x)] ∧
          H' = [AObj.cells [AV.int IntKind.i64 a, AV.int IntKind.i64 b, AV.int IntKind.i64 c]] ∧
            ASpec Tryd.prog 7 [AV.agg [AV.int IntKind.i64 a, AV.int IntKind.i64 b, AV.int IntKind.i64 c]] [AObj.cells [AV.int IntKind.i64 a, AV.int IntKind.i64 b, AV.int IntKind.i64 c]]
              fun (r : AV) (H' : List AObj) =>
              ∃ (x_1 : Int × Bool),
                r = AV.tup [AV.int IntKind.i64 (Prod.fst x_1), AV.bool (Prod.snd x_1)] ∧
                  H' = [AObj.cells [AV.int IntKind.i64 a, AV.int IntKind.i64 b, AV.int IntKind.i64 c]] ∧
                    ASpec Tryd.prog 8 [AV.int IntKind.i64 p] [AObj.cells [AV.int IntKind.i64 a, AV.int IntKind.i64 b, AV.int IntKind.i64 c]] fun (r : AV) (H' : List AObj) =>
                      ∃ (x_2 : (Int × Int × Int) × Bool),
                        r =
                            AV.tup
                              [AV.agg [AV.int IntKind.i64 (Prod.fst (Prod.fst x_2)), AV.int IntKind.i64 (Prod.fst (Prod.snd (Prod.fst x_2))), AV.int IntKind.i64 (Prod.snd (Prod.snd (Prod.fst x_2)))],
                                AV.bool (Prod.snd x_2)] ∧
                          H' = [AObj.cells [AV.int IntKind.i64 a, AV.int IntKind.i64 b, AV.int IntKind.i64 c]] ∧
                            ASpec Tryd.prog 9 [AV.int IntKind.i64 p]
                              [AObj.cells [AV.int IntKind.i64 a, AV.int IntKind.i64 b, AV.int IntKind.i64 c],
                                AObj.cells
                                  [AV.int IntKind.i64 (Prod.fst (Prod.fst x_2)), AV.int IntKind.i64 (Prod.fst (Prod.snd (Prod.fst x_2))), AV.int IntKind.i64 (Prod.snd (Prod.snd (Prod.fst x_2)))]]
                              fun (r : AV) (H' : List AObj) =>
                              ∃ (x_3 : (Int × Int × Int) × Bool),
                                r =
                                    AV.tup
                                      [AV.agg
                                          [AV.int IntKind.i64 (Prod.fst (Prod.fst x_3)), AV.int IntKind.i64 (Prod.fst (Prod.snd (Prod.fst x_3))),
                                            AV.int IntKind.i64 (Prod.snd (Prod.snd (Prod.fst x_3)))],
                                        AV.bool (Prod.snd x_3)] ∧
                                  H' =
                                      [AObj.cells [AV.int IntKind.i64 a, AV.int IntKind.i64 b, AV.int IntKind.i64 c],
                                        AObj.cells
                                          [AV.int IntKind.i64 (Prod.fst (Prod.fst x_2)), AV.int IntKind.i64 (Prod.fst (Prod.snd (Prod.fst x_2))),
                                            AV.int IntKind.i64 (Prod.snd (Prod.snd (Prod.fst x_2)))]] ∧
                                    condP (Prod.fst x == Prod.fst x_1)
                                      (condP (Prod.snd x == Prod.snd x_1)
                                        (condP
                                          (Prod.fst (Prod.fst x_2) == Prod.fst (Prod.fst x_3) &&
                                            (Prod.fst (Prod.snd (Prod.fst x_2)) == Prod.fst (Prod.snd (Prod.fst x_3)) && Prod.snd (Prod.snd (Prod.fst x_2)) == Prod.snd (Prod.snd (Prod.fst x_3))))
                                          (condP (Prod.snd x_2 == Prod.snd x_3)
                                            (ASpec Tryd.prog 10 [AV.int IntKind.i64 p]
                                              [AObj.cells [AV.int IntKind.i64 a, AV.int IntKind.i64 b, AV.int IntKind.i64 c],
                                                AObj.cells
                                                  [AV.int IntKind.i64 (Prod.fst (Prod.fst x_2)), AV.int IntKind.i64 (Prod.fst (Prod.snd (Prod.fst x_2))),
                                                    AV.int IntKind.i64 (Prod.snd (Prod.snd (Prod.fst x_2)))],
                                                AObj.cells
                                                  [AV.int IntKind.i64 (Prod.fst (Prod.fst x_3)), AV.int IntKind.i64 (Prod.fst (Prod.snd (Prod.fst x_3))),
                                                    AV.int IntKind.i64 (Prod.snd (Prod.snd (Prod.fst x_3)))]]
                                              fun (r : AV) (H' : List AObj) =>
                                              ∃ (x : ByteArray),
                                                r = AV.str x ∧
                                                  H' =
                                                      [AObj.cells [AV.int IntKind.i64 a, AV.int IntKind.i64 b, AV.int IntKind.i64 c],
                                                        AObj.cells
                                                          [AV.int IntKind.i64 (Prod.fst (Prod.fst x_2)), AV.int IntKind.i64 (Prod.fst (Prod.snd (Prod.fst x_2))),
                                                            AV.int IntKind.i64 (Prod.snd (Prod.snd (Prod.fst x_2)))],
                                                        AObj.cells
                                                          [AV.int IntKind.i64 (Prod.fst (Prod.fst x_3)), AV.int IntKind.i64 (Prod.fst (Prod.snd (Prod.fst x_3))),
                                                            AV.int IntKind.i64 (Prod.snd (Prod.snd (Prod.fst x_3)))]] ∧
                                                    ASpec Tryd.prog 11 [AV.int IntKind.i64 p]
                                                      [AObj.cells [AV.int IntKind.i64 a, AV.int IntKind.i64 b, AV.int IntKind.i64 c],
                                                        AObj.cells
                                                          [AV.int IntKind.i64 (Prod.fst (Prod.fst x_2)), AV.int IntKind.i64 (Prod.fst (Prod.snd (Prod.fst x_2))),
                                                            AV.int IntKind.i64 (Prod.snd (Prod.snd (Prod.fst x_2)))],
                                                        AObj.cells
                                                          [AV.int IntKind.i64 (Prod.fst (Prod.fst x_3)), AV.int IntKind.i64 (Prod.fst (Prod.snd (Prod.fst x_3))),
                                                            AV.int IntKind.i64 (Prod.snd (Prod.snd (Prod.fst x_3)))]]
                                                      fun (r : AV) (H' : List AObj) =>
                                                      ∃ (x_4 : ByteArray),
                                                        r = AV.str x_4 ∧
                                                          H' =
                                                              [AObj.cells [AV.int IntKind.i64 a, AV.int IntKind.i64 b, AV.int IntKind.i64 c],
                                                                AObj.cells
                                                                  [AV.int IntKind.i64 (Prod.fst (Prod.fst x_2)), AV.int IntKind.i64 (Prod.fst (Prod.snd (Prod.fst x_2))),
                                                                    AV.int IntKind.i64 (Prod.snd (Prod.snd (Prod.fst x_2)))],
                                                                AObj.cells
                                                                  [AV.int IntKind.i64 (Prod.fst (Prod.fst x_3)), AV.int IntKind.i64 (Prod.fst (Prod.snd (Prod.fst x_3))),
                                                                    AV.int IntKind.i64 (Prod.snd (Prod.snd (Prod.fst x_3)))]] ∧
                                                            condP (ByteArray.toList x == ByteArray.toList x_4)
                                                              (ASpec Tryd.prog 12 [AV.int IntKind.i64 p, AV.int IntKind.i64 k]
                                                                [AObj.cells [AV.int IntKind.i64 a, AV.int IntKind.i64 b, AV.int IntKind.i64 c],
                                                                  AObj.cells
                                                                    [AV.int IntKind.i64 (Prod.fst (Prod.fst x_2)), AV.int IntKind.i64 (Prod.fst (Prod.snd (Prod.fst x_2))),
                                                                      AV.int IntKind.i64 (Prod.snd (Prod.snd (Prod.fst x_2)))],
                                                                  AObj.cells
                                                                    [AV.int IntKind.i64 (Prod.fst (Prod.fst x_3)), AV.int IntKind.i64 (Prod.fst (Prod.snd (Prod.fst x_3))),
                                                                      AV.int IntKind.i64 (Prod.snd (Prod.snd (Prod.fst x_3)))]]
                                                                fun (r : AV) (H' : List AObj) =>
                                                                ∃ (x : Int),
                                                                  r = AV.int IntKind.i64 x ∧
                                                                    H' =
                                                                        [AObj.cells [AV.int IntKind.i64 a, AV.int IntKind.i64 b, AV.int IntKind.i64 c],
                                                                          AObj.cells
                                                                            [AV.int IntKind.i64 (Prod.fst (Prod.fst x_2)), AV.int IntKind.i64 (Prod.fst (Prod.snd (Prod.fst x_2))),
                                                                              AV.int IntKind.i64 (Prod.snd (Prod.snd (Prod.fst x_2)))],
                                                                          AObj.cells
                                                                            [AV.int IntKind.i64 (Prod.fst (Prod.fst x_3)), AV.int IntKind.i64 (Prod.fst (Prod.snd (Prod.fst x_3))),
                                                                              AV.int IntKind.i64 (Prod.snd (Prod.snd (Prod.fst x_3)))]] ∧
                                                                      ASpec Tryd.prog 13 [AV.int IntKind.i64 p, AV.int IntKind.i64 k]
                                                                        [AObj.cells [AV.int IntKind.i64 a, AV.int IntKind.i64 b, AV.int IntKind.i64 c],
                                                                          AObj.cells
                                                                            [AV.int IntKind.i64 (Prod.fst (Prod.fst x_2)), AV.int IntKind.i64 (Prod.fst (Prod.snd (Prod.fst x_2))),
                                                                              AV.int IntKind.i64 (Prod.snd (Prod.snd (Prod.fst x_2)))],
                                                                          AObj.cells
                                                                            [AV.int IntKind.i64 (Prod.fst (Prod.fst x_3)), AV.int IntKind.i64 (Prod.fst (Prod.snd (Prod.fst x_3))),
                                                                              AV.int IntKind.i64 (Prod.snd (Prod.snd (Prod.fst x_3)))]]
                                                                        fun (r : AV) (H' : List AObj) =>
                                                                        ∃ (x_5 : Int),
                                                                          r = AV.int IntKind.i64 x_5 ∧
                                                                            H' =
                                                                                [AObj.cells [AV.int IntKind.i64 a, AV.int IntKind.i64 b, AV.int IntKind.i64 c],
                                                                                  AObj.cells
                                                                                    [AV.int IntKind.i64 (Prod.fst (Prod.fst x_2)), AV.int IntKind.i64 (Prod.fst (Prod.snd (Prod.fst x_2))),
                                                                                      AV.int IntKind.i64 (Prod.snd (Prod.snd (Prod.fst x_2)))],
                                                                                  AObj.cells
                                                                                    [AV.int IntKind.i64 (Prod.fst (Prod.fst x_3)), AV.int IntKind.i64 (Prod.fst (Prod.snd (Prod.fst x_3))),
                                                                                      AV.int IntKind.i64 (Prod.snd (Prod.snd (Prod.fst x_3)))]] ∧
                                                                              condP (x == x_5)
                                                                                (ASpec Tryd.prog 14 []
                                                                                  [AObj.cells [AV.int IntKind.i64 a, AV.int IntKind.i64 b, AV.int IntKind.i64 c],
                                                                                    AObj.cells
                                                                                      [AV.int IntKind.i64 (Prod.fst (Prod.fst x_2)), AV.int IntKind.i64 (Prod.fst (Prod.snd (Prod.fst x_2))),
                                                                                        AV.int IntKind.i64 (Prod.snd (Prod.snd (Prod.fst x_2)))],
                                                                                    AObj.cells
                                                                                      [AV.int IntKind.i64 (Prod.fst (Prod.fst x_3)), AV.int IntKind.i64 (Prod.fst (Prod.snd (Prod.fst x_3))),
                                                                                        AV.int IntKind.i64 (Prod.snd (Prod.snd (Prod.fst x_3)))]]
                                                                                  fun (r : AV) (H' : List AObj) =>
                                                                                  ∃ (x : Bool),
                                                                                    r = AV.bool x ∧
                                                                                      H' =
                                                                                          [AObj.cells [AV.int IntKind.i64 a, AV.int IntKind.i64 b, AV.int IntKind.i64 c],
                                                                                            AObj.cells
                                                                                              [AV.int IntKind.i64 (Prod.fst (Prod.fst x_2)), AV.int IntKind.i64 (Prod.fst (Prod.snd (Prod.fst x_2))),
                                                                                                AV.int IntKind.i64 (Prod.snd (Prod.snd (Prod.fst x_2)))],
                                                                                            AObj.cells
                                                                                              [AV.int IntKind.i64 (Prod.fst (Prod.fst x_3)), AV.int IntKind.i64 (Prod.fst (Prod.snd (Prod.fst x_3))),
                                                                                                AV.int IntKind.i64 (Prod.snd (Prod.snd (Prod.fst x_3)))]] ∧
                                                                                        Post (AV.bool x)
                                                                                          [AObj.cells [AV.int IntKind.i64 a, AV.int IntKind.i64 b, AV.int IntKind.i64 c],
                                                                                            AObj.cells
                                                                                              [AV.int IntKind.i64 (Prod.fst (Prod.fst x_2)), AV.int IntKind.i64 (Prod.fst (Prod.snd (Prod.fst x_2))),
                                                                                                AV.int IntKind.i64 (Prod.snd (Prod.snd (Prod.fst x_2)))],
                                                                                            AObj.cells
                                                                                              [AV.int IntKind.i64 (Prod.fst (Prod.fst x_3)), AV.int IntKind.i64 (Prod.fst (Prod.snd (Prod.fst x_3))),
                                                                                                AV.int IntKind.i64 (Prod.snd (Prod.snd (Prod.fst x_3)))]])
                                                                                (Post (AV.bool false)
                                                                                  [AObj.cells [AV.int IntKind.i64 a, AV.int IntKind.i64 b, AV.int IntKind.i64 c],
                                                                                    AObj.cells
                                                                                      [AV.int IntKind.i64 (Prod.fst (Prod.fst x_2)), AV.int IntKind.i64 (Prod.fst (Prod.snd (Prod.fst x_2))),
                                                                                        AV.int IntKind.i64 (Prod.snd (Prod.snd (Prod.fst x_2)))],
                                                                                    AObj.cells
                                                                                      [AV.int IntKind.i64 (Prod.fst (Prod.fst x_3)), AV.int IntKind.i64 (Prod.fst (Prod.snd (Prod.fst x_3))),
                                                                                        AV.int IntKind.i64 (Prod.snd (Prod.snd (Prod.fst x_3)))]]))
                                                              (Post (AV.bool false)
                                                                [AObj.cells [AV.int IntKind.i64 a, AV.int IntKind.i64 b, AV.int IntKind.i64 c],
                                                                  AObj.cells
                                                                    [AV.int IntKind.i64 (Prod.fst (Prod.fst x_2)), AV.int IntKind.i64 (Prod.fst (Prod.snd (Prod.fst x_2))),
                                                                      AV.int IntKind.i64 (Prod.snd (Prod.snd (Prod.fst x_2)))],
                                                                  AObj.cells
                                                                    [AV.int IntKind.i64 (Prod.fst (Prod.fst x_3)), AV.int IntKind.i64 (Prod.fst (Prod.snd (Prod.fst x_3))),
                                                                      AV.int IntKind.i64 (Prod.snd (Prod.snd (Prod.fst x_3)))]]))
                                            (Post (AV.bool false)
                                              [AObj.cells [AV.int IntKind.i64 a, AV.int IntKind.i64 b, AV.int IntKind.i64 c],
                                                AObj.cells
                                                  [AV.int IntKind.i64 (Prod.fst (Prod.fst x_2)), AV.int IntKind.i64 (Prod.fst (Prod.snd (Prod.fst x_2))),
                                                    AV.int IntKind.i64 (Prod.snd (Prod.snd (Prod.fst x_2)))],
                                                AObj.cells
                                                  [AV.int IntKind.i64 (Prod.fst (Prod.fst x_3)), AV.int IntKind.i64 (Prod.fst (Prod.snd (Prod.fst x_3))),
                                                    AV.int IntKind.i64 (Prod.snd (Prod.snd (Prod.fst x_3)))]]))
                                          (Post (AV.bool false)
                                            [AObj.cells [AV.int IntKind.i64 a, AV.int IntKind.i64 b, AV.int IntKind.i64 c],
                                              AObj.cells
                                                [AV.int IntKind.i64 (Prod.fst (Prod.fst x_2)), AV.int IntKind.i64 (Prod.fst (Prod.snd (Prod.fst x_2))),
                                                  AV.int IntKind.i64 (Prod.snd (Prod.snd (Prod.fst x_2)))],
                                              AObj.cells
                                                [AV.int IntKind.i64 (Prod.fst (Prod.fst x_3)), AV.int IntKind.i64 (Prod.fst (Prod.snd (Prod.fst x_3))),
                                                  AV.int IntKind.i64 (Prod.snd (Prod.snd (Prod.fst x_3)))]]))
                                        (Post (AV.bool false)
                                          [AObj.cells [AV.int IntKind.i64 a, AV.int IntKind.i64 b, AV.int IntKind.i64 c],
                                            AObj.cells
                                              [AV.int IntKind.i64 (Prod.fst (Prod.fst x_2)), AV.int IntKind.i64 (Prod.fst (Prod.snd (Prod.fst x_2))),
                                                AV.int IntKind.i64 (Prod.snd (Prod.snd (Prod.fst x_2)))],
                                            AObj.cells
                                              [AV.int IntKind.i64 (Prod.fst (Prod.fst x_3)), AV.int IntKind.i64 (Prod.fst (Prod.snd (Prod.fst x_3))),
                                                AV.int IntKind.i64 (Prod.snd (Prod.snd (Prod.fst x_3)))]]))
                                      (Post (AV.bool false)
                                        [AObj.cells [AV.int IntKind.i64 a, AV.int IntKind.i64 b, AV.int IntKind.i64 c],
                                          AObj.cells
                                            [AV.int IntKind.i64 (Prod.fst (Prod.fst x_2)), AV.int IntKind.i64 (Prod.fst (Prod.snd (Prod.fst x_2))),
                                              AV.int IntKind.i64 (Prod.snd (Prod.snd (Prod.fst x_2)))],
                                          AObj.cells
                                            [AV.int IntKind.i64 (Prod.fst (Prod.fst x_3)), AV.int IntKind.i64 (Prod.fst (Prod.snd (Prod.fst x_3))),
                                              AV.int IntKind.i64 (Prod.snd (Prod.snd (Prod.fst x_3)))]])) →
    ASpec Tryd.prog 3 [AV.agg [AV.int IntKind.i64 a, AV.int IntKind.i64 b, AV.int IntKind.i64 c], AV.int IntKind.i64 p, AV.int IntKind.i64 k] [] Post := fun a b c p k Post h => Go.Ab.ASpec.of_vc g3 Go.Proofs.Tryd.func3 (by kernel_rfl) (by kernel_rfl) (by kernel_rfl) (Go.Ab.kc (by kernel_rfl) h)

-- 5
noncomputable def l5 : Nat → List Nat
  | 6 => [2, 3, 4, 7, 9, 11]
  | 10 => [2, 3, 4, 7, 9]
  | 16 => [3, 4, 7, 9, 16, 17, 18, 19]
  | _ => []
noncomputable def u5 : Nat → Bool
  | 6 => true
  | 10 => true
  | _ => false
noncomputable def m5 : Nat → Bool
  | _ => false
noncomputable def g5 : Cfg := { N := 160, live := l5, cut := u5, mu := m5, ret := rets }
noncomputable def c5 : Go.Code := Go.Ab.bodyOf Go.Proofs.Tryd.f5
noncomputable def q5_0 : Nat → (AV → List AObj → Prop) → AQ := fun (n : Nat) (Post : AV → List AObj → Prop) => endQ Tryd.prog (resultsOf Tryd.f5) Post
noncomputable def c5_6 : Go.Code := codeSnd (codeSnd (codeSnd (codeSnd (codeSnd c5))))
theorem s5 : ∀ (a b c d e f k : Int) (Post : AV → List AObj → Prop),
  (ASpec Tryd.prog 6 [AV.agg [AV.int IntKind.i64 a, AV.int IntKind.i64 b, AV.int IntKind.i64 c]]
      [AObj.cells [AV.int IntKind.i64 a, AV.int IntKind.i64 b, AV.int IntKind.i64 c], AObj.cells [AV.int IntKind.i64 d, AV.int IntKind.i64 e, AV.int IntKind.i64 f]] fun (r : AV) (H' : List AObj) =>
      ∃ (x : Int × Bool),
        r = AV.tup [AV.int IntKind.i64 (Prod.fst x), AV.bool (Prod.snd x)] ∧
          H' = [AObj.cells [AV.int IntKind.i64 a, AV.int IntKind.i64 b, AV.int IntKind.i64 c], AObj.cells [AV.int IntKind.i64 d, AV.int IntKind.i64 e, AV.int IntKind.i64 f]] ∧
            ASpec Tryd.prog 6 [AV.agg [AV.int IntKind.i64 d, AV.int IntKind.i64 e, AV.int IntKind.i64 f]]
              [AObj.cells [AV.int IntKind.i64 a, AV.int IntKind.i64 b, AV.int IntKind.i64 c], AObj.cells [AV.int IntKind.i64 d, AV.int IntKind.i64 e, AV.int IntKind.i64 f]]
              fun (r : AV) (H' : List AObj) =>
              ∃ (x_1 : Int × Bool),
                r = AV.tup [AV.int IntKind.i64 (Prod.fst x_1), AV.bool (Prod.snd x_1)] ∧
                  H' = [AObj.cells [AV.int IntKind.i64 a, AV.int IntKind.i64 b, AV.int IntKind.i64 c], AObj.cells [AV.int IntKind.i64 d, AV.int IntKind.i64 e, AV.int IntKind.i64 f]] ∧
                    condP (!Prod.snd x)
                      (ASpec Tryd.prog 14 []
                        [AObj.cells [AV.int IntKind.i64 a, AV.int IntKind.i64 b, AV.int IntKind.i64 c], AObj.cells [AV.int IntKind.i64 d, AV.int IntKind.i64 e, AV.int IntKind.i64 f]]
                        fun (r : AV) (H' : List AObj) =>
                        ∃ (x : Bool),
                          r = AV.bool x ∧
                            H' = [AObj.cells [AV.int IntKind.i64 a, AV.int IntKind.i64 b, AV.int IntKind.i64 c], AObj.cells [AV.int IntKind.i64 d, AV.int IntKind.i64 e, AV.int IntKind.i64 f]] ∧
                              Post (AV.bool x)
                                [AObj.cells [AV.int IntKind.i64 a, AV.int IntKind.i64 b, AV.int IntKind.i64 c], AObj.cells [AV.int IntKind.i64 d, AV.int IntKind.i64 e, AV.int IntKind.i64 f]])
                      (condP (!Prod.snd x_1)
                        (ASpec Tryd.prog 14 []
                          [AObj.cells [AV.int IntKind.i64 a, AV.int IntKind.i64 b, AV.int IntKind.i64 c], AObj.cells [AV.int IntKind.i64 d, AV.int IntKind.i64 e, AV.int IntKind.i64 f]]
                          fun (r : AV) (H' : List AObj) =>
                          ∃ (x : Bool),
                            r = AV.bool x ∧
                              H' = [AObj.cells [AV.int IntKind.i64 a, AV.int IntKind.i64 b, AV.int IntKind.i64 c], AObj.cells [AV.int IntKind.i64 d, AV.int IntKind.i64 e, AV.int IntKind.i64 f]] ∧
                                Post (AV.bool x)
                                  [AObj.cells [AV.int IntKind.i64 a, AV.int IntKind.i64 b, AV.int IntKind.i64 c], AObj.cells [AV.int IntKind.i64 d, AV.int IntKind.i64 e, AV.int IntKind.i64 f]])
                        (needP ((0 : Int) ≤ (0 : Int) ∧ (0 : Int) < (3 : Int))
                          (needP ((0 : Int) ≤ (0 : Int) ∧ (0 : Int) < (3 : Int))
                            (condP (decide (a < d))
                              (AWP Tryd.prog 160 0 c5_6
                                [(2, AV.int IntKind.u8 k), (3, AV.ptr 0 0), (4, AV.ptr 1 0), (7, AV.int IntKind.i64 (Prod.fst x)),
                                  (9, AV.int IntKind.i64 (Prod.fst x_1)), (11, AV.bool true)]
                                [AObj.cells [AV.int IntKind.i64 a, AV.int IntKind.i64 b, AV.int IntKind.i64 c], AObj.cells [AV.int IntKind.i64 d, AV.int IntKind.i64 e, AV.int IntKind.i64 f]]
                                (q5_0 0 Post))
                              (needP ((0 : Int) ≤ (0 : Int) ∧ (0 : Int) < (3 : Int))
                                (needP ((0 : Int) ≤ (0 : Int) ∧ (0 : Int) < (3 : Int))
                                  (condP (a == d)
                                    (needP ((0 : Int) ≤ (1 : Int) ∧ (1 : Int) < (3 : Int))
                                      (needP ((0 : Int) ≤ (1 : Int) ∧ (1 : Int) < (3 : Int))
                                        (condP (decide (b < e))
                                          (AWP Tryd.prog 160 0 c5_6
                                            [(2, AV.int IntKind.u8 k), (3, AV.ptr 0 0), (4, AV.ptr 1 0),
                                              (7, AV.int IntKind.i64 (Prod.fst x)), (9, AV.int IntKind.i64 (Prod.fst x_1)), (11, AV.bool true)]
                                            [AObj.cells [AV.int IntKind.i64 a, AV.int IntKind.i64 b, AV.int IntKind.i64 c],
                                              AObj.cells [AV.int IntKind.i64 d, AV.int IntKind.i64 e, AV.int IntKind.i64 f]]
                                            (q5_0 0 Post))
                                          (needP ((0 : Int) ≤ (1 : Int) ∧ (1 : Int) < (3 : Int))
                                            (needP ((0 : Int) ≤ (1 : Int) ∧ (1 : Int) < (3 : Int))
                                              (condP (b == e)
                                                (needP ((0 : Int) ≤ (2 : Int) ∧ (2 : Int) < (3 : Int))
                                                  (needP ((0 : Int) ≤ (2 : Int) ∧ (2 : Int) < (3 : Int))
                                                    (AWP Tryd.prog 160 0 c5_6
                                                      [(2, AV.int IntKind.u8 k), (3, AV.ptr 0 0), (4, AV.ptr 1 0),
                                                        (7, AV.int IntKind.i64 (Prod.fst x)), (9, AV.int IntKind.i64 (Prod.fst x_1)), (11, AV.bool (decide (c < f)))]
                                                      [AObj.cells [AV.int IntKind.i64 a, AV.int IntKind.i64 b, AV.int IntKind.i64 c],
                                                        AObj.cells [AV.int IntKind.i64 d, AV.int IntKind.i64 e, AV.int IntKind.i64 f]]
                                                      (q5_0 0 Post))))
                                                (AWP Tryd.prog 160 0 c5_6
                                                  [(2, AV.int IntKind.u8 k), (3, AV.ptr 0 0), (4, AV.ptr 1 0),
                                                    (7, AV.int IntKind.i64 (Prod.fst x)), (9, AV.int IntKind.i64 (Prod.fst x_1)), (11, AV.bool false)]
                                                  [AObj.cells [AV.int IntKind.i64 a, AV.int IntKind.i64 b, AV.int IntKind.i64 c],
                                                    AObj.cells [AV.int IntKind.i64 d, AV.int IntKind.i64 e, AV.int IntKind.i64 f]]
                                                  (q5_0 0 Post))))))))
                                    (AWP Tryd.prog 160 0 c5_6
                                      [(2, AV.int IntKind.u8 k), (3, AV.ptr 0 0), (4, AV.ptr 1 0), (7, AV.int IntKind.i64 (Prod.fst x)),
                                        (9, AV.int IntKind.i64 (Prod.fst x_1)), (11, AV.bool false)]
                                      [AObj.cells [AV.int IntKind.i64 a, AV.int IntKind.i64 b, AV.int IntKind.i64 c], AObj.cells [AV.int IntKind.i64 d, AV.int IntKind.i64 e, AV.int IntKind.i64 f]]
                                      (q5_0 0 Post)))))))))) →
    ASpec Tryd.prog 5
      [AV.agg [AV.int IntKind.i64 a, AV.int IntKind.i64 b, AV.int IntKind.i64 c], AV.agg [AV.int IntKind.i64 d, AV.int IntKind.i64 e, AV.int IntKind.i64 f], AV.int IntKind.u8 k] [] Post := fun a b c d e f k Post h => Go.Ab.ASpec.of_vc g5 Go.Proofs.Tryd.func5 (by kernel_rfl) (by kernel_rfl) (by kernel_rfl) (Go.Ab.kc (by kernel_rfl) h)
noncomputable def c5_10 : Go.Code := codeSnd (codeSnd (codeSnd c5_6))
theorem v5_6 : ∀ (a b c d e f k p q : Int) (less : Bool) (n : Nat) (Post : AV → List AObj → Prop),
  (ASpec Tryd.prog 10 [AV.int IntKind.i64 p]
      [AObj.cells [AV.int IntKind.i64 a, AV.int IntKind.i64 b, AV.int IntKind.i64 c], AObj.cells [AV.int IntKind.i64 d, AV.int IntKind.i64 e, AV.int IntKind.i64 f]] fun (r : AV) (H' : List AObj) =>
      ∃ (x : ByteArray),
        r = AV.str x ∧
          H' = [AObj.cells [AV.int IntKind.i64 a, AV.int IntKind.i64 b, AV.int IntKind.i64 c], AObj.cells [AV.int IntKind.i64 d, AV.int IntKind.i64 e, AV.int IntKind.i64 f]] ∧
            ASpec Tryd.prog 15 [AV.str x]
              [AObj.cells [AV.int IntKind.i64 a, AV.int IntKind.i64 b, AV.int IntKind.i64 c], AObj.cells [AV.int IntKind.i64 d, AV.int IntKind.i64 e, AV.int IntKind.i64 f]]
              fun (r : AV) (H' : List AObj) =>
              ∃ (x : Int × Bool),
                r = AV.tup [AV.int IntKind.i64 (Prod.fst x), AV.bool (Prod.snd x)] ∧
                  H' = [AObj.cells [AV.int IntKind.i64 a, AV.int IntKind.i64 b, AV.int IntKind.i64 c], AObj.cells [AV.int IntKind.i64 d, AV.int IntKind.i64 e, AV.int IntKind.i64 f]] ∧
                    ASpec Tryd.prog 8 [AV.int IntKind.i64 p]
                      [AObj.cells [AV.int IntKind.i64 a, AV.int IntKind.i64 b, AV.int IntKind.i64 c], AObj.cells [AV.int IntKind.i64 d, AV.int IntKind.i64 e, AV.int IntKind.i64 f]]
                      fun (r : AV) (H' : List AObj) =>
                      ∃ (x_1 : (Int × Int × Int) × Bool),
                        r =
                            AV.tup
                              [AV.agg [AV.int IntKind.i64 (Prod.fst (Prod.fst x_1)), AV.int IntKind.i64 (Prod.fst (Prod.snd (Prod.fst x_1))), AV.int IntKind.i64 (Prod.snd (Prod.snd (Prod.fst x_1)))],
                                AV.bool (Prod.snd x_1)] ∧
                          H' = [AObj.cells [AV.int IntKind.i64 a, AV.int IntKind.i64 b, AV.int IntKind.i64 c], AObj.cells [AV.int IntKind.i64 d, AV.int IntKind.i64 e, AV.int IntKind.i64 f]] ∧
                            condP (!decide (p < q) == less)
                              (Post (AV.bool false)
                                [AObj.cells [AV.int IntKind.i64 a, AV.int IntKind.i64 b, AV.int IntKind.i64 c], AObj.cells [AV.int IntKind.i64 d, AV.int IntKind.i64 e, AV.int IntKind.i64 f],
                                  AObj.cells
                                    [AV.int IntKind.i64 (Prod.fst (Prod.fst x_1)), AV.int IntKind.i64 (Prod.fst (Prod.snd (Prod.fst x_1))), AV.int IntKind.i64 (Prod.snd (Prod.snd (Prod.fst x_1)))]])
                              (condP (!(p == q) == (a == d && (b == e && c == f)))
                                (Post (AV.bool false)
                                  [AObj.cells [AV.int IntKind.i64 a, AV.int IntKind.i64 b, AV.int IntKind.i64 c], AObj.cells [AV.int IntKind.i64 d, AV.int IntKind.i64 e, AV.int IntKind.i64 f],
                                    AObj.cells
                                      [AV.int IntKind.i64 (Prod.fst (Prod.fst x_1)), AV.int IntKind.i64 (Prod.fst (Prod.snd (Prod.fst x_1))), AV.int IntKind.i64 (Prod.snd (Prod.snd (Prod.fst x_1)))]])
                                (condP (Prod.fst x != p)
                                  (Post (AV.bool false)
                                    [AObj.cells [AV.int IntKind.i64 a, AV.int IntKind.i64 b, AV.int IntKind.i64 c], AObj.cells [AV.int IntKind.i64 d, AV.int IntKind.i64 e, AV.int IntKind.i64 f],
                                      AObj.cells
                                        [AV.int IntKind.i64 (Prod.fst (Prod.fst x_1)), AV.int IntKind.i64 (Prod.fst (Prod.snd (Prod.fst x_1))),
                                          AV.int IntKind.i64 (Prod.snd (Prod.snd (Prod.fst x_1)))]])
                                  (condP (!Prod.snd x)
                                    (Post (AV.bool false)
                                      [AObj.cells [AV.int IntKind.i64 a, AV.int IntKind.i64 b, AV.int IntKind.i64 c], AObj.cells [AV.int IntKind.i64 d, AV.int IntKind.i64 e, AV.int IntKind.i64 f],
                                        AObj.cells
                                          [AV.int IntKind.i64 (Prod.fst (Prod.fst x_1)), AV.int IntKind.i64 (Prod.fst (Prod.snd (Prod.fst x_1))),
                                            AV.int IntKind.i64 (Prod.snd (Prod.snd (Prod.fst x_1)))]])
                                    (condP (!(Prod.fst (Prod.fst x_1) == a && (Prod.fst (Prod.snd (Prod.fst x_1)) == b && Prod.snd (Prod.snd (Prod.fst x_1)) == c)))
                                      (Post (AV.bool false)
                                        [AObj.cells [AV.int IntKind.i64 a, AV.int IntKind.i64 b, AV.int IntKind.i64 c], AObj.cells [AV.int IntKind.i64 d, AV.int IntKind.i64 e, AV.int IntKind.i64 f],
                                          AObj.cells
                                            [AV.int IntKind.i64 (Prod.fst (Prod.fst x_1)), AV.int IntKind.i64 (Prod.fst (Prod.snd (Prod.fst x_1))),
                                              AV.int IntKind.i64 (Prod.snd (Prod.snd (Prod.fst x_1)))]])
                                      (AWP Tryd.prog 160 n c5_10
                                        [(2, AV.int IntKind.u8 k), (3, AV.ptr 0 0), (4, AV.ptr 1 0), (7, AV.int IntKind.i64 p),
                                          (9, AV.int IntKind.i64 q)]
                                        [AObj.cells [AV.int IntKind.i64 a, AV.int IntKind.i64 b, AV.int IntKind.i64 c], AObj.cells [AV.int IntKind.i64 d, AV.int IntKind.i64 e, AV.int IntKind.i64 f],
                                          AObj.cells
                                            [AV.int IntKind.i64 (Prod.fst (Prod.fst x_1)), AV.int IntKind.i64 (Prod.fst (Prod.snd (Prod.fst x_1))),
                                              AV.int IntKind.i64 (Prod.snd (Prod.snd (Prod.fst x_1)))]]
                                        (q5_0 n Post))))))) →
    AWP Tryd.prog 160 n c5_6
      [(2, AV.int IntKind.u8 k), (3, AV.ptr 0 0), (4, AV.ptr 1 0), (7, AV.int IntKind.i64 p), (9, AV.int IntKind.i64 q),
        (11, AV.bool less)]
      [AObj.cells [AV.int IntKind.i64 a, AV.int IntKind.i64 b, AV.int IntKind.i64 c], AObj.cells [AV.int IntKind.i64 d, AV.int IntKind.i64 e, AV.int IntKind.i64 f]] (q5_0 n Post) := fun a b c d e f k p q less n Post h => Go.Ab.awp_sound g5 n _ _ _ _ (Go.Ab.kc (by kernel_rfl) h)
noncomputable def q5_1 : Nat → (AV → List AObj → Prop) → AQ := fun (n : Nat) (Post : AV → List AObj → Prop) => seqQ (fun (s' : Slots) (H' : List AObj) => awp Tryd.prog g5 n (codeSnd (codeSnd (codeSnd (codeSnd (codeSnd c5_10))))) s' H' (q5_0 n Post)) (q5_0 n Post)
noncomputable def q5_2 : Nat → (AV → List AObj → Prop) → AQ := fun (n : Nat) (Post : AV → List AObj → Prop) => blockQ 0 (q5_1 n Post)
noncomputable def c5_16 : Go.Code := codeFst (codeSnd (codeFst (codeSnd (codeSnd (codeSnd (codeSnd c5_10))))))
theorem v5_10 : ∀ (a b c d e f k p q : Int) (o : AObj) (n : Nat) (Post : AV → List AObj → Prop),
  needP ((3 : Int) ≠ (0 : Int))
      (ASpec Tryd.prog 12 [AV.int IntKind.i64 p, AV.int IntKind.i64 (Int.tmod (IntKind.wrap IntKind.i64 k) (3 : Int))]
        [AObj.cells [AV.int IntKind.i64 a, AV.int IntKind.i64 b, AV.int IntKind.i64 c], AObj.cells [AV.int IntKind.i64 d, AV.int IntKind.i64 e, AV.int IntKind.i64 f], o]
        fun (r : AV) (H' : List AObj) =>
        ∃ (x : Int),
          r = AV.int IntKind.i64 x ∧
            H' = [AObj.cells [AV.int IntKind.i64 a, AV.int IntKind.i64 b, AV.int IntKind.i64 c], AObj.cells [AV.int IntKind.i64 d, AV.int IntKind.i64 e, AV.int IntKind.i64 f], o] ∧
              condP (decide (x ≤ p))
                (Post (AV.bool false) [AObj.cells [AV.int IntKind.i64 a, AV.int IntKind.i64 b, AV.int IntKind.i64 c], AObj.cells [AV.int IntKind.i64 d, AV.int IntKind.i64 e, AV.int IntKind.i64 f], o])
                (condP (decide (x > (1000000000 : Int)))
                  (Post (AV.bool false)
                    [AObj.cells [AV.int IntKind.i64 a, AV.int IntKind.i64 b, AV.int IntKind.i64 c], AObj.cells [AV.int IntKind.i64 d, AV.int IntKind.i64 e, AV.int IntKind.i64 f], o])
                  (AWP Tryd.prog 160 n c5_16
                    [(3, AV.ptr 0 0), (4, AV.ptr 1 0), (7, AV.int IntKind.i64 p), (9, AV.int IntKind.i64 q),
                      (16, AV.int IntKind.i64 (Int.tmod (IntKind.wrap IntKind.i64 k) (3 : Int))), (17, AV.int IntKind.i64 x), (18, AV.bool true),
                      (19, AV.int IntKind.i64 (0 : Int))]
                    [AObj.cells [AV.int IntKind.i64 a, AV.int IntKind.i64 b, AV.int IntKind.i64 c], AObj.cells [AV.int IntKind.i64 d, AV.int IntKind.i64 e, AV.int IntKind.i64 f], o] (q5_2 n Post)))) →
    AWP Tryd.prog 160 n c5_10
      [(2, AV.int IntKind.u8 k), (3, AV.ptr 0 0), (4, AV.ptr 1 0), (7, AV.int IntKind.i64 p), (9, AV.int IntKind.i64 q)]
      [AObj.cells [AV.int IntKind.i64 a, AV.int IntKind.i64 b, AV.int IntKind.i64 c], AObj.cells [AV.int IntKind.i64 d, AV.int IntKind.i64 e, AV.int IntKind.i64 f], o] (q5_0 n Post) := fun a b c d e f k p q o n Post h => Go.Ab.awp_sound g5 n _ _ _ _ (Go.Ab.kc (by kernel_rfl) h)
theorem v5_16a : ∀ (a b c d e f p q k n : Int) (same : Bool) (o : AObj) (n_1 : Nat) (Post : AV → List AObj → Prop),
  condP (decide ((0 : Int) ≤ k))
      (condP same
        (needP ((0 : Int) ≤ (0 : Int) ∧ (0 : Int) < (3 : Int))
          (needP ((0 : Int) ≤ (0 : Int) ∧ (0 : Int) < (3 : Int))
            (AWP Tryd.prog 160 n_1 c5_16
              [(3, AV.ptr 0 0), (4, AV.ptr 1 0), (7, AV.int IntKind.i64 p), (9, AV.int IntKind.i64 q),
                (16, AV.int IntKind.i64 k), (17, AV.int IntKind.i64 n), (18, AV.bool (d == a)), (19, AV.int IntKind.i64 (1 : Int))]
              [AObj.cells [AV.int IntKind.i64 a, AV.int IntKind.i64 b, AV.int IntKind.i64 c], AObj.cells [AV.int IntKind.i64 d, AV.int IntKind.i64 e, AV.int IntKind.i64 f], o] (q5_2 n_1 Post))))
        (AWP Tryd.prog 160 n_1 c5_16
          [(3, AV.ptr 0 0), (4, AV.ptr 1 0), (7, AV.int IntKind.i64 p), (9, AV.int IntKind.i64 q), (16, AV.int IntKind.i64 k),
            (17, AV.int IntKind.i64 n), (18, AV.bool false), (19, AV.int IntKind.i64 (1 : Int))]
          [AObj.cells [AV.int IntKind.i64 a, AV.int IntKind.i64 b, AV.int IntKind.i64 c], AObj.cells [AV.int IntKind.i64 d, AV.int IntKind.i64 e, AV.int IntKind.i64 f], o] (q5_2 n_1 Post)))
      (condP (decide (q < p))
        (condP (!same)
          (ASpec Tryd.prog 14 []
            [AObj.cells [AV.int IntKind.i64 a, AV.int IntKind.i64 b, AV.int IntKind.i64 c], AObj.cells [AV.int IntKind.i64 d, AV.int IntKind.i64 e, AV.int IntKind.i64 f], o]
            fun (r : AV) (H' : List AObj) =>
            ∃ (x : Bool),
              r = AV.bool x ∧
                H' = [AObj.cells [AV.int IntKind.i64 a, AV.int IntKind.i64 b, AV.int IntKind.i64 c], AObj.cells [AV.int IntKind.i64 d, AV.int IntKind.i64 e, AV.int IntKind.i64 f], o] ∧
                  Post (AV.bool x) [AObj.cells [AV.int IntKind.i64 a, AV.int IntKind.i64 b, AV.int IntKind.i64 c], AObj.cells [AV.int IntKind.i64 d, AV.int IntKind.i64 e, AV.int IntKind.i64 f], o])
          (condP (decide (q < n))
            (ASpec Tryd.prog 14 []
              [AObj.cells [AV.int IntKind.i64 a, AV.int IntKind.i64 b, AV.int IntKind.i64 c], AObj.cells [AV.int IntKind.i64 d, AV.int IntKind.i64 e, AV.int IntKind.i64 f], o]
              fun (r : AV) (H' : List AObj) =>
              ∃ (x : Bool),
                r = AV.bool x ∧
                  H' = [AObj.cells [AV.int IntKind.i64 a, AV.int IntKind.i64 b, AV.int IntKind.i64 c], AObj.cells [AV.int IntKind.i64 d, AV.int IntKind.i64 e, AV.int IntKind.i64 f], o] ∧
                    Post (AV.bool x) [AObj.cells [AV.int IntKind.i64 a, AV.int IntKind.i64 b, AV.int IntKind.i64 c], AObj.cells [AV.int IntKind.i64 d, AV.int IntKind.i64 e, AV.int IntKind.i64 f], o])
            (Post (AV.bool false) [AObj.cells [AV.int IntKind.i64 a, AV.int IntKind.i64 b, AV.int IntKind.i64 c], AObj.cells [AV.int IntKind.i64 d, AV.int IntKind.i64 e, AV.int IntKind.i64 f], o])))
        (condP (decide (q ≥ n))
          (condP (!same)
            (ASpec Tryd.prog 14 []
              [AObj.cells [AV.int IntKind.i64 a, AV.int IntKind.i64 b, AV.int IntKind.i64 c], AObj.cells [AV.int IntKind.i64 d, AV.int IntKind.i64 e, AV.int IntKind.i64 f], o]
              fun (r : AV) (H' : List AObj) =>
              ∃ (x : Bool),
                r = AV.bool x ∧
                  H' = [AObj.cells [AV.int IntKind.i64 a, AV.int IntKind.i64 b, AV.int IntKind.i64 c], AObj.cells [AV.int IntKind.i64 d, AV.int IntKind.i64 e, AV.int IntKind.i64 f], o] ∧
                    Post (AV.bool x) [AObj.cells [AV.int IntKind.i64 a, AV.int IntKind.i64 b, AV.int IntKind.i64 c], AObj.cells [AV.int IntKind.i64 d, AV.int IntKind.i64 e, AV.int IntKind.i64 f], o])
            (condP (decide (q < n))
              (ASpec Tryd.prog 14 []
                [AObj.cells [AV.int IntKind.i64 a, AV.int IntKind.i64 b, AV.int IntKind.i64 c], AObj.cells [AV.int IntKind.i64 d, AV.int IntKind.i64 e, AV.int IntKind.i64 f], o]
                fun (r : AV) (H' : List AObj) =>
                ∃ (x : Bool),
                  r = AV.bool x ∧
                    H' = [AObj.cells [AV.int IntKind.i64 a, AV.int IntKind.i64 b, AV.int IntKind.i64 c], AObj.cells [AV.int IntKind.i64 d, AV.int IntKind.i64 e, AV.int IntKind.i64 f], o] ∧
                      Post (AV.bool x)
                        [AObj.cells [AV.int IntKind.i64 a, AV.int IntKind.i64 b, AV.int IntKind.i64 c], AObj.cells [AV.int IntKind.i64 d, AV.int IntKind.i64 e, AV.int IntKind.i64 f], o])
              (Post (AV.bool false) [AObj.cells [AV.int IntKind.i64 a, AV.int IntKind.i64 b, AV.int IntKind.i64 c], AObj.cells [AV.int IntKind.i64 d, AV.int IntKind.i64 e, AV.int IntKind.i64 f], o])))
          (condP same
            (condP (!same)
              (ASpec Tryd.prog 14 []
                [AObj.cells [AV.int IntKind.i64 a, AV.int IntKind.i64 b, AV.int IntKind.i64 c], AObj.cells [AV.int IntKind.i64 d, AV.int IntKind.i64 e, AV.int IntKind.i64 f], o]
                fun (r : AV) (H' : List AObj) =>
                ∃ (x : Bool),
                  r = AV.bool x ∧
                    H' = [AObj.cells [AV.int IntKind.i64 a, AV.int IntKind.i64 b, AV.int IntKind.i64 c], AObj.cells [AV.int IntKind.i64 d, AV.int IntKind.i64 e, AV.int IntKind.i64 f], o] ∧
                      Post (AV.bool x)
                        [AObj.cells [AV.int IntKind.i64 a, AV.int IntKind.i64 b, AV.int IntKind.i64 c], AObj.cells [AV.int IntKind.i64 d, AV.int IntKind.i64 e, AV.int IntKind.i64 f], o])
              (condP (decide (q < n))
                (ASpec Tryd.prog 14 []
                  [AObj.cells [AV.int IntKind.i64 a, AV.int IntKind.i64 b, AV.int IntKind.i64 c], AObj.cells [AV.int IntKind.i64 d, AV.int IntKind.i64 e, AV.int IntKind.i64 f], o]
                  fun (r : AV) (H' : List AObj) =>
                  ∃ (x : Bool),
                    r = AV.bool x ∧
                      H' = [AObj.cells [AV.int IntKind.i64 a, AV.int IntKind.i64 b, AV.int IntKind.i64 c], AObj.cells [AV.int IntKind.i64 d, AV.int IntKind.i64 e, AV.int IntKind.i64 f], o] ∧
                        Post (AV.bool x)
                          [AObj.cells [AV.int IntKind.i64 a, AV.int IntKind.i64 b, AV.int IntKind.i64 c], AObj.cells [AV.int IntKind.i64 d, AV.int IntKind.i64 e, AV.int IntKind.i64 f], o])
                (Post (AV.bool false)
                  [AObj.cells [AV.int IntKind.i64 a, AV.int IntKind.i64 b, AV.int IntKind.i64 c], AObj.cells [AV.int IntKind.i64 d, AV.int IntKind.i64 e, AV.int IntKind.i64 f], o])))
            (Post (AV.bool false)
              [AObj.cells [AV.int IntKind.i64 a, AV.int IntKind.i64 b, AV.int IntKind.i64 c], AObj.cells [AV.int IntKind.i64 d, AV.int IntKind.i64 e, AV.int IntKind.i64 f], o])))) →
    AWP Tryd.prog 160 n_1 c5_16
      [(3, AV.ptr 0 0), (4, AV.ptr 1 0), (7, AV.int IntKind.i64 p), (9, AV.int IntKind.i64 q), (16, AV.int IntKind.i64 k),
        (17, AV.int IntKind.i64 n), (18, AV.bool same), (19, AV.int IntKind.i64 (0 : Int))]
      [AObj.cells [AV.int IntKind.i64 a, AV.int IntKind.i64 b, AV.int IntKind.i64 c], AObj.cells [AV.int IntKind.i64 d, AV.int IntKind.i64 e, AV.int IntKind.i64 f], o] (q5_2 n_1 Post) := fun a b c d e f p q k n same o n Post h => Go.Ab.AWP.loop' g5 (Cfg.live g5) c5_16 (by kernel_rfl) (by kernel_rfl) (Go.Ab.kc (by kernel_rfl) h)
theorem v5_16b : ∀ (a b c d e f p q k n : Int) (same : Bool) (o : AObj) (n_1 : Nat) (Post : AV → List AObj → Prop),
  condP (decide ((1 : Int) ≤ k))
      (condP same
        (needP ((0 : Int) ≤ (1 : Int) ∧ (1 : Int) < (3 : Int))
          (needP ((0 : Int) ≤ (1 : Int) ∧ (1 : Int) < (3 : Int))
            (AWP Tryd.prog 160 n_1 c5_16
              [(3, AV.ptr 0 0), (4, AV.ptr 1 0), (7, AV.int IntKind.i64 p), (9, AV.int IntKind.i64 q),
                (16, AV.int IntKind.i64 k), (17, AV.int IntKind.i64 n), (18, AV.bool (e == b)), (19, AV.int IntKind.i64 (2 : Int))]
              [AObj.cells [AV.int IntKind.i64 a, AV.int IntKind.i64 b, AV.int IntKind.i64 c], AObj.cells [AV.int IntKind.i64 d, AV.int IntKind.i64 e, AV.int IntKind.i64 f], o] (q5_2 n_1 Post))))
        (AWP Tryd.prog 160 n_1 c5_16
          [(3, AV.ptr 0 0), (4, AV.ptr 1 0), (7, AV.int IntKind.i64 p), (9, AV.int IntKind.i64 q), (16, AV.int IntKind.i64 k),
            (17, AV.int IntKind.i64 n), (18, AV.bool false), (19, AV.int IntKind.i64 (2 : Int))]
          [AObj.cells [AV.int IntKind.i64 a, AV.int IntKind.i64 b, AV.int IntKind.i64 c], AObj.cells [AV.int IntKind.i64 d, AV.int IntKind.i64 e, AV.int IntKind.i64 f], o] (q5_2 n_1 Post)))
      (condP (decide (q < p))
        (condP (!same)
          (ASpec Tryd.prog 14 []
            [AObj.cells [AV.int IntKind.i64 a, AV.int IntKind.i64 b, AV.int IntKind.i64 c], AObj.cells [AV.int IntKind.i64 d, AV.int IntKind.i64 e, AV.int IntKind.i64 f], o]
            fun (r : AV) (H' : List AObj) =>
            ∃ (x : Bool),
              r = AV.bool x ∧
                H' = [AObj.cells [AV.int IntKind.i64 a, AV.int IntKind.i64 b, AV.int IntKind.i64 c], AObj.cells [AV.int IntKind.i64 d, AV.int IntKind.i64 e, AV.int IntKind.i64 f], o] ∧
                  Post (AV.bool x) [AObj.cells [AV.int IntKind.i64 a, AV.int IntKind.i64 b, AV.int IntKind.i64 c], AObj.cells [AV.int IntKind.i64 d, AV.int IntKind.i64 e, AV.int IntKind.i64 f], o])
          (condP (decide (q < n))
            (ASpec Tryd.prog 14 []
              [AObj.cells [AV.int IntKind.i64 a, AV.int IntKind.i64 b, AV.int IntKind.i64 c], AObj.cells [AV.int IntKind.i64 d, AV.int IntKind.i64 e, AV.int IntKind.i64 f], o]
              fun (r : AV) (H' : List AObj) =>
              ∃ (x : Bool),
                r = AV.bool x ∧
                  H' = [AObj.cells [AV.int IntKind.i64 a, AV.int IntKind.i64 b, AV.int IntKind.i64 c], AObj.cells [AV.int IntKind.i64 d, AV.int IntKind.i64 e, AV.int IntKind.i64 f], o] ∧
                    Post (AV.bool x) [AObj.cells [AV.int IntKind.i64 a, AV.int IntKind.i64 b, AV.int IntKind.i64 c], AObj.cells [AV.int IntKind.i64 d, AV.int IntKind.i64 e, AV.int IntKind.i64 f], o])
            (Post (AV.bool false) [AObj.cells [AV.int IntKind.i64 a, AV.int IntKind.i64 b, AV.int IntKind.i64 c], AObj.cells [AV.int IntKind.i64 d, AV.int IntKind.i64 e, AV.int IntKind.i64 f], o])))
        (condP (decide (q ≥ n))
          (condP (!same)
            (ASpec Tryd.prog 14 []
              [AObj.cells [AV.int IntKind.i64 a, AV.int IntKind.i64 b, AV.int IntKind.i64 c], AObj.cells [AV.int IntKind.i64 d, AV.int IntKind.i64 e, AV.int IntKind.i64 f], o]
              fun (r : AV) (H' : List AObj) =>
              ∃ (x : Bool),
                r = AV.bool x ∧
                  H' = [AObj.cells [AV.int IntKind.i64 a, AV.int IntKind.i64 b, AV.int IntKind.i64 c], AObj.cells [AV.int IntKind.i64 d, AV.int IntKind.i64 e, AV.int IntKind.i64 f], o] ∧
                    Post (AV.bool x) [AObj.cells [AV.int IntKind.i64 a, AV.int IntKind.i64 b, AV.int IntKind.i64 c], AObj.cells [AV.int IntKind.i64 d, AV.int IntKind.i64 e, AV.int IntKind.i64 f], o])
            (condP (decide (q < n))
              (ASpec Tryd.prog 14 []
                [AObj.cells [AV.int IntKind.i64 a, AV.int IntKind.i64 b, AV.int IntKind.i64 c], AObj.cells [AV.int IntKind.i64 d, AV.int IntKind.i64 e, AV.int IntKind.i64 f], o]
                fun (r : AV) (H' : List AObj) =>
                ∃ (x : Bool),
                  r = AV.bool x ∧
                    H' = [AObj.cells [AV.int IntKind.i64 a, AV.int IntKind.i64 b, AV.int IntKind.i64 c], AObj.cells [AV.int IntKind.i64 d, AV.int IntKind.i64 e, AV.int IntKind.i64 f], o] ∧
                      Post (AV.bool x)
                        [AObj.cells [AV.int IntKind.i64 a, AV.int IntKind.i64 b, AV.int IntKind.i64 c], AObj.cells [AV.int IntKind.i64 d, AV.int IntKind.i64 e, AV.int IntKind.i64 f], o])
              (Post (AV.bool false) [AObj.cells [AV.int IntKind.i64 a, AV.int IntKind.i64 b, AV.int IntKind.i64 c], AObj.cells [AV.int IntKind.i64 d, AV.int IntKind.i64 e, AV.int IntKind.i64 f], o])))
          (condP same
            (condP (!same)
              (ASpec Tryd.prog 14 []
                [AObj.cells [AV.int IntKind.i64 a, AV.int IntKind.i64 b, AV.int IntKind.i64 c], AObj.cells [AV.int IntKind.i64 d, AV.int IntKind.i64 e, AV.int IntKind.i64 f], o]
                fun (r : AV) (H' : List AObj) =>
                ∃ (x : Bool),
                  r = AV.bool x ∧
                    H' = [AObj.cells [AV.int IntKind.i64 a, AV.int IntKind.i64 b, AV.int IntKind.i64 c], AObj.cells [AV.int IntKind.i64 d, AV.int IntKind.i64 e, AV.int IntKind.i64 f], o] ∧
                      Post (AV.bool x)
                        [AObj.cells [AV.int IntKind.i64 a, AV.int IntKind.i64 b, AV.int IntKind.i64 c], AObj.cells [AV.int IntKind.i64 d, AV.int IntKind.i64 e, AV.int IntKind.i64 f], o])
              (condP (decide (q < n))
                (ASpec Tryd.prog 14 []
                  [AObj.cells [AV.int IntKind.i64 a, AV.int IntKind.i64 b, AV.int IntKind.i64 c], AObj.cells [AV.int IntKind.i64 d, AV.int IntKind.i64 e, AV.int IntKind.i64 f], o]
                  fun (r : AV) (H' : List AObj) =>
                  ∃ (x : Bool),
                    r = AV.bool x ∧
                      H' = [AObj.cells [AV.int IntKind.i64 a, AV.int IntKind.i64 b, AV.int IntKind.i64 c], AObj.cells [AV.int IntKind.i64 d, AV.int IntKind.i64 e, AV.int IntKind.i64 f], o] ∧
                        Post (AV.bool x)
                          [AObj.cells [AV.int IntKind.i64 a, AV.int IntKind.i64 b, AV.int IntKind.i64 c], AObj.cells [AV.int IntKind.i64 d, AV.int IntKind.i64 e, AV.int IntKind.i64 f], o])
                (Post (AV.bool false)
                  [AObj.cells [AV.int IntKind.i64 a, AV.int IntKind.i64 b, AV.int IntKind.i64 c], AObj.cells [AV.int IntKind.i64 d, AV.int IntKind.i64 e, AV.int IntKind.i64 f], o])))
            (Post (AV.bool false)
              [AObj.cells [AV.int IntKind.i64 a, AV.int IntKind.i64 b, AV.int IntKind.i64 c], AObj.cells [AV.int IntKind.i64 d, AV.int IntKind.i64 e, AV.int IntKind.i64 f], o])))) →
    AWP Tryd.prog 160 n_1 c5_16
      [(3, AV.ptr 0 0), (4, AV.ptr 1 0), (7, AV.int IntKind.i64 p), (9, AV.int IntKind.i64 q), (16, AV.int IntKind.i64 k),
        (17, AV.int IntKind.i64 n), (18, AV.bool same), (19, AV.int IntKind.i64 (1 : Int))]
      [AObj.cells [AV.int IntKind.i64 a, AV.int IntKind.i64 b, AV.int IntKind.i64 c], AObj.cells [AV.int IntKind.i64 d, AV.int IntKind.i64 e, AV.int IntKind.i64 f], o] (q5_2 n_1 Post) := fun a b c d e f p q k n same o n Post h => Go.Ab.AWP.loop' g5 (Cfg.live g5) c5_16 (by kernel_rfl) (by kernel_rfl) (Go.Ab.kc (by kernel_rfl) h)
theorem v5_16c : ∀ (a b c d e f p q k n : Int) (same : Bool) (o : AObj) (n_1 : Nat) (Post : AV → List AObj → Prop),
  condP (decide ((2 : Int) ≤ k))
      (condP same
        (needP ((0 : Int) ≤ (2 : Int) ∧ (2 : Int) < (3 : Int))
          (needP ((0 : Int) ≤ (2 : Int) ∧ (2 : Int) < (3 : Int))
            (AWP Tryd.prog 160 n_1 c5_16
              [(3, AV.ptr 0 0), (4, AV.ptr 1 0), (7, AV.int IntKind.i64 p), (9, AV.int IntKind.i64 q),
                (16, AV.int IntKind.i64 k), (17, AV.int IntKind.i64 n), (18, AV.bool (f == c)), (19, AV.int IntKind.i64 (3 : Int))]
              [AObj.cells [AV.int IntKind.i64 a, AV.int IntKind.i64 b, AV.int IntKind.i64 c], AObj.cells [AV.int IntKind.i64 d, AV.int IntKind.i64 e, AV.int IntKind.i64 f], o] (q5_2 n_1 Post))))
        (AWP Tryd.prog 160 n_1 c5_16
          [(3, AV.ptr 0 0), (4, AV.ptr 1 0), (7, AV.int IntKind.i64 p), (9, AV.int IntKind.i64 q), (16, AV.int IntKind.i64 k),
            (17, AV.int IntKind.i64 n), (18, AV.bool false), (19, AV.int IntKind.i64 (3 : Int))]
          [AObj.cells [AV.int IntKind.i64 a, AV.int IntKind.i64 b, AV.int IntKind.i64 c], AObj.cells [AV.int IntKind.i64 d, AV.int IntKind.i64 e, AV.int IntKind.i64 f], o] (q5_2 n_1 Post)))
      (condP (decide (q < p))
        (condP (!same)
          (ASpec Tryd.prog 14 []
            [AObj.cells [AV.int IntKind.i64 a, AV.int IntKind.i64 b, AV.int IntKind.i64 c], AObj.cells [AV.int IntKind.i64 d, AV.int IntKind.i64 e, AV.int IntKind.i64 f], o]
            fun (r : AV) (H' : List AObj) =>
            ∃ (x : Bool),
              r = AV.bool x ∧
                H' = [AObj.cells [AV.int IntKind.i64 a, AV.int IntKind.i64 b, AV.int IntKind.i64 c], AObj.cells [AV.int IntKind.i64 d, AV.int IntKind.i64 e, AV.int IntKind.i64 f], o] ∧
                  Post (AV.bool x) [AObj.cells [AV.int IntKind.i64 a, AV.int IntKind.i64 b, AV.int IntKind.i64 c], AObj.cells [AV.int IntKind.i64 d, AV.int IntKind.i64 e, AV.int IntKind.i64 f], o])
          (condP (decide (q < n))
            (ASpec Tryd.prog 14 []
              [AObj.cells [AV.int IntKind.i64 a, AV.int IntKind.i64 b, AV.int IntKind.i64 c], AObj.cells [AV.int IntKind.i64 d, AV.int IntKind.i64 e, AV.int IntKind.i64 f], o]
              fun (r : AV) (H' : List AObj) =>
              ∃ (x : Bool),
                r = AV.bool x ∧
                  H' = [AObj.cells [AV.int IntKind.i64 a, AV.int IntKind.i64 b, AV.int IntKind.i64 c], AObj.cells [AV.int IntKind.i64 d, AV.int IntKind.i64 e, AV.int IntKind.i64 f], o] ∧
                    Post (AV.bool x) [AObj.cells [AV.int IntKind.i64 a, AV.int IntKind.i64 b, AV.int IntKind.i64 c], AObj.cells [AV.int IntKind.i64 d, AV.int IntKind.i64 e, AV.int IntKind.i64 f], o])
            (Post (AV.bool false) [AObj.cells [AV.int IntKind.i64 a, AV.int IntKind.i64 b, AV.int IntKind.i64 c], AObj.cells [AV.int IntKind.i64 d, AV.int IntKind.i64 e, AV.int IntKind.i64 f], o])))
        (condP (decide (q ≥ n))
          (condP (!same)
            (ASpec Tryd.prog 14 []
              [AObj.cells [AV.int IntKind.i64 a, AV.int IntKind.i64 b, AV.int IntKind.i64 c], AObj.cells [AV.int IntKind.i64 d, AV.int IntKind.i64 e, AV.int IntKind.i64 f], o]
              fun (r : AV) (H' : List AObj) =>
              ∃ (x : Bool),
                r = AV.bool x ∧
                  H' = [AObj.cells [AV.int IntKind.i64 a, AV.int IntKind.i64 b, AV.int IntKind.i64 c], AObj.cells [AV.int IntKind.i64 d, AV.int IntKind.i64 e, AV.int IntKind.i64 f], o] ∧
                    Post (AV.bool x) [AObj.cells [AV.int IntKind.i64 a, AV.int IntKind.i64 b, AV.int IntKind.i64 c], AObj.cells [AV.int IntKind.i64 d, AV.int IntKind.i64 e, AV.int IntKind.i64 f], o])
            (condP (decide (q < n))
              (ASpec Tryd.prog 14 []
                [AObj.cells [AV.int IntKind.i64 a, AV.int IntKind.i64 b, AV.int IntKind.i64 c], AObj.cells [AV.int IntKind.i64 d, AV.int IntKind.i64 e, AV.int IntKind.i64 f], o]
                fun (r : AV) (H' : List AObj) =>
                ∃ (x : Bool),
                  r = AV.bool x ∧
                    H' = [AObj.cells [AV.int IntKind.i64 a, AV.int IntKind.i64 b, AV.int IntKind.i64 c], AObj.cells [AV.int IntKind.i64 d, AV.int IntKind.i64 e, AV.int IntKind.i64 f], o] ∧
                      Post (AV.bool x)
                        [AObj.cells [AV.int IntKind.i64 a, AV.int IntKind.i64 b, AV.int IntKind.i64 c], AObj.cells [AV.int IntKind.i64 d, AV.int IntKind.i64 e, AV.int IntKind.i64 f], o])
              (Post (AV.bool false) [AObj.cells [AV.int IntKind.i64 a, AV.int IntKind.i64 b, AV.int IntKind.i64 c], AObj.cells [AV.int IntKind.i64 d, AV.int IntKind.i64 e, AV.int IntKind.i64 f], o])))
          (condP same
            (condP (!same)
              (ASpec Tryd.prog 14 []
                [AObj.cells [AV.int IntKind.i64 a, AV.int IntKind.i64 b, AV.int IntKind.i64 c], AObj.cells [AV.int IntKind.i64 d, AV.int IntKind.i64 e, AV.int IntKind.i64 f], o]
                fun (r : AV) (H' : List AObj) =>
                ∃ (x : Bool),
                  r = AV.bool x ∧
                    H' = [AObj.cells [AV.int IntKind.i64 a, AV.int IntKind.i64 b, AV.int IntKind.i64 c], AObj.cells [AV.int IntKind.i64 d, AV.int IntKind.i64 e, AV.int IntKind.i64 f], o] ∧
                      Post (AV.bool x)
                        [AObj.cells [AV.int IntKind.i64 a, AV.int IntKind.i64 b, AV.int IntKind.i64 c], AObj.cells [AV.int IntKind.i64 d, AV.int IntKind.i64 e, AV.int IntKind.i64 f], o])
              (condP (decide (q < n))
                (ASpec Tryd.prog 14 []
                  [AObj.cells [AV.int IntKind.i64 a, AV.int IntKind.i64 b, AV.int IntKind.i64 c], AObj.cells [AV.int IntKind.i64 d, AV.int IntKind.i64 e, AV.int IntKind.i64 f], o]
                  fun (r : AV) (H' : List AObj) =>
                  ∃ (x : Bool),
                    r = AV.bool x ∧
                      H' = [AObj.cells [AV.int IntKind.i64 a, AV.int IntKind.i64 b, AV.int IntKind.i64 c], AObj.cells [AV.int IntKind.i64 d, AV.int IntKind.i64 e, AV.int IntKind.i64 f], o] ∧
                        Post (AV.bool x)
                          [AObj.cells [AV.int IntKind.i64 a, AV.int IntKind.i64 b, AV.int IntKind.i64 c], AObj.cells [AV.int IntKind.i64 d, AV.int IntKind.i64 e, AV.int IntKind.i64 f], o])
                (Post (AV.bool false)
                  [AObj.cells [AV.int IntKind.i64 a, AV.int IntKind.i64 b, AV.int IntKind.i64 c], AObj.cells [AV.int IntKind.i64 d, AV.int IntKind.i64 e, AV.int IntKind.i64 f], o])))
            (Post (AV.bool false)
              [AObj.cells [AV.int IntKind.i64 a, AV.int IntKind.i64 b, AV.int IntKind.i64 c], AObj.cells [AV.int IntKind.i64 d, AV.int IntKind.i64 e, AV.int IntKind.i64 f], o])))) →
    AWP Tryd.prog 160 n_1 c5_16
      [(3, AV.ptr 0 0), (4, AV.ptr 1 0), (7, AV.int IntKind.i64 p), (9, AV.int IntKind.i64 q), (16, AV.int IntKind.i64 k),
        (17, AV.int IntKind.i64 n), (18, AV.bool same), (19, AV.int IntKind.i64 (2 : Int))]
      [AObj.cells [AV.int IntKind.i64 a, AV.int IntKind.i64 b, AV.int IntKind.i64 c], AObj.cells [AV.int IntKind.i64 d, AV.int IntKind.i64 e, AV.int IntKind.i64 f], o] (q5_2 n_1 Post) := fun a b c d e f p q k n same o n Post h => Go.Ab.AWP.loop' g5 (Cfg.live g5) c5_16 (by kernel_rfl) (by kernel_rfl) (Go.Ab.kc (by kernel_rfl) h)
theorem v5_16d : ∀ (a b c d e f p q k n : Int) (same : Bool) (o : AObj) (n_1 : Nat) (Post : AV → List AObj → Prop),
  condP (decide ((3 : Int) ≤ k))
      (condP same (needP ((0 : Int) ≤ (3 : Int) ∧ (3 : Int) < (3 : Int)) False)
        (AWP Tryd.prog 160 n_1 c5_16
          [(3, AV.ptr 0 0), (4, AV.ptr 1 0), (7, AV.int IntKind.i64 p), (9, AV.int IntKind.i64 q), (16, AV.int IntKind.i64 k),
            (17, AV.int IntKind.i64 n), (18, AV.bool false), (19, AV.int IntKind.i64 (4 : Int))]
          [AObj.cells [AV.int IntKind.i64 a, AV.int IntKind.i64 b, AV.int IntKind.i64 c], AObj.cells [AV.int IntKind.i64 d, AV.int IntKind.i64 e, AV.int IntKind.i64 f], o] (q5_2 n_1 Post)))
      (condP (decide (q < p))
        (condP (!same)
          (ASpec Tryd.prog 14 []
            [AObj.cells [AV.int IntKind.i64 a, AV.int IntKind.i64 b, AV.int IntKind.i64 c], AObj.cells [AV.int IntKind.i64 d, AV.int IntKind.i64 e, AV.int IntKind.i64 f], o]
            fun (r : AV) (H' : List AObj) =>
            ∃ (x : Bool),
              r = AV.bool x ∧
                H' = [AObj.cells [AV.int IntKind.i64 a, AV.int IntKind.i64 b, AV.int IntKind.i64 c], AObj.cells [AV.int IntKind.i64 d, AV.int IntKind.i64 e, AV.int IntKind.i64 f], o] ∧
                  Post (AV.bool x) [AObj.cells [AV.int IntKind.i64 a, AV.int IntKind.i64 b, AV.int IntKind.i64 c], AObj.cells [AV.int IntKind.i64 d, AV.int IntKind.i64 e, AV.int IntKind.i64 f], o])
          (condP (decide (q < n))
            (ASpec Tryd.prog 14 []
              [AObj.cells [AV.int IntKind.i64 a, AV.int IntKind.i64 b, AV.int IntKind.i64 c], AObj.cells [AV.int IntKind.i64 d, AV.int IntKind.i64 e, AV.int IntKind.i64 f], o]
              fun (r : AV) (H' : List AObj) =>
              ∃ (x : Bool),
                r = AV.bool x ∧
                  H' = [AObj.cells [AV.int IntKind.i64 a, AV.int IntKind.i64 b, AV.int IntKind.i64 c], AObj.cells [AV.int IntKind.i64 d, AV.int IntKind.i64 e, AV.int IntKind.i64 f], o] ∧
                    Post (AV.bool x) [AObj.cells [AV.int IntKind.i64 a, AV.int IntKind.i64 b, AV.int IntKind.i64 c], AObj.cells [AV.int IntKind.i64 d, AV.int IntKind.i64 e, AV.int IntKind.i64 f], o])
            (Post (AV.bool false) [AObj.cells [AV.int IntKind.i64 a, AV.int IntKind.i64 b, AV.int IntKind.i64 c], AObj.cells [AV.int IntKind.i64 d, AV.int IntKind.i64 e, AV.int IntKind.i64 f], o])))
        (condP (decide (q ≥ n))
          (condP (!same)
            (ASpec Tryd.prog 14 []
              [AObj.cells [AV.int IntKind.i64 a, AV.int IntKind.i64 b, AV.int IntKind.i64 c], AObj.cells [AV.int IntKind.i64 d, AV.int IntKind.i64 e, AV.int IntKind.i64 f], o]
              fun (r : AV) (H' : List AObj) =>
              ∃ (x : Bool),
                r = AV.bool x ∧
                  H' = [AObj.cells [AV.int IntKind.i64 a, AV.int IntKind.i64 b, AV.int IntKind.i64 c], AObj.cells [AV.int IntKind.i64 d, AV.int IntKind.i64 e, AV.int IntKind.i64 f], o] ∧
                    Post (AV.bool x) [AObj.cells [AV.int IntKind.i64 a, AV.int IntKind.i64 b, AV.int IntKind.i64 c], AObj.cells [AV.int IntKind.i64 d, AV.int IntKind.i64 e, AV.int IntKind.i64 f], o])
            (condP (decide (q < n))
              (ASpec Tryd.prog 14 []
                [AObj.cells [AV.int IntKind.i64 a, AV.int IntKind.i64 b, AV.int IntKind.i64 c], AObj.cells [AV.int IntKind.i64 d, AV.int IntKind.i64 e, AV.int IntKind.i64 f], o]
                fun (r : AV) (H' : List AObj) =>
                ∃ (x : Bool),
                  r = AV.bool x ∧
                    H' = [AObj.cells [AV.int IntKind.i64 a, AV.int IntKind.i64 b, AV.int IntKind.i64 c], AObj.cells [AV.int IntKind.i64 d, AV.int IntKind.i64 e, AV.int IntKind.i64 f], o] ∧
                      Post (AV.bool x)
                        [AObj.cells [AV.int IntKind.i64 a, AV.int IntKind.i64 b, AV.int IntKind.i64 c], AObj.cells [AV.int IntKind.i64 d, AV.int IntKind.i64 e, AV.int IntKind.i64 f], o])
              (Post (AV.bool false) [AObj.cells [AV.int IntKind.i64 a, AV.int IntKind.i64 b, AV.int IntKind.i64 c], AObj.cells [AV.int IntKind.i64 d, AV.int IntKind.i64 e, AV.int IntKind.i64 f], o])))
          (condP same
            (condP (!same)
              (ASpec Tryd.prog 14 []
                [AObj.cells [AV.int IntKind.i64 a, AV.int IntKind.i64 b, AV.int IntKind.i64 c], AObj.cells [AV.int IntKind.i64 d, AV.int IntKind.i64 e, AV.int IntKind.i64 f], o]
                fun (r : AV) (H' : List AObj) =>
                ∃ (x : Bool),
                  r = AV.bool x ∧
                    H' = [AObj.cells [AV.int IntKind.i64 a, AV.int IntKind.i64 b, AV.int IntKind.i64 c], AObj.cells [AV.int IntKind.i64 d, AV.int IntKind.i64 e, AV.int IntKind.i64 f], o] ∧
                      Post (AV.bool x)
                        [AObj.cells [AV.int IntKind.i64 a, AV.int IntKind.i64 b, AV.int IntKind.i64 c], AObj.cells [AV.int IntKind.i64 d, AV.int IntKind.i64 e, AV.int IntKind.i64 f], o])
              (condP (decide (q < n))
                (ASpec Tryd.prog 14 []
                  [AObj.cells [AV.int IntKind.i64 a, AV.int IntKind.i64 b, AV.int IntKind.i64 c], AObj.cells [AV.int IntKind.i64 d, AV.int IntKind.i64 e, AV.int IntKind.i64 f], o]
                  fun (r : AV) (H' : List AObj) =>
                  ∃ (x : Bool),
                    r = AV.bool x ∧
                      H' = [AObj.cells [AV.int IntKind.i64 a, AV.int IntKind.i64 b, AV.int IntKind.i64 c], AObj.cells [AV.int IntKind.i64 d, AV.int IntKind.i64 e, AV.int IntKind.i64 f], o] ∧
                        Post (AV.bool x)
                          [AObj.cells [AV.int IntKind.i64 a, AV.int IntKind.i64 b, AV.int IntKind.i64 c], AObj.cells [AV.int IntKind.i64 d, AV.int IntKind.i64 e, AV.int IntKind.i64 f], o])
                (Post (AV.bool false)
                  [AObj.cells [AV.int IntKind.i64 a, AV.int IntKind.i64 b, AV.int IntKind.i64 c], AObj.cells [AV.int IntKind.i64 d, AV.int IntKind.i64 e, AV.int IntKind.i64 f], o])))
            (Post (AV.bool false)
              [AObj.cells [AV.int IntKind.i64 a, AV.int IntKind.i64 b, AV.int IntKind.i64 c], AObj.cells [AV.int IntKind.i64 d, AV.int IntKind.i64 e, AV.int IntKind.i64 f], o])))) →
    AWP Tryd.prog 160 n_1 c5_16
      [(3, AV.ptr 0 0), (4, AV.ptr 1 0), (7, AV.int IntKind.i64 p), (9, AV.int IntKind.i64 q), (16, AV.int IntKind.i64 k),
        (17, AV.int IntKind.i64 n), (18, AV.bool same), (19, AV.int IntKind.i64 (3 : Int))]
      [AObj.cells [AV.int IntKind.i64 a, AV.int IntKind.i64 b, AV.int IntKind.i64 c], AObj.cells [AV.int IntKind.i64 d, AV.int IntKind.i64 e, AV.int IntKind.i64 f], o] (q5_2 n_1 Post) := fun a b c d e f p q k n same o n Post h => Go.Ab.AWP.loop' g5 (Cfg.live g5) c5_16 (by kernel_rfl) (by kernel_rfl) (Go.Ab.kc (by kernel_rfl) h)

end
end D
