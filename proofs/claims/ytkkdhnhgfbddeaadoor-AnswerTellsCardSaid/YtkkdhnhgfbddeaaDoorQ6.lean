/- Q6: several of this proof's own texts, one behind the other: what each proves stands at its head. -/
import Derived.Test.YtkkdhnhgfbddeaaDoorProg
import Derived.Test.YtkkdhnhgfbddeaaDoorA3
import Derived.Test.YtkkdhnhgfbddeaaDoorQ5
import Derived.Lib.Split
import Derived.Lib.Join
section
/- Printed: what the code of functions 156, 155, 146, 121 asks for, by the framework's own reading of it; each line is checked against the code. -/

set_option linter.unusedVariables false
set_option maxRecDepth 100000
set_option maxHeartbeats 4000000
open Go Go.Ab Go.Proofs
namespace D
noncomputable section

noncomputable def retL : List (Nat × Ret) := [
  (146, ⟨(Int × Int × Int) × Bool, fun _ _ x => .tup [.agg [.int .i64 x.1.1, .int .i64 x.1.2.1, .int .i64 x.1.2.2], .bool x.2], fun _ H _ => H⟩),
  (121, ⟨ByteArray, fun _ _ x => .str x, fun _ H _ => H⟩),
  (156, ⟨Unit, fun _ _ x => .agg [.int .i64 1000000, .int .i64 1000, .int .i64 1], fun _ H _ => H⟩),
  (155, ⟨Bool, fun _ _ x => .bool x, fun _ H _ => H⟩),
  (9070, ⟨Int × Bool, fun _ _ x => .tup [.int .i64 x.1, .bool x.2], fun _ H _ => H⟩),
  (9053, ⟨Int × Bool, fun _ _ x => .tup [.int .i64 x.1, .bool x.2], fun _ H _ => H⟩),
  (86, ⟨ByteArray, fun _ _ x => .str x, fun _ H _ => H⟩)]
noncomputable def rets : FuncId → List Ret := lookupR retL

-- 156
noncomputable def l156 : Nat → List Nat
  | _ => []
noncomputable def u156 : Nat → Bool
  | _ => false
noncomputable def m156 : Nat → Bool
  | _ => false
noncomputable def g156 : Cfg := { N := 2, live := l156, cut := u156, mu := m156, ret := rets }
theorem s156 : ∀ (Post : AV → List AObj → Prop),
  Post (AV.agg [AV.int IntKind.i64 (1000000 : Int), AV.int IntKind.i64 (1000 : Int), AV.int IntKind.i64 (1 : Int)])
      [AObj.cells [AV.int IntKind.i64 (1000000 : Int), AV.int IntKind.i64 (1000 : Int), AV.int IntKind.i64 (1 : Int)]] →
    ASpec Tryd.prog 156 [] [] Post := fun Post h => Go.Ab.ASpec.of_vc g156 Go.Proofs.Tryd.func156 (by kernel_rfl) (by kernel_rfl) (by kernel_rfl) (Go.Ab.kc (by kernel_rfl) h)

-- 155
noncomputable def l155 : Nat → List Nat
  | _ => []
noncomputable def u155 : Nat → Bool
  | _ => false
noncomputable def m155 : Nat → Bool
  | _ => false
noncomputable def g155 : Cfg := { N := 9, live := l155, cut := u155, mu := m155, ret := rets }
theorem s155 : ∀ (p : Int) (Post : AV → List AObj → Prop),
  condP (decide (p ≥ (0 : Int))) (Post (AV.bool (decide (p < (1000000000 : Int)))) []) (Post (AV.bool false) []) → ASpec Tryd.prog 155 [AV.int IntKind.i64 p] [] Post := fun p Post h => Go.Ab.ASpec.of_vc g155 Go.Proofs.Tryd.func155 (by kernel_rfl) (by kernel_rfl) (by kernel_rfl) (Go.Ab.kc (by kernel_rfl) h)

-- 146
noncomputable def l146 : Nat → List Nat
  | 5 => [0, 2, 4, 12, 13]
  | _ => []
noncomputable def u146 : Nat → Bool
  | _ => false
noncomputable def m146 : Nat → Bool
  | _ => false
noncomputable def g146 : Cfg := { N := 25, live := l146, cut := u146, mu := m146, ret := rets }
noncomputable def c146 : Go.Code := Go.Ab.bodyOf Go.Proofs.Tryd.f146
noncomputable def q146_0 : Nat → (AV → List AObj → Prop) → AQ := fun (n : Nat) (Post : AV → List AObj → Prop) => endQ Tryd.prog (resultsOf Tryd.f146) Post
noncomputable def q146_1 : Nat → (AV → List AObj → Prop) → AQ := fun (n : Nat) (Post : AV → List AObj → Prop) => seqQ (fun (s' : Slots) (H' : List AObj) => awp Tryd.prog g146 n (codeSnd (codeSnd (codeSnd (codeSnd c146)))) s' H' (q146_0 n Post)) (q146_0 n Post)
noncomputable def q146_2 : Nat → (AV → List AObj → Prop) → AQ := fun (n : Nat) (Post : AV → List AObj → Prop) => blockQ 0 (q146_1 n Post)
noncomputable def c146_5 : Go.Code := codeFst (codeSnd (codeFst (codeSnd (codeSnd (codeSnd c146)))))
theorem s146 : ∀ (p : Int) (Post : AV → List AObj → Prop),
  (ASpec Tryd.prog 155 [AV.int IntKind.i64 p]
      [AObj.cells [AV.int IntKind.i64 (0 : Int), AV.int IntKind.i64 (0 : Int), AV.int IntKind.i64 (0 : Int)],
        AObj.cells [AV.int IntKind.i64 (0 : Int), AV.int IntKind.i64 (0 : Int), AV.int IntKind.i64 (0 : Int)]]
      fun (r : AV) (H' : List AObj) =>
      ∃ (x : Bool),
        r = AV.bool x ∧
         H' =
         [AObj.cells [AV.int IntKind.i64 (0 : Int), AV.int IntKind.i64 (0 : Int), AV.int IntKind.i64 (0 : Int)],
         AObj.cells [AV.int IntKind.i64 (0 : Int), AV.int IntKind.i64 (0 : Int), AV.int IntKind.i64 (0 : Int)]] ∧
         condP (!x)
         (Post (AV.tup [AV.agg [AV.int IntKind.i64 (0 : Int), AV.int IntKind.i64 (0 : Int), AV.int IntKind.i64 (0 : Int)], AV.bool false])
         [AObj.cells [AV.int IntKind.i64 (0 : Int), AV.int IntKind.i64 (0 : Int), AV.int IntKind.i64 (0 : Int)],
         AObj.cells [AV.int IntKind.i64 (0 : Int), AV.int IntKind.i64 (0 : Int), AV.int IntKind.i64 (0 : Int)]])
         (ASpec Tryd.prog 156 []
         [AObj.cells [AV.int IntKind.i64 (0 : Int), AV.int IntKind.i64 (0 : Int), AV.int IntKind.i64 (0 : Int)],
         AObj.cells [AV.int IntKind.i64 (0 : Int), AV.int IntKind.i64 (0 : Int), AV.int IntKind.i64 (0 : Int)]]
         fun (r : AV) (H' : List AObj) =>
         ∃ (x : Unit),
         r = AV.agg [AV.int IntKind.i64 (1000000 : Int), AV.int IntKind.i64 (1000 : Int), AV.int IntKind.i64 (1 : Int)] ∧
         H' =
         [AObj.cells [AV.int IntKind.i64 (0 : Int), AV.int IntKind.i64 (0 : Int), AV.int IntKind.i64 (0 : Int)],
         AObj.cells [AV.int IntKind.i64 (0 : Int), AV.int IntKind.i64 (0 : Int), AV.int IntKind.i64 (0 : Int)]] ∧
         AWP Tryd.prog 25 0 c146_5
         [(0, AV.int IntKind.i64 p), (2, AV.ptr 0 0), (4, AV.ptr 1 0),
         (12, AV.agg [AV.int IntKind.i64 (1000000 : Int), AV.int IntKind.i64 (1000 : Int), AV.int IntKind.i64 (1 : Int)]), (13, AV.int IntKind.i64 (0 : Int))]
         [AObj.cells [AV.int IntKind.i64 (0 : Int), AV.int IntKind.i64 (0 : Int), AV.int IntKind.i64 (0 : Int)],
         AObj.cells [AV.int IntKind.i64 (0 : Int), AV.int IntKind.i64 (0 : Int), AV.int IntKind.i64 (0 : Int)]]
         (q146_2 0 Post))) →
    ASpec Tryd.prog 146 [AV.int IntKind.i64 p] [] Post := fun p Post h => Go.Ab.ASpec.of_vc g146 Go.Proofs.Tryd.func146 (by kernel_rfl) (by kernel_rfl) (by kernel_rfl) (Go.Ab.kc (by kernel_rfl) h)
theorem v146_5a : ∀ (p x y z : Int) (n : Nat) (Post : AV → List AObj → Prop),
  needP ((0 : Int) ≤ (0 : Int) ∧ (0 : Int) < (3 : Int))
      (needP ((1000000 : Int) ≠ (0 : Int))
        (needP ((1000 : Int) ≠ (0 : Int))
         (needP ((0 : Int) ≤ (0 : Int) ∧ (0 : Int) < (3 : Int))
         (AWP Tryd.prog 25 n c146_5
         [(0, AV.int IntKind.i64 p), (2, AV.ptr 0 0), (4, AV.ptr 1 0),
         (12, AV.agg [AV.int IntKind.i64 (1000000 : Int), AV.int IntKind.i64 (1000 : Int), AV.int IntKind.i64 (1 : Int)]), (13, AV.int IntKind.i64 (1 : Int))]
         [AObj.cells [AV.int IntKind.i64 (0 : Int), AV.int IntKind.i64 (0 : Int), AV.int IntKind.i64 (0 : Int)],
         AObj.cells [AV.int IntKind.i64 (Int.tmod (IntKind.wrap IntKind.i64 (Int.tdiv p (1000000 : Int))) (1000 : Int)), AV.int IntKind.i64 y, AV.int IntKind.i64 z]]
         (q146_2 n Post))))) →
    AWP Tryd.prog 25 n c146_5
      [(0, AV.int IntKind.i64 p), (2, AV.ptr 0 0), (4, AV.ptr 1 0),
        (12, AV.agg [AV.int IntKind.i64 (1000000 : Int), AV.int IntKind.i64 (1000 : Int), AV.int IntKind.i64 (1 : Int)]), (13, AV.int IntKind.i64 (0 : Int))]
      [AObj.cells [AV.int IntKind.i64 (0 : Int), AV.int IntKind.i64 (0 : Int), AV.int IntKind.i64 (0 : Int)], AObj.cells [AV.int IntKind.i64 x, AV.int IntKind.i64 y, AV.int IntKind.i64 z]]
      (q146_2 n Post) := fun p x y z n Post h => Go.Ab.AWP.loop' g146 (Cfg.live g146) c146_5 (by kernel_rfl) (by kernel_rfl) (Go.Ab.kc (by kernel_rfl) h)
theorem v146_5b : ∀ (p x y z : Int) (n : Nat) (Post : AV → List AObj → Prop),
  needP ((0 : Int) ≤ (1 : Int) ∧ (1 : Int) < (3 : Int))
      (needP ((1000 : Int) ≠ (0 : Int))
        (needP ((1000 : Int) ≠ (0 : Int))
         (needP ((0 : Int) ≤ (1 : Int) ∧ (1 : Int) < (3 : Int))
         (AWP Tryd.prog 25 n c146_5
         [(0, AV.int IntKind.i64 p), (2, AV.ptr 0 0), (4, AV.ptr 1 0),
         (12, AV.agg [AV.int IntKind.i64 (1000000 : Int), AV.int IntKind.i64 (1000 : Int), AV.int IntKind.i64 (1 : Int)]), (13, AV.int IntKind.i64 (2 : Int))]
         [AObj.cells [AV.int IntKind.i64 (0 : Int), AV.int IntKind.i64 (0 : Int), AV.int IntKind.i64 (0 : Int)],
         AObj.cells [AV.int IntKind.i64 x, AV.int IntKind.i64 (Int.tmod (IntKind.wrap IntKind.i64 (Int.tdiv p (1000 : Int))) (1000 : Int)), AV.int IntKind.i64 z]]
         (q146_2 n Post))))) →
    AWP Tryd.prog 25 n c146_5
      [(0, AV.int IntKind.i64 p), (2, AV.ptr 0 0), (4, AV.ptr 1 0),
        (12, AV.agg [AV.int IntKind.i64 (1000000 : Int), AV.int IntKind.i64 (1000 : Int), AV.int IntKind.i64 (1 : Int)]), (13, AV.int IntKind.i64 (1 : Int))]
      [AObj.cells [AV.int IntKind.i64 (0 : Int), AV.int IntKind.i64 (0 : Int), AV.int IntKind.i64 (0 : Int)], AObj.cells [AV.int IntKind.i64 x, AV.int IntKind.i64 y, AV.int IntKind.i64 z]]
      (q146_2 n Post) := fun p x y z n Post h => Go.Ab.AWP.loop' g146 (Cfg.live g146) c146_5 (by kernel_rfl) (by kernel_rfl) (Go.Ab.kc (by kernel_rfl) h)
theorem v146_5c : ∀ (p x y z : Int) (n : Nat) (Post : AV → List AObj → Prop),
  needP ((0 : Int) ≤ (2 : Int) ∧ (2 : Int) < (3 : Int))
      (needP ((1 : Int) ≠ (0 : Int))
        (needP ((1000 : Int) ≠ (0 : Int))
         (needP ((0 : Int) ≤ (2 : Int) ∧ (2 : Int) < (3 : Int))
         (AWP Tryd.prog 25 n c146_5
         [(0, AV.int IntKind.i64 p), (2, AV.ptr 0 0), (4, AV.ptr 1 0),
         (12, AV.agg [AV.int IntKind.i64 (1000000 : Int), AV.int IntKind.i64 (1000 : Int), AV.int IntKind.i64 (1 : Int)]), (13, AV.int IntKind.i64 (3 : Int))]
         [AObj.cells [AV.int IntKind.i64 (0 : Int), AV.int IntKind.i64 (0 : Int), AV.int IntKind.i64 (0 : Int)],
         AObj.cells [AV.int IntKind.i64 x, AV.int IntKind.i64 y, AV.int IntKind.i64 (Int.tmod (IntKind.wrap IntKind.i64 (Int.tdiv p (1 : Int))) (1000 : Int))]]
         (q146_2 n Post))))) →
    AWP Tryd.prog 25 n c146_5
      [(0, AV.int IntKind.i64 p), (2, AV.ptr 0 0), (4, AV.ptr 1 0),
        (12, AV.agg [AV.int IntKind.i64 (1000000 : Int), AV.int IntKind.i64 (1000 : Int), AV.int IntKind.i64 (1 : Int)]), (13, AV.int IntKind.i64 (2 : Int))]
      [AObj.cells [AV.int IntKind.i64 (0 : Int), AV.int IntKind.i64 (0 : Int), AV.int IntKind.i64 (0 : Int)], AObj.cells [AV.int IntKind.i64 x, AV.int IntKind.i64 y, AV.int IntKind.i64 z]]
      (q146_2 n Post) := fun p x y z n Post h => Go.Ab.AWP.loop' g146 (Cfg.live g146) c146_5 (by kernel_rfl) (by kernel_rfl) (Go.Ab.kc (by kernel_rfl) h)
theorem v146_5d : ∀ (p x y z : Int) (n : Nat) (Post : AV → List AObj → Prop),
  Post (AV.tup [AV.agg [AV.int IntKind.i64 x, AV.int IntKind.i64 y, AV.int IntKind.i64 z], AV.bool true])
      [AObj.cells [AV.int IntKind.i64 x, AV.int IntKind.i64 y, AV.int IntKind.i64 z], AObj.cells [AV.int IntKind.i64 x, AV.int IntKind.i64 y, AV.int IntKind.i64 z]] →
    AWP Tryd.prog 25 n c146_5
      [(0, AV.int IntKind.i64 p), (2, AV.ptr 0 0), (4, AV.ptr 1 0),
        (12, AV.agg [AV.int IntKind.i64 (1000000 : Int), AV.int IntKind.i64 (1000 : Int), AV.int IntKind.i64 (1 : Int)]), (13, AV.int IntKind.i64 (3 : Int))]
      [AObj.cells [AV.int IntKind.i64 (0 : Int), AV.int IntKind.i64 (0 : Int), AV.int IntKind.i64 (0 : Int)], AObj.cells [AV.int IntKind.i64 x, AV.int IntKind.i64 y, AV.int IntKind.i64 z]]
      (q146_2 n Post) := fun p x y z n Post h => Go.Ab.AWP.loop' g146 (Cfg.live g146) c146_5 (by kernel_rfl) (by kernel_rfl) (Go.Ab.kc (by kernel_rfl) h)

-- 121
noncomputable def l121 : Nat → List Nat
  | _ => []
noncomputable def u121 : Nat → Bool
  | _ => false
noncomputable def m121 : Nat → Bool
  | _ => false
noncomputable def g121 : Cfg := { N := 25, live := l121, cut := u121, mu := m121, ret := rets }
theorem s121 : ∀ (p : Int) (Post : AV → List AObj → Prop),
  (ASpec Tryd.prog 146 [AV.int IntKind.i64 p] [] fun (r : AV) (H' : List AObj) =>
      ∃ (x : (Int × Int × Int) × Bool),
        r =
         AV.tup
         [AV.agg [AV.int IntKind.i64 (Prod.fst (Prod.fst x)), AV.int IntKind.i64 (Prod.fst (Prod.snd (Prod.fst x))), AV.int IntKind.i64 (Prod.snd (Prod.snd (Prod.fst x)))],
         AV.bool (Prod.snd x)] ∧
         H' = [] ∧
         condP (!Prod.snd x)
         (Post (AV.str { data := #[] })
         [AObj.cells [AV.int IntKind.i64 (Prod.fst (Prod.fst x)), AV.int IntKind.i64 (Prod.fst (Prod.snd (Prod.fst x))), AV.int IntKind.i64 (Prod.snd (Prod.snd (Prod.fst x)))]])
         (needP ((0 : Int) ≤ (0 : Int) ∧ (0 : Int) < (3 : Int))
         (needP ((0 : Int) ≤ (1 : Int) ∧ (1 : Int) < (3 : Int))
         (needP ((0 : Int) ≤ (2 : Int) ∧ (2 : Int) < (3 : Int))
         (ASpec Tryd.prog 86 [AV.int IntKind.i64 (Prod.fst (Prod.fst x))]
         [AObj.cells [AV.int IntKind.i64 (Prod.fst (Prod.fst x)), AV.int IntKind.i64 (Prod.fst (Prod.snd (Prod.fst x))), AV.int IntKind.i64 (Prod.snd (Prod.snd (Prod.fst x)))]]
         fun (r : AV) (H' : List AObj) =>
         ∃ (x_1 : ByteArray),
         r = AV.str x_1 ∧
         H' = [AObj.cells [AV.int IntKind.i64 (Prod.fst (Prod.fst x)), AV.int IntKind.i64 (Prod.fst (Prod.snd (Prod.fst x))), AV.int IntKind.i64 (Prod.snd (Prod.snd (Prod.fst x)))]] ∧
         (AV.int IntKind.i64 (Prod.snd (Prod.snd (Prod.fst x))) = AV.int IntKind.i64 (Prod.snd (Prod.snd (Prod.fst x))) ∧
         [AObj.cells
         [AV.int IntKind.i64 (Prod.fst (Prod.fst x)), AV.int IntKind.i64 (Prod.fst (Prod.snd (Prod.fst x))), AV.int IntKind.i64 (Prod.snd (Prod.snd (Prod.fst x)))]] =
         [AObj.cells
         [AV.int IntKind.i64 (Prod.fst (Prod.fst x)), AV.int IntKind.i64 (Prod.fst (Prod.snd (Prod.fst x))), AV.int IntKind.i64 (Prod.snd (Prod.snd (Prod.fst x)))]]) ∧
         (AV.int IntKind.i64 (Prod.fst (Prod.snd (Prod.fst x))) = AV.int IntKind.i64 (Prod.fst (Prod.snd (Prod.fst x))) ∧
         [AObj.cells
         [AV.int IntKind.i64 (Prod.fst (Prod.fst x)), AV.int IntKind.i64 (Prod.fst (Prod.snd (Prod.fst x))), AV.int IntKind.i64 (Prod.snd (Prod.snd (Prod.fst x)))]] =
         [AObj.cells
         [AV.int IntKind.i64 (Prod.fst (Prod.fst x)), AV.int IntKind.i64 (Prod.fst (Prod.snd (Prod.fst x))), AV.int IntKind.i64 (Prod.snd (Prod.snd (Prod.fst x)))]]) ∧
         needP ((↑(ByteArray.size x_1 + 1) : Int) ≤ (9223372036854775807 : Int))
         (ASpec Tryd.prog 86 [AV.int IntKind.i64 (Prod.fst (Prod.snd (Prod.fst x)))]
         [AObj.cells
         [AV.int IntKind.i64 (Prod.fst (Prod.fst x)), AV.int IntKind.i64 (Prod.fst (Prod.snd (Prod.fst x))), AV.int IntKind.i64 (Prod.snd (Prod.snd (Prod.fst x)))]]
         fun (r : AV) (H' : List AObj) =>
         ∃ (x_2 : ByteArray),
         r = AV.str x_2 ∧
         H' =
         [AObj.cells
         [AV.int IntKind.i64 (Prod.fst (Prod.fst x)), AV.int IntKind.i64 (Prod.fst (Prod.snd (Prod.fst x))),
         AV.int IntKind.i64 (Prod.snd (Prod.snd (Prod.fst x)))]] ∧
         (AV.int IntKind.i64 (Prod.snd (Prod.snd (Prod.fst x))) = AV.int IntKind.i64 (Prod.snd (Prod.snd (Prod.fst x))) ∧
         [AObj.cells
         [AV.int IntKind.i64 (Prod.fst (Prod.fst x)), AV.int IntKind.i64 (Prod.fst (Prod.snd (Prod.fst x))),
         AV.int IntKind.i64 (Prod.snd (Prod.snd (Prod.fst x)))]] =
         [AObj.cells
         [AV.int IntKind.i64 (Prod.fst (Prod.fst x)), AV.int IntKind.i64 (Prod.fst (Prod.snd (Prod.fst x))),
         AV.int IntKind.i64 (Prod.snd (Prod.snd (Prod.fst x)))]]) ∧
         needP ((↑(ByteArray.size (x_1 ++ { data := #[(46 : UInt8)] }) + ByteArray.size x_2) : Int) ≤ (9223372036854775807 : Int))
         (needP ((↑(ByteArray.size (x_1 ++ { data := #[(46 : UInt8)] } ++ x_2) + 1) : Int) ≤ (9223372036854775807 : Int))
         (ASpec Tryd.prog 86 [AV.int IntKind.i64 (Prod.snd (Prod.snd (Prod.fst x)))]
         [AObj.cells
         [AV.int IntKind.i64 (Prod.fst (Prod.fst x)), AV.int IntKind.i64 (Prod.fst (Prod.snd (Prod.fst x))),
         AV.int IntKind.i64 (Prod.snd (Prod.snd (Prod.fst x)))]]
         fun (r : AV) (H' : List AObj) =>
         ∃ (x_3 : ByteArray),
         r = AV.str x_3 ∧
         H' =
         [AObj.cells
         [AV.int IntKind.i64 (Prod.fst (Prod.fst x)), AV.int IntKind.i64 (Prod.fst (Prod.snd (Prod.fst x))),
         AV.int IntKind.i64 (Prod.snd (Prod.snd (Prod.fst x)))]] ∧
         needP
         ((↑(ByteArray.size (x_1 ++ { data := #[(46 : UInt8)] } ++ x_2 ++ { data := #[(46 : UInt8)] }) + ByteArray.size x_3) : Int) ≤
         (9223372036854775807 : Int))
         (Post (AV.str (x_1 ++ { data := #[(46 : UInt8)] } ++ x_2 ++ { data := #[(46 : UInt8)] } ++ x_3))
         [AObj.cells
         [AV.int IntKind.i64 (Prod.fst (Prod.fst x)), AV.int IntKind.i64 (Prod.fst (Prod.snd (Prod.fst x))),
         AV.int IntKind.i64 (Prod.snd (Prod.snd (Prod.fst x)))]]))))))))) →
    ASpec Tryd.prog 121 [AV.int IntKind.i64 p] [] Post := fun p Post h => Go.Ab.ASpec.of_vc g121 Go.Proofs.Tryd.func121 (by kernel_rfl) (by kernel_rfl) (by kernel_rfl) (Go.Ab.kc (by kernel_rfl) h)

end
end D
end

section
/- The plain law of versions and their texts. -/

set_option linter.unusedVariables false
set_option linter.unusedSimpArgs false
namespace Ve

/-- a part's digits -/
def dg (n : Nat) : List UInt8 :=
  if n < 10 then [UInt8.ofNat (48 + n)] else if n < 100 then [UInt8.ofNat (48 + n / 10), UInt8.ofNat (48 + n % 10)] else [UInt8.ofNat (48 + n / 100), UInt8.ofNat (48 + n / 10 % 10), UInt8.ofNat (48 + n % 10)]

def text3 (a b c : Nat) : List UInt8 := dg a ++ 46 :: (dg b ++ 46 :: dg c)
def textM (p : Int) : List UInt8 := if 0 ≤ p ∧ p < 1000000000 then text3 (p / 1000000).toNat (p / 1000 % 1000).toNat (p % 1000).toNat else []

theorem dg_len (n : Nat) : 1 ≤ (dg n).length ∧ (dg n).length ≤ 3 := by
  unfold dg; split
  · simp
  · split <;> simp

theorem text3_len (a b c : Nat) : 5 ≤ (text3 a b c).length ∧ (text3 a b c).length ≤ 11 := by
  have h1 := dg_len a
  have h2 := dg_len b
  have h3 := dg_len c
  simp only [text3, List.length_append, List.length_cons]; omega

end Ve
end

section
/- Bytes and runes: plain facts. -/

set_option linter.unusedVariables false
set_option linter.unusedSimpArgs false
set_option maxRecDepth 100000
open Go Go.Ab
namespace D

abbrev B (l : List UInt8) : ByteArray := ⟨l.toArray⟩

theorem B_size (l : List UInt8) : (B l).size = l.length := by simp [ByteArray.size]
theorem B_append (a b : List UInt8) : B a ++ B b = B (a ++ b) := by
  apply ByteArray.ext
  simp
/-! ### the rune at a place -/

end D
end

section
/- Printed: what the code of functions 131, 80, 132, 81, 84, 78, 92, 106, 97, 102 asks for, by the framework's own reading of it; each line is checked against the code. -/

set_option linter.unusedVariables false
set_option maxRecDepth 100000
set_option maxHeartbeats 4000000
open Go Go.Ab Go.Proofs
namespace Pf
noncomputable section

noncomputable def retP : List (Nat × Ret) := [
  (131, ⟨Bool, fun _ _ x => .bool x, fun _ H _ => H⟩), (80, ⟨Bool, fun _ _ x => .bool x, fun _ H _ => H⟩), (132, ⟨Bool, fun _ _ x => .bool x, fun _ H _ => H⟩), (81, ⟨Bool, fun _ _ x => .bool x, fun _ H _ => H⟩), (84, ⟨Bool, fun _ _ x => .bool x, fun _ H _ => H⟩), (78, ⟨Bool, fun _ _ x => .bool x, fun _ H _ => H⟩), (9019, ⟨Unit, fun _ _ _ => .bool true, fun _ H _ => H⟩),
  (92, ⟨List UInt8, fun _ _ x => .sl 1 (.map encB 0 x) .none, fun _ H _ => H⟩),
  (97, ⟨List T.St × Int, fun _ _ x => .tup [.sl 6 (.map T.encSt T.noSt x.1) .none, .int .i64 x.2], fun _ H _ => H⟩),
  (102, ⟨List T.St × Int, fun _ _ x => .tup [.sl 6 (.map T.encSt T.noSt x.1) .none, .int .i64 x.2], fun _ H _ => H⟩),
  (106, ⟨ByteArray, fun _ _ x => .str x, fun _ H _ => H⟩),
  (9125, ⟨List T.St, fun _ _ x => .sl 6 (.map T.encSt T.noSt x) .none, fun _ H _ => H⟩),
  (9228, ⟨Unit, fun _ H _ => .fn 9309 [.ptr H.length 0], fun a H _ => H ++ [.cells [a.getD 0 .bad]]⟩),
  (yieldKey, ⟨List Bool, fun _ _ _ => .bool true, fun _ H x => H.set 0 (.arr 1 (.map T.encBo false x))⟩)]
noncomputable def rets : FuncId → List Ret := lookupR (retP ++ C.retC ++ V.retL)

-- 131
noncomputable def l131 : Nat → List Nat
  | 2 => [1, 2, 5]
  | 3 => [1, 2, 5, 6]
  | _ => []
noncomputable def u131 : Nat → Bool
  | 2 => true
  | 3 => true
  | _ => false
noncomputable def m131 : Nat → Bool
  | _ => false
noncomputable def g131 : Cfg := { N := 85, live := l131, cut := u131, mu := m131, ret := rets }
noncomputable def c131 : Go.Code := Go.Ab.bodyOf Go.Proofs.Tryd.f131
noncomputable def q131_0 : Nat → (AV → List AObj → Prop) → AQ := fun (n : Nat) (Post : AV → List AObj → Prop) => endQ Tryd.prog (resultsOf Tryd.f131) Post
noncomputable def c131_2 : Go.Code := codeSnd (codeSnd c131)
theorem s131 : ∀ (x : T.St) (i : Int) (Post : AV → List AObj → Prop),
  condP (ByteArray.toList { data := List.toArray (Prod.fst (Prod.snd (Prod.snd (Prod.snd x)))) } == ByteArray.toList { data := #[] })
      (AWP Tryd.prog 85 0 c131_2 [(1, AV.int IntKind.i64 i), (2, AV.ptr 0 0), (5, AV.bool (Prod.fst (Prod.snd (Prod.snd x)) == (0 : Int)))]
        [AObj.cells
         [AV.int IntKind.i64 (Prod.fst x), AV.str { data := List.toArray (Prod.fst (Prod.snd x)) }, AV.int IntKind.i64 (Prod.fst (Prod.snd (Prod.snd x))),
         AV.str { data := List.toArray (Prod.fst (Prod.snd (Prod.snd (Prod.snd x)))) }, AV.int IntKind.i64 (Prod.fst (Prod.snd (Prod.snd (Prod.snd (Prod.snd x))))),
         AV.int IntKind.i64 (Prod.snd (Prod.snd (Prod.snd (Prod.snd (Prod.snd x)))))]]
        (q131_0 0 Post))
      (AWP Tryd.prog 85 0 c131_2 [(1, AV.int IntKind.i64 i), (2, AV.ptr 0 0), (5, AV.bool false)]
        [AObj.cells
         [AV.int IntKind.i64 (Prod.fst x), AV.str { data := List.toArray (Prod.fst (Prod.snd x)) }, AV.int IntKind.i64 (Prod.fst (Prod.snd (Prod.snd x))),
         AV.str { data := List.toArray (Prod.fst (Prod.snd (Prod.snd (Prod.snd x)))) }, AV.int IntKind.i64 (Prod.fst (Prod.snd (Prod.snd (Prod.snd (Prod.snd x))))),
         AV.int IntKind.i64 (Prod.snd (Prod.snd (Prod.snd (Prod.snd (Prod.snd x)))))]]
        (q131_0 0 Post)) →
    ASpec Tryd.prog 131 [AV.agg (T.encSt x), AV.int IntKind.i64 i] [] Post := fun x i Post h => Go.Ab.ASpec.of_vc g131 Go.Proofs.Tryd.func131 (by kernel_rfl) (by kernel_rfl) (by kernel_rfl) (Go.Ab.kc (by kernel_rfl) h)
noncomputable def c131_3 : Go.Code := codeSnd c131_2
theorem v131_2 : ∀ (x : T.St) (i : Int) (p : Bool) (n : Nat) (Post : AV → List AObj → Prop),
  condP (Prod.fst (Prod.snd (Prod.snd (Prod.snd (Prod.snd x)))) == (0 : Int))
      (AWP Tryd.prog 85 n c131_3
        [(1, AV.int IntKind.i64 i), (2, AV.ptr 0 0), (5, AV.bool p), (6, AV.bool (Prod.snd (Prod.snd (Prod.snd (Prod.snd (Prod.snd x)))) == (0 : Int)))]
        [AObj.cells
         [AV.int IntKind.i64 (Prod.fst x), AV.str { data := List.toArray (Prod.fst (Prod.snd x)) }, AV.int IntKind.i64 (Prod.fst (Prod.snd (Prod.snd x))),
         AV.str { data := List.toArray (Prod.fst (Prod.snd (Prod.snd (Prod.snd x)))) }, AV.int IntKind.i64 (Prod.fst (Prod.snd (Prod.snd (Prod.snd (Prod.snd x))))),
         AV.int IntKind.i64 (Prod.snd (Prod.snd (Prod.snd (Prod.snd (Prod.snd x)))))]]
        (q131_0 n Post))
      (AWP Tryd.prog 85 n c131_3 [(1, AV.int IntKind.i64 i), (2, AV.ptr 0 0), (5, AV.bool p), (6, AV.bool false)]
        [AObj.cells
         [AV.int IntKind.i64 (Prod.fst x), AV.str { data := List.toArray (Prod.fst (Prod.snd x)) }, AV.int IntKind.i64 (Prod.fst (Prod.snd (Prod.snd x))),
         AV.str { data := List.toArray (Prod.fst (Prod.snd (Prod.snd (Prod.snd x)))) }, AV.int IntKind.i64 (Prod.fst (Prod.snd (Prod.snd (Prod.snd (Prod.snd x))))),
         AV.int IntKind.i64 (Prod.snd (Prod.snd (Prod.snd (Prod.snd (Prod.snd x)))))]]
        (q131_0 n Post)) →
    AWP Tryd.prog 85 n c131_2 [(1, AV.int IntKind.i64 i), (2, AV.ptr 0 0), (5, AV.bool p)] [AObj.cells (T.encSt x)] (q131_0 n Post) := fun x i p n Post h => Go.Ab.awp_sound g131 n _ _ _ _ (Go.Ab.kc (by kernel_rfl) h)
theorem v131_3 : ∀ (x : T.St) (i : Int) (p q : Bool) (n : Nat) (Post : AV → List AObj → Prop),
  condP (Prod.fst x == (1 : Int))
      (condP (Prod.fst x == (1 : Int))
        (ASpec Tryd.prog 50 [AV.str { data := List.toArray (Prod.fst (Prod.snd x)) }]
         [AObj.cells
         [AV.int IntKind.i64 (Prod.fst x), AV.str { data := List.toArray (Prod.fst (Prod.snd x)) }, AV.int IntKind.i64 (Prod.fst (Prod.snd (Prod.snd x))),
         AV.str { data := List.toArray (Prod.fst (Prod.snd (Prod.snd (Prod.snd x)))) }, AV.int IntKind.i64 (Prod.fst (Prod.snd (Prod.snd (Prod.snd (Prod.snd x))))),
         AV.int IntKind.i64 (Prod.snd (Prod.snd (Prod.snd (Prod.snd (Prod.snd x)))))]]
         fun (r : AV) (H' : List AObj) =>
         ∃ (x_1 : Bool),
         r = AV.bool x_1 ∧
         H' =
         [AObj.cells
         [AV.int IntKind.i64 (Prod.fst x), AV.str { data := List.toArray (Prod.fst (Prod.snd x)) }, AV.int IntKind.i64 (Prod.fst (Prod.snd (Prod.snd x))),
         AV.str { data := List.toArray (Prod.fst (Prod.snd (Prod.snd (Prod.snd x)))) }, AV.int IntKind.i64 (Prod.fst (Prod.snd (Prod.snd (Prod.snd (Prod.snd x))))),
         AV.int IntKind.i64 (Prod.snd (Prod.snd (Prod.snd (Prod.snd (Prod.snd x)))))]] ∧
         condP x_1
         (condP p
         (Post (AV.bool q)
         [AObj.cells
         [AV.int IntKind.i64 (Prod.fst x), AV.str { data := List.toArray (Prod.fst (Prod.snd x)) }, AV.int IntKind.i64 (Prod.fst (Prod.snd (Prod.snd x))),
         AV.str { data := List.toArray (Prod.fst (Prod.snd (Prod.snd (Prod.snd x)))) }, AV.int IntKind.i64 (Prod.fst (Prod.snd (Prod.snd (Prod.snd (Prod.snd x))))),
         AV.int IntKind.i64 (Prod.snd (Prod.snd (Prod.snd (Prod.snd (Prod.snd x)))))]])
         (Post (AV.bool false)
         [AObj.cells
         [AV.int IntKind.i64 (Prod.fst x), AV.str { data := List.toArray (Prod.fst (Prod.snd x)) }, AV.int IntKind.i64 (Prod.fst (Prod.snd (Prod.snd x))),
         AV.str { data := List.toArray (Prod.fst (Prod.snd (Prod.snd (Prod.snd x)))) }, AV.int IntKind.i64 (Prod.fst (Prod.snd (Prod.snd (Prod.snd (Prod.snd x))))),
         AV.int IntKind.i64 (Prod.snd (Prod.snd (Prod.snd (Prod.snd (Prod.snd x)))))]]))
         (Post (AV.bool false)
         [AObj.cells
         [AV.int IntKind.i64 (Prod.fst x), AV.str { data := List.toArray (Prod.fst (Prod.snd x)) }, AV.int IntKind.i64 (Prod.fst (Prod.snd (Prod.snd x))),
         AV.str { data := List.toArray (Prod.fst (Prod.snd (Prod.snd (Prod.snd x)))) }, AV.int IntKind.i64 (Prod.fst (Prod.snd (Prod.snd (Prod.snd (Prod.snd x))))),
         AV.int IntKind.i64 (Prod.snd (Prod.snd (Prod.snd (Prod.snd (Prod.snd x)))))]]))
        (condP (Prod.fst x == (3 : Int))
         (ASpec Tryd.prog 50 [AV.str { data := List.toArray (Prod.fst (Prod.snd x)) }]
         [AObj.cells
         [AV.int IntKind.i64 (Prod.fst x), AV.str { data := List.toArray (Prod.fst (Prod.snd x)) }, AV.int IntKind.i64 (Prod.fst (Prod.snd (Prod.snd x))),
         AV.str { data := List.toArray (Prod.fst (Prod.snd (Prod.snd (Prod.snd x)))) }, AV.int IntKind.i64 (Prod.fst (Prod.snd (Prod.snd (Prod.snd (Prod.snd x))))),
         AV.int IntKind.i64 (Prod.snd (Prod.snd (Prod.snd (Prod.snd (Prod.snd x)))))]]
         fun (r : AV) (H' : List AObj) =>
         ∃ (x_1 : Bool),
         r = AV.bool x_1 ∧
         H' =
         [AObj.cells
         [AV.int IntKind.i64 (Prod.fst x), AV.str { data := List.toArray (Prod.fst (Prod.snd x)) }, AV.int IntKind.i64 (Prod.fst (Prod.snd (Prod.snd x))),
         AV.str { data := List.toArray (Prod.fst (Prod.snd (Prod.snd (Prod.snd x)))) }, AV.int IntKind.i64 (Prod.fst (Prod.snd (Prod.snd (Prod.snd (Prod.snd x))))),
         AV.int IntKind.i64 (Prod.snd (Prod.snd (Prod.snd (Prod.snd (Prod.snd x)))))]] ∧
         condP x_1
         (ASpec Tryd.prog 50 [AV.str { data := List.toArray (Prod.fst (Prod.snd (Prod.snd (Prod.snd x)))) }]
         [AObj.cells
         [AV.int IntKind.i64 (Prod.fst x), AV.str { data := List.toArray (Prod.fst (Prod.snd x)) }, AV.int IntKind.i64 (Prod.fst (Prod.snd (Prod.snd x))),
         AV.str { data := List.toArray (Prod.fst (Prod.snd (Prod.snd (Prod.snd x)))) }, AV.int IntKind.i64 (Prod.fst (Prod.snd (Prod.snd (Prod.snd (Prod.snd x))))),
         AV.int IntKind.i64 (Prod.snd (Prod.snd (Prod.snd (Prod.snd (Prod.snd x)))))]]
         fun (r : AV) (H' : List AObj) =>
         ∃ (x_2 : Bool),
         r = AV.bool x_2 ∧
         H' =
         [AObj.cells
         [AV.int IntKind.i64 (Prod.fst x), AV.str { data := List.toArray (Prod.fst (Prod.snd x)) }, AV.int IntKind.i64 (Prod.fst (Prod.snd (Prod.snd x))),
         AV.str { data := List.toArray (Prod.fst (Prod.snd (Prod.snd (Prod.snd x)))) }, AV.int IntKind.i64 (Prod.fst (Prod.snd (Prod.snd (Prod.snd (Prod.snd x))))),
         AV.int IntKind.i64 (Prod.snd (Prod.snd (Prod.snd (Prod.snd (Prod.snd x)))))]] ∧
         condP x_2
         (condP (decide (Prod.fst (Prod.snd (Prod.snd x)) ≥ (0 : Int)))
         (condP (decide (Prod.fst (Prod.snd (Prod.snd x)) < (1000000000 : Int)))
         (Post (AV.bool q)
         [AObj.cells
         [AV.int IntKind.i64 (Prod.fst x), AV.str { data := List.toArray (Prod.fst (Prod.snd x)) }, AV.int IntKind.i64 (Prod.fst (Prod.snd (Prod.snd x))),
         AV.str { data := List.toArray (Prod.fst (Prod.snd (Prod.snd (Prod.snd x)))) }, AV.int IntKind.i64 (Prod.fst (Prod.snd (Prod.snd (Prod.snd (Prod.snd x))))),
         AV.int IntKind.i64 (Prod.snd (Prod.snd (Prod.snd (Prod.snd (Prod.snd x)))))]])
         (Post (AV.bool false)
         [AObj.cells
         [AV.int IntKind.i64 (Prod.fst x), AV.str { data := List.toArray (Prod.fst (Prod.snd x)) }, AV.int IntKind.i64 (Prod.fst (Prod.snd (Prod.snd x))),
         AV.str { data := List.toArray (Prod.fst (Prod.snd (Prod.snd (Prod.snd x)))) }, AV.int IntKind.i64 (Prod.fst (Prod.snd (Prod.snd (Prod.snd (Prod.snd x))))),
         AV.int IntKind.i64 (Prod.snd (Prod.snd (Prod.snd (Prod.snd (Prod.snd x)))))]]))
         (Post (AV.bool false)
         [AObj.cells
         [AV.int IntKind.i64 (Prod.fst x), AV.str { data := List.toArray (Prod.fst (Prod.snd x)) }, AV.int IntKind.i64 (Prod.fst (Prod.snd (Prod.snd x))),
         AV.str { data := List.toArray (Prod.fst (Prod.snd (Prod.snd (Prod.snd x)))) }, AV.int IntKind.i64 (Prod.fst (Prod.snd (Prod.snd (Prod.snd (Prod.snd x))))),
         AV.int IntKind.i64 (Prod.snd (Prod.snd (Prod.snd (Prod.snd (Prod.snd x)))))]]))
         (Post (AV.bool false)
         [AObj.cells
         [AV.int IntKind.i64 (Prod.fst x), AV.str { data := List.toArray (Prod.fst (Prod.snd x)) }, AV.int IntKind.i64 (Prod.fst (Prod.snd (Prod.snd x))),
         AV.str { data := List.toArray (Prod.fst (Prod.snd (Prod.snd (Prod.snd x)))) }, AV.int IntKind.i64 (Prod.fst (Prod.snd (Prod.snd (Prod.snd (Prod.snd x))))),
         AV.int IntKind.i64 (Prod.snd (Prod.snd (Prod.snd (Prod.snd (Prod.snd x)))))]]))
         (Post (AV.bool false)
         [AObj.cells
         [AV.int IntKind.i64 (Prod.fst x), AV.str { data := List.toArray (Prod.fst (Prod.snd x)) }, AV.int IntKind.i64 (Prod.fst (Prod.snd (Prod.snd x))),
         AV.str { data := List.toArray (Prod.fst (Prod.snd (Prod.snd (Prod.snd x)))) }, AV.int IntKind.i64 (Prod.fst (Prod.snd (Prod.snd (Prod.snd (Prod.snd x))))),
         AV.int IntKind.i64 (Prod.snd (Prod.snd (Prod.snd (Prod.snd (Prod.snd x)))))]]))
         (condP (Prod.fst x == (4 : Int))
         (ASpec Tryd.prog 50 [AV.str { data := List.toArray (Prod.fst (Prod.snd x)) }]
         [AObj.cells
         [AV.int IntKind.i64 (Prod.fst x), AV.str { data := List.toArray (Prod.fst (Prod.snd x)) }, AV.int IntKind.i64 (Prod.fst (Prod.snd (Prod.snd x))),
         AV.str { data := List.toArray (Prod.fst (Prod.snd (Prod.snd (Prod.snd x)))) }, AV.int IntKind.i64 (Prod.fst (Prod.snd (Prod.snd (Prod.snd (Prod.snd x))))),
         AV.int IntKind.i64 (Prod.snd (Prod.snd (Prod.snd (Prod.snd (Prod.snd x)))))]]
         fun (r : AV) (H' : List AObj) =>
         ∃ (x_1 : Bool),
         r = AV.bool x_1 ∧
         H' =
         [AObj.cells
         [AV.int IntKind.i64 (Prod.fst x), AV.str { data := List.toArray (Prod.fst (Prod.snd x)) }, AV.int IntKind.i64 (Prod.fst (Prod.snd (Prod.snd x))),
         AV.str { data := List.toArray (Prod.fst (Prod.snd (Prod.snd (Prod.snd x)))) }, AV.int IntKind.i64 (Prod.fst (Prod.snd (Prod.snd (Prod.snd (Prod.snd x))))),
         AV.int IntKind.i64 (Prod.snd (Prod.snd (Prod.snd (Prod.snd (Prod.snd x)))))]] ∧
         condP x_1
         (condP p
         (condP
         (decide
         ((if Prod.snd (Prod.snd (Prod.snd (Prod.snd (Prod.snd x)))) < Prod.fst (Prod.snd (Prod.snd (Prod.snd (Prod.snd x)))) then
         Prod.snd (Prod.snd (Prod.snd (Prod.snd (Prod.snd x))))
         else Prod.fst (Prod.snd (Prod.snd (Prod.snd (Prod.snd x))))) ≥
         (0 : Int)))
         (Post
         (AV.bool
         (decide
         ((if Prod.snd (Prod.snd (Prod.snd (Prod.snd (Prod.snd x)))) > Prod.fst (Prod.snd (Prod.snd (Prod.snd (Prod.snd x)))) then
         Prod.snd (Prod.snd (Prod.snd (Prod.snd (Prod.snd x))))
         else Prod.fst (Prod.snd (Prod.snd (Prod.snd (Prod.snd x))))) <
         i)))
         [AObj.cells
         [AV.int IntKind.i64 (Prod.fst x), AV.str { data := List.toArray (Prod.fst (Prod.snd x)) }, AV.int IntKind.i64 (Prod.fst (Prod.snd (Prod.snd x))),
         AV.str { data := List.toArray (Prod.fst (Prod.snd (Prod.snd (Prod.snd x)))) }, AV.int IntKind.i64 (Prod.fst (Prod.snd (Prod.snd (Prod.snd (Prod.snd x))))),
         AV.int IntKind.i64 (Prod.snd (Prod.snd (Prod.snd (Prod.snd (Prod.snd x)))))]])
         (Post (AV.bool false)
         [AObj.cells
         [AV.int IntKind.i64 (Prod.fst x), AV.str { data := List.toArray (Prod.fst (Prod.snd x)) }, AV.int IntKind.i64 (Prod.fst (Prod.snd (Prod.snd x))),
         AV.str { data := List.toArray (Prod.fst (Prod.snd (Prod.snd (Prod.snd x)))) }, AV.int IntKind.i64 (Prod.fst (Prod.snd (Prod.snd (Prod.snd (Prod.snd x))))),
         AV.int IntKind.i64 (Prod.snd (Prod.snd (Prod.snd (Prod.snd (Prod.snd x)))))]]))
         (Post (AV.bool false)
         [AObj.cells
         [AV.int IntKind.i64 (Prod.fst x), AV.str { data := List.toArray (Prod.fst (Prod.snd x)) }, AV.int IntKind.i64 (Prod.fst (Prod.snd (Prod.snd x))),
         AV.str { data := List.toArray (Prod.fst (Prod.snd (Prod.snd (Prod.snd x)))) }, AV.int IntKind.i64 (Prod.fst (Prod.snd (Prod.snd (Prod.snd (Prod.snd x))))),
         AV.int IntKind.i64 (Prod.snd (Prod.snd (Prod.snd (Prod.snd (Prod.snd x)))))]]))
         (Post (AV.bool false)
         [AObj.cells
         [AV.int IntKind.i64 (Prod.fst x), AV.str { data := List.toArray (Prod.fst (Prod.snd x)) }, AV.int IntKind.i64 (Prod.fst (Prod.snd (Prod.snd x))),
         AV.str { data := List.toArray (Prod.fst (Prod.snd (Prod.snd (Prod.snd x)))) }, AV.int IntKind.i64 (Prod.fst (Prod.snd (Prod.snd (Prod.snd (Prod.snd x))))),
         AV.int IntKind.i64 (Prod.snd (Prod.snd (Prod.snd (Prod.snd (Prod.snd x)))))]]))
         (Post (AV.bool false)
         [AObj.cells
         [AV.int IntKind.i64 (Prod.fst x), AV.str { data := List.toArray (Prod.fst (Prod.snd x)) }, AV.int IntKind.i64 (Prod.fst (Prod.snd (Prod.snd x))),
         AV.str { data := List.toArray (Prod.fst (Prod.snd (Prod.snd (Prod.snd x)))) }, AV.int IntKind.i64 (Prod.fst (Prod.snd (Prod.snd (Prod.snd (Prod.snd x))))),
         AV.int IntKind.i64 (Prod.snd (Prod.snd (Prod.snd (Prod.snd (Prod.snd x)))))]]))))
      (condP (Prod.fst x == (2 : Int))
        (ASpec Tryd.prog 50 [AV.str { data := List.toArray (Prod.fst (Prod.snd x)) }]
         [AObj.cells
         [AV.int IntKind.i64 (Prod.fst x), AV.str { data := List.toArray (Prod.fst (Prod.snd x)) }, AV.int IntKind.i64 (Prod.fst (Prod.snd (Prod.snd x))),
         AV.str { data := List.toArray (Prod.fst (Prod.snd (Prod.snd (Prod.snd x)))) }, AV.int IntKind.i64 (Prod.fst (Prod.snd (Prod.snd (Prod.snd (Prod.snd x))))),
         AV.int IntKind.i64 (Prod.snd (Prod.snd (Prod.snd (Prod.snd (Prod.snd x)))))]]
         fun (r : AV) (H' : List AObj) =>
         ∃ (x_1 : Bool),
         r = AV.bool x_1 ∧
         H' =
         [AObj.cells
         [AV.int IntKind.i64 (Prod.fst x), AV.str { data := List.toArray (Prod.fst (Prod.snd x)) }, AV.int IntKind.i64 (Prod.fst (Prod.snd (Prod.snd x))),
         AV.str { data := List.toArray (Prod.fst (Prod.snd (Prod.snd (Prod.snd x)))) }, AV.int IntKind.i64 (Prod.fst (Prod.snd (Prod.snd (Prod.snd (Prod.snd x))))),
         AV.int IntKind.i64 (Prod.snd (Prod.snd (Prod.snd (Prod.snd (Prod.snd x)))))]] ∧
         condP x_1
         (condP p
         (Post (AV.bool q)
         [AObj.cells
         [AV.int IntKind.i64 (Prod.fst x), AV.str { data := List.toArray (Prod.fst (Prod.snd x)) }, AV.int IntKind.i64 (Prod.fst (Prod.snd (Prod.snd x))),
         AV.str { data := List.toArray (Prod.fst (Prod.snd (Prod.snd (Prod.snd x)))) }, AV.int IntKind.i64 (Prod.fst (Prod.snd (Prod.snd (Prod.snd (Prod.snd x))))),
         AV.int IntKind.i64 (Prod.snd (Prod.snd (Prod.snd (Prod.snd (Prod.snd x)))))]])
         (Post (AV.bool false)
         [AObj.cells
         [AV.int IntKind.i64 (Prod.fst x), AV.str { data := List.toArray (Prod.fst (Prod.snd x)) }, AV.int IntKind.i64 (Prod.fst (Prod.snd (Prod.snd x))),
         AV.str { data := List.toArray (Prod.fst (Prod.snd (Prod.snd (Prod.snd x)))) }, AV.int IntKind.i64 (Prod.fst (Prod.snd (Prod.snd (Prod.snd (Prod.snd x))))),
         AV.int IntKind.i64 (Prod.snd (Prod.snd (Prod.snd (Prod.snd (Prod.snd x)))))]]))
         (Post (AV.bool false)
         [AObj.cells
         [AV.int IntKind.i64 (Prod.fst x), AV.str { data := List.toArray (Prod.fst (Prod.snd x)) }, AV.int IntKind.i64 (Prod.fst (Prod.snd (Prod.snd x))),
         AV.str { data := List.toArray (Prod.fst (Prod.snd (Prod.snd (Prod.snd x)))) }, AV.int IntKind.i64 (Prod.fst (Prod.snd (Prod.snd (Prod.snd (Prod.snd x))))),
         AV.int IntKind.i64 (Prod.snd (Prod.snd (Prod.snd (Prod.snd (Prod.snd x)))))]]))
        (condP (Prod.fst x == (3 : Int))
         (ASpec Tryd.prog 50 [AV.str { data := List.toArray (Prod.fst (Prod.snd x)) }]
         [AObj.cells
         [AV.int IntKind.i64 (Prod.fst x), AV.str { data := List.toArray (Prod.fst (Prod.snd x)) }, AV.int IntKind.i64 (Prod.fst (Prod.snd (Prod.snd x))),
         AV.str { data := List.toArray (Prod.fst (Prod.snd (Prod.snd (Prod.snd x)))) }, AV.int IntKind.i64 (Prod.fst (Prod.snd (Prod.snd (Prod.snd (Prod.snd x))))),
         AV.int IntKind.i64 (Prod.snd (Prod.snd (Prod.snd (Prod.snd (Prod.snd x)))))]]
         fun (r : AV) (H' : List AObj) =>
         ∃ (x_1 : Bool),
         r = AV.bool x_1 ∧
         H' =
         [AObj.cells
         [AV.int IntKind.i64 (Prod.fst x), AV.str { data := List.toArray (Prod.fst (Prod.snd x)) }, AV.int IntKind.i64 (Prod.fst (Prod.snd (Prod.snd x))),
         AV.str { data := List.toArray (Prod.fst (Prod.snd (Prod.snd (Prod.snd x)))) }, AV.int IntKind.i64 (Prod.fst (Prod.snd (Prod.snd (Prod.snd (Prod.snd x))))),
         AV.int IntKind.i64 (Prod.snd (Prod.snd (Prod.snd (Prod.snd (Prod.snd x)))))]] ∧
         condP x_1
         (ASpec Tryd.prog 50 [AV.str { data := List.toArray (Prod.fst (Prod.snd (Prod.snd (Prod.snd x)))) }]
         [AObj.cells
         [AV.int IntKind.i64 (Prod.fst x), AV.str { data := List.toArray (Prod.fst (Prod.snd x)) }, AV.int IntKind.i64 (Prod.fst (Prod.snd (Prod.snd x))),
         AV.str { data := List.toArray (Prod.fst (Prod.snd (Prod.snd (Prod.snd x)))) }, AV.int IntKind.i64 (Prod.fst (Prod.snd (Prod.snd (Prod.snd (Prod.snd x))))),
         AV.int IntKind.i64 (Prod.snd (Prod.snd (Prod.snd (Prod.snd (Prod.snd x)))))]]
         fun (r : AV) (H' : List AObj) =>
         ∃ (x_2 : Bool),
         r = AV.bool x_2 ∧
         H' =
         [AObj.cells
         [AV.int IntKind.i64 (Prod.fst x), AV.str { data := List.toArray (Prod.fst (Prod.snd x)) }, AV.int IntKind.i64 (Prod.fst (Prod.snd (Prod.snd x))),
         AV.str { data := List.toArray (Prod.fst (Prod.snd (Prod.snd (Prod.snd x)))) }, AV.int IntKind.i64 (Prod.fst (Prod.snd (Prod.snd (Prod.snd (Prod.snd x))))),
         AV.int IntKind.i64 (Prod.snd (Prod.snd (Prod.snd (Prod.snd (Prod.snd x)))))]] ∧
         condP x_2
         (condP (decide (Prod.fst (Prod.snd (Prod.snd x)) ≥ (0 : Int)))
         (condP (decide (Prod.fst (Prod.snd (Prod.snd x)) < (1000000000 : Int)))
         (Post (AV.bool q)
         [AObj.cells
         [AV.int IntKind.i64 (Prod.fst x), AV.str { data := List.toArray (Prod.fst (Prod.snd x)) }, AV.int IntKind.i64 (Prod.fst (Prod.snd (Prod.snd x))),
         AV.str { data := List.toArray (Prod.fst (Prod.snd (Prod.snd (Prod.snd x)))) }, AV.int IntKind.i64 (Prod.fst (Prod.snd (Prod.snd (Prod.snd (Prod.snd x))))),
         AV.int IntKind.i64 (Prod.snd (Prod.snd (Prod.snd (Prod.snd (Prod.snd x)))))]])
         (Post (AV.bool false)
         [AObj.cells
         [AV.int IntKind.i64 (Prod.fst x), AV.str { data := List.toArray (Prod.fst (Prod.snd x)) }, AV.int IntKind.i64 (Prod.fst (Prod.snd (Prod.snd x))),
         AV.str { data := List.toArray (Prod.fst (Prod.snd (Prod.snd (Prod.snd x)))) }, AV.int IntKind.i64 (Prod.fst (Prod.snd (Prod.snd (Prod.snd (Prod.snd x))))),
         AV.int IntKind.i64 (Prod.snd (Prod.snd (Prod.snd (Prod.snd (Prod.snd x)))))]]))
         (Post (AV.bool false)
         [AObj.cells
         [AV.int IntKind.i64 (Prod.fst x), AV.str { data := List.toArray (Prod.fst (Prod.snd x)) }, AV.int IntKind.i64 (Prod.fst (Prod.snd (Prod.snd x))),
         AV.str { data := List.toArray (Prod.fst (Prod.snd (Prod.snd (Prod.snd x)))) }, AV.int IntKind.i64 (Prod.fst (Prod.snd (Prod.snd (Prod.snd (Prod.snd x))))),
         AV.int IntKind.i64 (Prod.snd (Prod.snd (Prod.snd (Prod.snd (Prod.snd x)))))]]))
         (Post (AV.bool false)
         [AObj.cells
         [AV.int IntKind.i64 (Prod.fst x), AV.str { data := List.toArray (Prod.fst (Prod.snd x)) }, AV.int IntKind.i64 (Prod.fst (Prod.snd (Prod.snd x))),
         AV.str { data := List.toArray (Prod.fst (Prod.snd (Prod.snd (Prod.snd x)))) }, AV.int IntKind.i64 (Prod.fst (Prod.snd (Prod.snd (Prod.snd (Prod.snd x))))),
         AV.int IntKind.i64 (Prod.snd (Prod.snd (Prod.snd (Prod.snd (Prod.snd x)))))]]))
         (Post (AV.bool false)
         [AObj.cells
         [AV.int IntKind.i64 (Prod.fst x), AV.str { data := List.toArray (Prod.fst (Prod.snd x)) }, AV.int IntKind.i64 (Prod.fst (Prod.snd (Prod.snd x))),
         AV.str { data := List.toArray (Prod.fst (Prod.snd (Prod.snd (Prod.snd x)))) }, AV.int IntKind.i64 (Prod.fst (Prod.snd (Prod.snd (Prod.snd (Prod.snd x))))),
         AV.int IntKind.i64 (Prod.snd (Prod.snd (Prod.snd (Prod.snd (Prod.snd x)))))]]))
         (condP (Prod.fst x == (4 : Int))
         (ASpec Tryd.prog 50 [AV.str { data := List.toArray (Prod.fst (Prod.snd x)) }]
         [AObj.cells
         [AV.int IntKind.i64 (Prod.fst x), AV.str { data := List.toArray (Prod.fst (Prod.snd x)) }, AV.int IntKind.i64 (Prod.fst (Prod.snd (Prod.snd x))),
         AV.str { data := List.toArray (Prod.fst (Prod.snd (Prod.snd (Prod.snd x)))) }, AV.int IntKind.i64 (Prod.fst (Prod.snd (Prod.snd (Prod.snd (Prod.snd x))))),
         AV.int IntKind.i64 (Prod.snd (Prod.snd (Prod.snd (Prod.snd (Prod.snd x)))))]]
         fun (r : AV) (H' : List AObj) =>
         ∃ (x_1 : Bool),
         r = AV.bool x_1 ∧
         H' =
         [AObj.cells
         [AV.int IntKind.i64 (Prod.fst x), AV.str { data := List.toArray (Prod.fst (Prod.snd x)) }, AV.int IntKind.i64 (Prod.fst (Prod.snd (Prod.snd x))),
         AV.str { data := List.toArray (Prod.fst (Prod.snd (Prod.snd (Prod.snd x)))) }, AV.int IntKind.i64 (Prod.fst (Prod.snd (Prod.snd (Prod.snd (Prod.snd x))))),
         AV.int IntKind.i64 (Prod.snd (Prod.snd (Prod.snd (Prod.snd (Prod.snd x)))))]] ∧
         condP x_1
         (condP p
         (condP
         (decide
         ((if Prod.snd (Prod.snd (Prod.snd (Prod.snd (Prod.snd x)))) < Prod.fst (Prod.snd (Prod.snd (Prod.snd (Prod.snd x)))) then
         Prod.snd (Prod.snd (Prod.snd (Prod.snd (Prod.snd x))))
         else Prod.fst (Prod.snd (Prod.snd (Prod.snd (Prod.snd x))))) ≥
         (0 : Int)))
         (Post
         (AV.bool
         (decide
         ((if Prod.snd (Prod.snd (Prod.snd (Prod.snd (Prod.snd x)))) > Prod.fst (Prod.snd (Prod.snd (Prod.snd (Prod.snd x)))) then
         Prod.snd (Prod.snd (Prod.snd (Prod.snd (Prod.snd x))))
         else Prod.fst (Prod.snd (Prod.snd (Prod.snd (Prod.snd x))))) <
         i)))
         [AObj.cells
         [AV.int IntKind.i64 (Prod.fst x), AV.str { data := List.toArray (Prod.fst (Prod.snd x)) }, AV.int IntKind.i64 (Prod.fst (Prod.snd (Prod.snd x))),
         AV.str { data := List.toArray (Prod.fst (Prod.snd (Prod.snd (Prod.snd x)))) }, AV.int IntKind.i64 (Prod.fst (Prod.snd (Prod.snd (Prod.snd (Prod.snd x))))),
         AV.int IntKind.i64 (Prod.snd (Prod.snd (Prod.snd (Prod.snd (Prod.snd x)))))]])
         (Post (AV.bool false)
         [AObj.cells
         [AV.int IntKind.i64 (Prod.fst x), AV.str { data := List.toArray (Prod.fst (Prod.snd x)) }, AV.int IntKind.i64 (Prod.fst (Prod.snd (Prod.snd x))),
         AV.str { data := List.toArray (Prod.fst (Prod.snd (Prod.snd (Prod.snd x)))) }, AV.int IntKind.i64 (Prod.fst (Prod.snd (Prod.snd (Prod.snd (Prod.snd x))))),
         AV.int IntKind.i64 (Prod.snd (Prod.snd (Prod.snd (Prod.snd (Prod.snd x)))))]]))
         (Post (AV.bool false)
         [AObj.cells
         [AV.int IntKind.i64 (Prod.fst x), AV.str { data := List.toArray (Prod.fst (Prod.snd x)) }, AV.int IntKind.i64 (Prod.fst (Prod.snd (Prod.snd x))),
         AV.str { data := List.toArray (Prod.fst (Prod.snd (Prod.snd (Prod.snd x)))) }, AV.int IntKind.i64 (Prod.fst (Prod.snd (Prod.snd (Prod.snd (Prod.snd x))))),
         AV.int IntKind.i64 (Prod.snd (Prod.snd (Prod.snd (Prod.snd (Prod.snd x)))))]]))
         (Post (AV.bool false)
         [AObj.cells
         [AV.int IntKind.i64 (Prod.fst x), AV.str { data := List.toArray (Prod.fst (Prod.snd x)) }, AV.int IntKind.i64 (Prod.fst (Prod.snd (Prod.snd x))),
         AV.str { data := List.toArray (Prod.fst (Prod.snd (Prod.snd (Prod.snd x)))) }, AV.int IntKind.i64 (Prod.fst (Prod.snd (Prod.snd (Prod.snd (Prod.snd x))))),
         AV.int IntKind.i64 (Prod.snd (Prod.snd (Prod.snd (Prod.snd (Prod.snd x)))))]]))
         (Post (AV.bool false)
         [AObj.cells
         [AV.int IntKind.i64 (Prod.fst x), AV.str { data := List.toArray (Prod.fst (Prod.snd x)) }, AV.int IntKind.i64 (Prod.fst (Prod.snd (Prod.snd x))),
         AV.str { data := List.toArray (Prod.fst (Prod.snd (Prod.snd (Prod.snd x)))) }, AV.int IntKind.i64 (Prod.fst (Prod.snd (Prod.snd (Prod.snd (Prod.snd x))))),
         AV.int IntKind.i64 (Prod.snd (Prod.snd (Prod.snd (Prod.snd (Prod.snd x)))))]])))) →
    AWP Tryd.prog 85 n c131_3 [(1, AV.int IntKind.i64 i), (2, AV.ptr 0 0), (5, AV.bool p), (6, AV.bool q)] [AObj.cells (T.encSt x)]
      (q131_0 n Post) := fun x i p q n Post h => Go.Ab.awp_sound g131 n _ _ _ _ (Go.Ab.kc (by kernel_rfl) h)

-- 80
noncomputable def l80 : Nat → List Nat
  | 4 => [13, 14, 15]
  | _ => []
noncomputable def u80 : Nat → Bool
  | _ => false
noncomputable def m80 : Nat → Bool
  | _ => false
noncomputable def g80 : Cfg := { N := 25, live := l80, cut := u80, mu := m80, ret := rets }
noncomputable def c80 : Go.Code := Go.Ab.bodyOf Go.Proofs.Tryd.f80
noncomputable def q80_0 : Nat → (AV → List AObj → Prop) → AQ := fun (n : Nat) (Post : AV → List AObj → Prop) => endQ Tryd.prog (resultsOf Tryd.f80) Post
noncomputable def q80_1 : Nat → (AV → List AObj → Prop) → AQ := fun (n : Nat) (Post : AV → List AObj → Prop) => seqQ (fun (s' : Slots) (H' : List AObj) => awp Tryd.prog g80 n (codeSnd (codeSnd (codeSnd c80))) s' H' (q80_0 n Post)) (q80_0 n Post)
noncomputable def q80_2 : Nat → (AV → List AObj → Prop) → AQ := fun (n : Nat) (Post : AV → List AObj → Prop) => blockQ 0 (q80_1 n Post)
noncomputable def c80_4 : Go.Code := codeFst (codeSnd (codeFst (codeSnd (codeSnd c80))))
theorem s80 : ∀ (l : List T.St) (Post : AV → List AObj → Prop),
  condP ((↑(List.length l) : Int) == (0 : Int)) (Post (AV.bool false) [])
      (condP (decide ((↑(List.length l) : Int) > (1048576 : Int))) (Post (AV.bool false) [])
        (AWP Tryd.prog 25 0 c80_4
         [(13, AV.sl 6 (Seq.map T.encSt T.noSt l) Tip.none), (14, AV.int IntKind.i64 (↑(List.length l) : Int)), (15, AV.int IntKind.i64 (0 : Int))] []
         (q80_2 0 Post))) →
    ASpec Tryd.prog 80 [AV.sl 6 (Seq.map T.encSt T.noSt l) Tip.none] [] Post := fun l Post h => Go.Ab.ASpec.of_vc g80 Go.Proofs.Tryd.func80 (by kernel_rfl) (by kernel_rfl) (by kernel_rfl) (Go.Ab.kc (by kernel_rfl) h)
theorem v80_4 : ∀ (l : List T.St) (n i : Int) (n_1 : Nat) (Post : AV → List AObj → Prop),
  condP (decide (i < n))
      (needP ((0 : Int) ≤ i ∧ i < (↑(List.length l) : Int))
        (ASpec Tryd.prog 131
         [AV.agg
         [AV.int IntKind.i64 (Prod.fst (List.getD l (Int.toNat i) T.noSt)), AV.str { data := List.toArray (Prod.fst (Prod.snd (List.getD l (Int.toNat i) T.noSt))) },
         AV.int IntKind.i64 (Prod.fst (Prod.snd (Prod.snd (List.getD l (Int.toNat i) T.noSt)))),
         AV.str { data := List.toArray (Prod.fst (Prod.snd (Prod.snd (Prod.snd (List.getD l (Int.toNat i) T.noSt))))) },
         AV.int IntKind.i64 (Prod.fst (Prod.snd (Prod.snd (Prod.snd (Prod.snd (List.getD l (Int.toNat i) T.noSt)))))),
         AV.int IntKind.i64 (Prod.snd (Prod.snd (Prod.snd (Prod.snd (Prod.snd (List.getD l (Int.toNat i) T.noSt))))))],
         AV.int IntKind.i64 i]
         [AObj.cells
         [AV.int IntKind.i64 (Prod.fst (List.getD l (Int.toNat i) T.noSt)), AV.str { data := List.toArray (Prod.fst (Prod.snd (List.getD l (Int.toNat i) T.noSt))) },
         AV.int IntKind.i64 (Prod.fst (Prod.snd (Prod.snd (List.getD l (Int.toNat i) T.noSt)))),
         AV.str { data := List.toArray (Prod.fst (Prod.snd (Prod.snd (Prod.snd (List.getD l (Int.toNat i) T.noSt))))) },
         AV.int IntKind.i64 (Prod.fst (Prod.snd (Prod.snd (Prod.snd (Prod.snd (List.getD l (Int.toNat i) T.noSt)))))),
         AV.int IntKind.i64 (Prod.snd (Prod.snd (Prod.snd (Prod.snd (Prod.snd (List.getD l (Int.toNat i) T.noSt))))))]]
         fun (r : AV) (H' : List AObj) =>
         ∃ (x : Bool),
         r = AV.bool x ∧
         H' =
         [AObj.cells
         [AV.int IntKind.i64 (Prod.fst (List.getD l (Int.toNat i) T.noSt)), AV.str { data := List.toArray (Prod.fst (Prod.snd (List.getD l (Int.toNat i) T.noSt))) },
         AV.int IntKind.i64 (Prod.fst (Prod.snd (Prod.snd (List.getD l (Int.toNat i) T.noSt)))),
         AV.str { data := List.toArray (Prod.fst (Prod.snd (Prod.snd (Prod.snd (List.getD l (Int.toNat i) T.noSt))))) },
         AV.int IntKind.i64 (Prod.fst (Prod.snd (Prod.snd (Prod.snd (Prod.snd (List.getD l (Int.toNat i) T.noSt)))))),
         AV.int IntKind.i64 (Prod.snd (Prod.snd (Prod.snd (Prod.snd (Prod.snd (List.getD l (Int.toNat i) T.noSt))))))]] ∧
         condP (!x)
         (Post (AV.bool false)
         [AObj.cells
         [AV.int IntKind.i64 (Prod.fst (List.getD l (Int.toNat i) T.noSt)), AV.str { data := List.toArray (Prod.fst (Prod.snd (List.getD l (Int.toNat i) T.noSt))) },
         AV.int IntKind.i64 (Prod.fst (Prod.snd (Prod.snd (List.getD l (Int.toNat i) T.noSt)))),
         AV.str { data := List.toArray (Prod.fst (Prod.snd (Prod.snd (Prod.snd (List.getD l (Int.toNat i) T.noSt))))) },
         AV.int IntKind.i64 (Prod.fst (Prod.snd (Prod.snd (Prod.snd (Prod.snd (List.getD l (Int.toNat i) T.noSt)))))),
         AV.int IntKind.i64 (Prod.snd (Prod.snd (Prod.snd (Prod.snd (Prod.snd (List.getD l (Int.toNat i) T.noSt))))))]])
         (AWP Tryd.prog 25 n_1 c80_4
         [(13, AV.sl 6 (Seq.map T.encSt T.noSt l) Tip.none), (14, AV.int IntKind.i64 n), (15, AV.int IntKind.i64 (IntKind.wrap IntKind.i64 (i + (1 : Int))))]
         [AObj.cells
         [AV.int IntKind.i64 (Prod.fst (List.getD l (Int.toNat i) T.noSt)), AV.str { data := List.toArray (Prod.fst (Prod.snd (List.getD l (Int.toNat i) T.noSt))) },
         AV.int IntKind.i64 (Prod.fst (Prod.snd (Prod.snd (List.getD l (Int.toNat i) T.noSt)))),
         AV.str { data := List.toArray (Prod.fst (Prod.snd (Prod.snd (Prod.snd (List.getD l (Int.toNat i) T.noSt))))) },
         AV.int IntKind.i64 (Prod.fst (Prod.snd (Prod.snd (Prod.snd (Prod.snd (List.getD l (Int.toNat i) T.noSt)))))),
         AV.int IntKind.i64 (Prod.snd (Prod.snd (Prod.snd (Prod.snd (Prod.snd (List.getD l (Int.toNat i) T.noSt))))))]]
         (q80_2 n_1 Post))))
      (Post (AV.bool true) []) →
    AWP Tryd.prog 25 n_1 c80_4 [(13, AV.sl 6 (Seq.map T.encSt T.noSt l) Tip.none), (14, AV.int IntKind.i64 n), (15, AV.int IntKind.i64 i)] [] (q80_2 n_1 Post) := fun l n i n Post h => Go.Ab.AWP.loop' g80 (Cfg.live g80) c80_4 (by kernel_rfl) (by kernel_rfl) (Go.Ab.kc (by kernel_rfl) h)

-- 132
noncomputable def l132 : Nat → List Nat
  | 3 => [1, 2]
  | 5 => [1, 2]
  | _ => []
noncomputable def u132 : Nat → Bool
  | 3 => true
  | 5 => true
  | _ => false
noncomputable def m132 : Nat → Bool
  | _ => false
noncomputable def g132 : Cfg := { N := 80, live := l132, cut := u132, mu := m132, ret := rets }
noncomputable def c132 : Go.Code := Go.Ab.bodyOf Go.Proofs.Tryd.f132
noncomputable def q132_0 : Nat → (AV → List AObj → Prop) → AQ := fun (n : Nat) (Post : AV → List AObj → Prop) => endQ Tryd.prog (resultsOf Tryd.f132) Post
noncomputable def c132_3 : Go.Code := codeSnd (codeSnd c132)
theorem s132 : ∀ (x : T.St) (i : Int) (Post : AV → List AObj → Prop),
  condP (decide (Prod.fst x < (1 : Int)))
      (Post (AV.bool false)
        [AObj.cells
         [AV.int IntKind.i64 (Prod.fst x), AV.str { data := List.toArray (Prod.fst (Prod.snd x)) }, AV.int IntKind.i64 (Prod.fst (Prod.snd (Prod.snd x))),
         AV.str { data := List.toArray (Prod.fst (Prod.snd (Prod.snd (Prod.snd x)))) }, AV.int IntKind.i64 (Prod.fst (Prod.snd (Prod.snd (Prod.snd (Prod.snd x))))),
         AV.int IntKind.i64 (Prod.snd (Prod.snd (Prod.snd (Prod.snd (Prod.snd x)))))]])
      (condP (decide (Prod.fst x > (4 : Int)))
        (Post (AV.bool false)
         [AObj.cells
         [AV.int IntKind.i64 (Prod.fst x), AV.str { data := List.toArray (Prod.fst (Prod.snd x)) }, AV.int IntKind.i64 (Prod.fst (Prod.snd (Prod.snd x))),
         AV.str { data := List.toArray (Prod.fst (Prod.snd (Prod.snd (Prod.snd x)))) }, AV.int IntKind.i64 (Prod.fst (Prod.snd (Prod.snd (Prod.snd (Prod.snd x))))),
         AV.int IntKind.i64 (Prod.snd (Prod.snd (Prod.snd (Prod.snd (Prod.snd x)))))]])
        (ASpec Tryd.prog 59 [AV.str { data := List.toArray (Prod.fst (Prod.snd x)) }]
         [AObj.cells
         [AV.int IntKind.i64 (Prod.fst x), AV.str { data := List.toArray (Prod.fst (Prod.snd x)) }, AV.int IntKind.i64 (Prod.fst (Prod.snd (Prod.snd x))),
         AV.str { data := List.toArray (Prod.fst (Prod.snd (Prod.snd (Prod.snd x)))) }, AV.int IntKind.i64 (Prod.fst (Prod.snd (Prod.snd (Prod.snd (Prod.snd x))))),
         AV.int IntKind.i64 (Prod.snd (Prod.snd (Prod.snd (Prod.snd (Prod.snd x)))))]]
         fun (r : AV) (H' : List AObj) =>
         ∃ (x_1 : Bool),
         r = AV.bool x_1 ∧
         H' =
         [AObj.cells
         [AV.int IntKind.i64 (Prod.fst x), AV.str { data := List.toArray (Prod.fst (Prod.snd x)) }, AV.int IntKind.i64 (Prod.fst (Prod.snd (Prod.snd x))),
         AV.str { data := List.toArray (Prod.fst (Prod.snd (Prod.snd (Prod.snd x)))) }, AV.int IntKind.i64 (Prod.fst (Prod.snd (Prod.snd (Prod.snd (Prod.snd x))))),
         AV.int IntKind.i64 (Prod.snd (Prod.snd (Prod.snd (Prod.snd (Prod.snd x)))))]] ∧
         condP (!x_1)
         (Post (AV.bool false)
         [AObj.cells
         [AV.int IntKind.i64 (Prod.fst x), AV.str { data := List.toArray (Prod.fst (Prod.snd x)) }, AV.int IntKind.i64 (Prod.fst (Prod.snd (Prod.snd x))),
         AV.str { data := List.toArray (Prod.fst (Prod.snd (Prod.snd (Prod.snd x)))) }, AV.int IntKind.i64 (Prod.fst (Prod.snd (Prod.snd (Prod.snd (Prod.snd x))))),
         AV.int IntKind.i64 (Prod.snd (Prod.snd (Prod.snd (Prod.snd (Prod.snd x)))))]])
         (AWP Tryd.prog 80 0 c132_3 [(1, AV.int IntKind.i64 i), (2, AV.ptr 0 0)]
         [AObj.cells
         [AV.int IntKind.i64 (Prod.fst x), AV.str { data := List.toArray (Prod.fst (Prod.snd x)) }, AV.int IntKind.i64 (Prod.fst (Prod.snd (Prod.snd x))),
         AV.str { data := List.toArray (Prod.fst (Prod.snd (Prod.snd (Prod.snd x)))) }, AV.int IntKind.i64 (Prod.fst (Prod.snd (Prod.snd (Prod.snd (Prod.snd x))))),
         AV.int IntKind.i64 (Prod.snd (Prod.snd (Prod.snd (Prod.snd (Prod.snd x)))))]]
         (q132_0 0 Post)))) →
    ASpec Tryd.prog 132 [AV.agg (T.encSt x), AV.int IntKind.i64 i] [] Post := fun x i Post h => Go.Ab.ASpec.of_vc g132 Go.Proofs.Tryd.func132 (by kernel_rfl) (by kernel_rfl) (by kernel_rfl) (Go.Ab.kc (by kernel_rfl) h)
noncomputable def c132_5 : Go.Code := codeSnd c132_3
theorem v132_3 : ∀ (x : T.St) (i : Int) (n : Nat) (Post : AV → List AObj → Prop),
  condP (Prod.fst x == (3 : Int))
      (ASpec Tryd.prog 59 [AV.str { data := List.toArray (Prod.fst (Prod.snd (Prod.snd (Prod.snd x)))) }]
        [AObj.cells
         [AV.int IntKind.i64 (Prod.fst x), AV.str { data := List.toArray (Prod.fst (Prod.snd x)) }, AV.int IntKind.i64 (Prod.fst (Prod.snd (Prod.snd x))),
         AV.str { data := List.toArray (Prod.fst (Prod.snd (Prod.snd (Prod.snd x)))) }, AV.int IntKind.i64 (Prod.fst (Prod.snd (Prod.snd (Prod.snd (Prod.snd x))))),
         AV.int IntKind.i64 (Prod.snd (Prod.snd (Prod.snd (Prod.snd (Prod.snd x)))))]]
        fun (r : AV) (H' : List AObj) =>
        ∃ (x_1 : Bool),
         r = AV.bool x_1 ∧
         H' =
         [AObj.cells
         [AV.int IntKind.i64 (Prod.fst x), AV.str { data := List.toArray (Prod.fst (Prod.snd x)) }, AV.int IntKind.i64 (Prod.fst (Prod.snd (Prod.snd x))),
         AV.str { data := List.toArray (Prod.fst (Prod.snd (Prod.snd (Prod.snd x)))) }, AV.int IntKind.i64 (Prod.fst (Prod.snd (Prod.snd (Prod.snd (Prod.snd x))))),
         AV.int IntKind.i64 (Prod.snd (Prod.snd (Prod.snd (Prod.snd (Prod.snd x)))))]] ∧
         condP (!x_1)
         (Post (AV.bool false)
         [AObj.cells
         [AV.int IntKind.i64 (Prod.fst x), AV.str { data := List.toArray (Prod.fst (Prod.snd x)) }, AV.int IntKind.i64 (Prod.fst (Prod.snd (Prod.snd x))),
         AV.str { data := List.toArray (Prod.fst (Prod.snd (Prod.snd (Prod.snd x)))) }, AV.int IntKind.i64 (Prod.fst (Prod.snd (Prod.snd (Prod.snd (Prod.snd x))))),
         AV.int IntKind.i64 (Prod.snd (Prod.snd (Prod.snd (Prod.snd (Prod.snd x)))))]])
         (ASpec Tryd.prog 71 [AV.int IntKind.i64 (Prod.fst (Prod.snd (Prod.snd x)))]
         [AObj.cells
         [AV.int IntKind.i64 (Prod.fst x), AV.str { data := List.toArray (Prod.fst (Prod.snd x)) }, AV.int IntKind.i64 (Prod.fst (Prod.snd (Prod.snd x))),
         AV.str { data := List.toArray (Prod.fst (Prod.snd (Prod.snd (Prod.snd x)))) }, AV.int IntKind.i64 (Prod.fst (Prod.snd (Prod.snd (Prod.snd (Prod.snd x))))),
         AV.int IntKind.i64 (Prod.snd (Prod.snd (Prod.snd (Prod.snd (Prod.snd x)))))]]
         fun (r : AV) (H' : List AObj) =>
         ∃ (x_2 : Bool),
         r = AV.bool x_2 ∧
         H' =
         [AObj.cells
         [AV.int IntKind.i64 (Prod.fst x), AV.str { data := List.toArray (Prod.fst (Prod.snd x)) }, AV.int IntKind.i64 (Prod.fst (Prod.snd (Prod.snd x))),
         AV.str { data := List.toArray (Prod.fst (Prod.snd (Prod.snd (Prod.snd x)))) }, AV.int IntKind.i64 (Prod.fst (Prod.snd (Prod.snd (Prod.snd (Prod.snd x))))),
         AV.int IntKind.i64 (Prod.snd (Prod.snd (Prod.snd (Prod.snd (Prod.snd x)))))]] ∧
         condP (!x_2)
         (Post (AV.bool false)
         [AObj.cells
         [AV.int IntKind.i64 (Prod.fst x), AV.str { data := List.toArray (Prod.fst (Prod.snd x)) }, AV.int IntKind.i64 (Prod.fst (Prod.snd (Prod.snd x))),
         AV.str { data := List.toArray (Prod.fst (Prod.snd (Prod.snd (Prod.snd x)))) }, AV.int IntKind.i64 (Prod.fst (Prod.snd (Prod.snd (Prod.snd (Prod.snd x))))),
         AV.int IntKind.i64 (Prod.snd (Prod.snd (Prod.snd (Prod.snd (Prod.snd x)))))]])
         (condP (Prod.fst x != (3 : Int))
         (condP (!ByteArray.toList { data := List.toArray (Prod.fst (Prod.snd (Prod.snd (Prod.snd x)))) } == ByteArray.toList { data := #[] })
         (Post (AV.bool false)
         [AObj.cells
         [AV.int IntKind.i64 (Prod.fst x), AV.str { data := List.toArray (Prod.fst (Prod.snd x)) }, AV.int IntKind.i64 (Prod.fst (Prod.snd (Prod.snd x))),
         AV.str { data := List.toArray (Prod.fst (Prod.snd (Prod.snd (Prod.snd x)))) }, AV.int IntKind.i64 (Prod.fst (Prod.snd (Prod.snd (Prod.snd (Prod.snd x))))),
         AV.int IntKind.i64 (Prod.snd (Prod.snd (Prod.snd (Prod.snd (Prod.snd x)))))]])
         (condP (Prod.fst (Prod.snd (Prod.snd x)) != (0 : Int))
         (Post (AV.bool false)
         [AObj.cells
         [AV.int IntKind.i64 (Prod.fst x), AV.str { data := List.toArray (Prod.fst (Prod.snd x)) }, AV.int IntKind.i64 (Prod.fst (Prod.snd (Prod.snd x))),
         AV.str { data := List.toArray (Prod.fst (Prod.snd (Prod.snd (Prod.snd x)))) }, AV.int IntKind.i64 (Prod.fst (Prod.snd (Prod.snd (Prod.snd (Prod.snd x))))),
         AV.int IntKind.i64 (Prod.snd (Prod.snd (Prod.snd (Prod.snd (Prod.snd x)))))]])
         (AWP Tryd.prog 80 n c132_5 [(1, AV.int IntKind.i64 i), (2, AV.ptr 0 0)]
         [AObj.cells
         [AV.int IntKind.i64 (Prod.fst x), AV.str { data := List.toArray (Prod.fst (Prod.snd x)) }, AV.int IntKind.i64 (Prod.fst (Prod.snd (Prod.snd x))),
         AV.str { data := List.toArray (Prod.fst (Prod.snd (Prod.snd (Prod.snd x)))) }, AV.int IntKind.i64 (Prod.fst (Prod.snd (Prod.snd (Prod.snd (Prod.snd x))))),
         AV.int IntKind.i64 (Prod.snd (Prod.snd (Prod.snd (Prod.snd (Prod.snd x)))))]]
         (q132_0 n Post))))
         (AWP Tryd.prog 80 n c132_5 [(1, AV.int IntKind.i64 i), (2, AV.ptr 0 0)]
         [AObj.cells
         [AV.int IntKind.i64 (Prod.fst x), AV.str { data := List.toArray (Prod.fst (Prod.snd x)) }, AV.int IntKind.i64 (Prod.fst (Prod.snd (Prod.snd x))),
         AV.str { data := List.toArray (Prod.fst (Prod.snd (Prod.snd (Prod.snd x)))) }, AV.int IntKind.i64 (Prod.fst (Prod.snd (Prod.snd (Prod.snd (Prod.snd x))))),
         AV.int IntKind.i64 (Prod.snd (Prod.snd (Prod.snd (Prod.snd (Prod.snd x)))))]]
         (q132_0 n Post)))))
      (condP (Prod.fst x != (3 : Int))
        (condP (!ByteArray.toList { data := List.toArray (Prod.fst (Prod.snd (Prod.snd (Prod.snd x)))) } == ByteArray.toList { data := #[] })
         (Post (AV.bool false)
         [AObj.cells
         [AV.int IntKind.i64 (Prod.fst x), AV.str { data := List.toArray (Prod.fst (Prod.snd x)) }, AV.int IntKind.i64 (Prod.fst (Prod.snd (Prod.snd x))),
         AV.str { data := List.toArray (Prod.fst (Prod.snd (Prod.snd (Prod.snd x)))) }, AV.int IntKind.i64 (Prod.fst (Prod.snd (Prod.snd (Prod.snd (Prod.snd x))))),
         AV.int IntKind.i64 (Prod.snd (Prod.snd (Prod.snd (Prod.snd (Prod.snd x)))))]])
         (condP (Prod.fst (Prod.snd (Prod.snd x)) != (0 : Int))
         (Post (AV.bool false)
         [AObj.cells
         [AV.int IntKind.i64 (Prod.fst x), AV.str { data := List.toArray (Prod.fst (Prod.snd x)) }, AV.int IntKind.i64 (Prod.fst (Prod.snd (Prod.snd x))),
         AV.str { data := List.toArray (Prod.fst (Prod.snd (Prod.snd (Prod.snd x)))) }, AV.int IntKind.i64 (Prod.fst (Prod.snd (Prod.snd (Prod.snd (Prod.snd x))))),
         AV.int IntKind.i64 (Prod.snd (Prod.snd (Prod.snd (Prod.snd (Prod.snd x)))))]])
         (AWP Tryd.prog 80 n c132_5 [(1, AV.int IntKind.i64 i), (2, AV.ptr 0 0)]
         [AObj.cells
         [AV.int IntKind.i64 (Prod.fst x), AV.str { data := List.toArray (Prod.fst (Prod.snd x)) }, AV.int IntKind.i64 (Prod.fst (Prod.snd (Prod.snd x))),
         AV.str { data := List.toArray (Prod.fst (Prod.snd (Prod.snd (Prod.snd x)))) }, AV.int IntKind.i64 (Prod.fst (Prod.snd (Prod.snd (Prod.snd (Prod.snd x))))),
         AV.int IntKind.i64 (Prod.snd (Prod.snd (Prod.snd (Prod.snd (Prod.snd x)))))]]
         (q132_0 n Post))))
        (AWP Tryd.prog 80 n c132_5 [(1, AV.int IntKind.i64 i), (2, AV.ptr 0 0)]
         [AObj.cells
         [AV.int IntKind.i64 (Prod.fst x), AV.str { data := List.toArray (Prod.fst (Prod.snd x)) }, AV.int IntKind.i64 (Prod.fst (Prod.snd (Prod.snd x))),
         AV.str { data := List.toArray (Prod.fst (Prod.snd (Prod.snd (Prod.snd x)))) }, AV.int IntKind.i64 (Prod.fst (Prod.snd (Prod.snd (Prod.snd (Prod.snd x))))),
         AV.int IntKind.i64 (Prod.snd (Prod.snd (Prod.snd (Prod.snd (Prod.snd x)))))]]
         (q132_0 n Post))) →
    AWP Tryd.prog 80 n c132_3 [(1, AV.int IntKind.i64 i), (2, AV.ptr 0 0)] [AObj.cells (T.encSt x)] (q132_0 n Post) := fun x i n Post h => Go.Ab.awp_sound g132 n _ _ _ _ (Go.Ab.kc (by kernel_rfl) h)
theorem v132_5 : ∀ (x : T.St) (i : Int) (n : Nat) (Post : AV → List AObj → Prop),
  condP (Prod.fst x == (4 : Int))
      (condP (decide (Prod.fst (Prod.snd (Prod.snd (Prod.snd (Prod.snd x)))) ≥ (0 : Int)))
        (condP (decide (Prod.fst (Prod.snd (Prod.snd (Prod.snd (Prod.snd x)))) < i))
         (condP (decide (Prod.snd (Prod.snd (Prod.snd (Prod.snd (Prod.snd x)))) ≥ (0 : Int)))
         (Post (AV.bool (decide (Prod.snd (Prod.snd (Prod.snd (Prod.snd (Prod.snd x)))) < i)))
         [AObj.cells
         [AV.int IntKind.i64 (Prod.fst x), AV.str { data := List.toArray (Prod.fst (Prod.snd x)) }, AV.int IntKind.i64 (Prod.fst (Prod.snd (Prod.snd x))),
         AV.str { data := List.toArray (Prod.fst (Prod.snd (Prod.snd (Prod.snd x)))) }, AV.int IntKind.i64 (Prod.fst (Prod.snd (Prod.snd (Prod.snd (Prod.snd x))))),
         AV.int IntKind.i64 (Prod.snd (Prod.snd (Prod.snd (Prod.snd (Prod.snd x)))))]])
         (Post (AV.bool false)
         [AObj.cells
         [AV.int IntKind.i64 (Prod.fst x), AV.str { data := List.toArray (Prod.fst (Prod.snd x)) }, AV.int IntKind.i64 (Prod.fst (Prod.snd (Prod.snd x))),
         AV.str { data := List.toArray (Prod.fst (Prod.snd (Prod.snd (Prod.snd x)))) }, AV.int IntKind.i64 (Prod.fst (Prod.snd (Prod.snd (Prod.snd (Prod.snd x))))),
         AV.int IntKind.i64 (Prod.snd (Prod.snd (Prod.snd (Prod.snd (Prod.snd x)))))]]))
         (Post (AV.bool false)
         [AObj.cells
         [AV.int IntKind.i64 (Prod.fst x), AV.str { data := List.toArray (Prod.fst (Prod.snd x)) }, AV.int IntKind.i64 (Prod.fst (Prod.snd (Prod.snd x))),
         AV.str { data := List.toArray (Prod.fst (Prod.snd (Prod.snd (Prod.snd x)))) }, AV.int IntKind.i64 (Prod.fst (Prod.snd (Prod.snd (Prod.snd (Prod.snd x))))),
         AV.int IntKind.i64 (Prod.snd (Prod.snd (Prod.snd (Prod.snd (Prod.snd x)))))]]))
        (Post (AV.bool false)
         [AObj.cells
         [AV.int IntKind.i64 (Prod.fst x), AV.str { data := List.toArray (Prod.fst (Prod.snd x)) }, AV.int IntKind.i64 (Prod.fst (Prod.snd (Prod.snd x))),
         AV.str { data := List.toArray (Prod.fst (Prod.snd (Prod.snd (Prod.snd x)))) }, AV.int IntKind.i64 (Prod.fst (Prod.snd (Prod.snd (Prod.snd (Prod.snd x))))),
         AV.int IntKind.i64 (Prod.snd (Prod.snd (Prod.snd (Prod.snd (Prod.snd x)))))]]))
      (condP (Prod.fst (Prod.snd (Prod.snd (Prod.snd (Prod.snd x)))) == (0 : Int))
        (Post (AV.bool (Prod.snd (Prod.snd (Prod.snd (Prod.snd (Prod.snd x)))) == (0 : Int)))
         [AObj.cells
         [AV.int IntKind.i64 (Prod.fst x), AV.str { data := List.toArray (Prod.fst (Prod.snd x)) }, AV.int IntKind.i64 (Prod.fst (Prod.snd (Prod.snd x))),
         AV.str { data := List.toArray (Prod.fst (Prod.snd (Prod.snd (Prod.snd x)))) }, AV.int IntKind.i64 (Prod.fst (Prod.snd (Prod.snd (Prod.snd (Prod.snd x))))),
         AV.int IntKind.i64 (Prod.snd (Prod.snd (Prod.snd (Prod.snd (Prod.snd x)))))]])
        (Post (AV.bool false)
         [AObj.cells
         [AV.int IntKind.i64 (Prod.fst x), AV.str { data := List.toArray (Prod.fst (Prod.snd x)) }, AV.int IntKind.i64 (Prod.fst (Prod.snd (Prod.snd x))),
         AV.str { data := List.toArray (Prod.fst (Prod.snd (Prod.snd (Prod.snd x)))) }, AV.int IntKind.i64 (Prod.fst (Prod.snd (Prod.snd (Prod.snd (Prod.snd x))))),
         AV.int IntKind.i64 (Prod.snd (Prod.snd (Prod.snd (Prod.snd (Prod.snd x)))))]])) →
    AWP Tryd.prog 80 n c132_5 [(1, AV.int IntKind.i64 i), (2, AV.ptr 0 0)] [AObj.cells (T.encSt x)] (q132_0 n Post) := fun x i n Post h => Go.Ab.awp_sound g132 n _ _ _ _ (Go.Ab.kc (by kernel_rfl) h)

-- 81
noncomputable def l81 : Nat → List Nat
  | 4 => [0, 3]
  | _ => []
noncomputable def u81 : Nat → Bool
  | _ => false
noncomputable def m81 : Nat → Bool
  | _ => false
noncomputable def g81 : Cfg := { N := 23, live := l81, cut := u81, mu := m81, ret := rets }
noncomputable def c81 : Go.Code := Go.Ab.bodyOf Go.Proofs.Tryd.f81
noncomputable def q81_0 : Nat → (AV → List AObj → Prop) → AQ := fun (n : Nat) (Post : AV → List AObj → Prop) => endQ Tryd.prog (resultsOf Tryd.f81) Post
noncomputable def q81_1 : Nat → (AV → List AObj → Prop) → AQ := fun (n : Nat) (Post : AV → List AObj → Prop) => seqQ (fun (s' : Slots) (H' : List AObj) => awp Tryd.prog g81 n (codeSnd (codeSnd (codeSnd c81))) s' H' (q81_0 n Post)) (q81_0 n Post)
noncomputable def q81_2 : Nat → (AV → List AObj → Prop) → AQ := fun (n : Nat) (Post : AV → List AObj → Prop) => blockQ 0 (q81_1 n Post)
noncomputable def c81_4 : Go.Code := codeFst (codeSnd (codeFst (codeSnd (codeSnd c81))))
theorem s81 : ∀ (l : List T.St) (Post : AV → List AObj → Prop),
  condP (decide ((↑(List.length l) : Int) > (1048576 : Int))) (Post (AV.bool false) [])
      (AWP Tryd.prog 23 0 c81_4 [(0, AV.sl 6 (Seq.map T.encSt T.noSt l) Tip.none), (3, AV.int IntKind.i64 (0 : Int))] [] (q81_2 0 Post)) →
    ASpec Tryd.prog 81 [AV.sl 6 (Seq.map T.encSt T.noSt l) Tip.none] [] Post := fun l Post h => Go.Ab.ASpec.of_vc g81 Go.Proofs.Tryd.func81 (by kernel_rfl) (by kernel_rfl) (by kernel_rfl) (Go.Ab.kc (by kernel_rfl) h)
theorem v81_4 : ∀ (l : List T.St) (i : Int) (n : Nat) (Post : AV → List AObj → Prop),
  condP (decide (i < (↑(List.length l) : Int)))
      (needP ((0 : Int) ≤ i ∧ i < (↑(List.length l) : Int))
        (ASpec Tryd.prog 132
         [AV.agg
         [AV.int IntKind.i64 (Prod.fst (List.getD l (Int.toNat i) T.noSt)), AV.str { data := List.toArray (Prod.fst (Prod.snd (List.getD l (Int.toNat i) T.noSt))) },
         AV.int IntKind.i64 (Prod.fst (Prod.snd (Prod.snd (List.getD l (Int.toNat i) T.noSt)))),
         AV.str { data := List.toArray (Prod.fst (Prod.snd (Prod.snd (Prod.snd (List.getD l (Int.toNat i) T.noSt))))) },
         AV.int IntKind.i64 (Prod.fst (Prod.snd (Prod.snd (Prod.snd (Prod.snd (List.getD l (Int.toNat i) T.noSt)))))),
         AV.int IntKind.i64 (Prod.snd (Prod.snd (Prod.snd (Prod.snd (Prod.snd (List.getD l (Int.toNat i) T.noSt))))))],
         AV.int IntKind.i64 i]
         [] fun (r : AV) (H' : List AObj) =>
         ∃ (x : Bool),
         r = AV.bool x ∧
         H' = [] ∧
         condP (!x) (Post (AV.bool false) [])
         (AWP Tryd.prog 23 n c81_4 [(0, AV.sl 6 (Seq.map T.encSt T.noSt l) Tip.none), (3, AV.int IntKind.i64 (IntKind.wrap IntKind.i64 (i + (1 : Int))))] []
         (q81_2 n Post))))
      (Post (AV.bool (decide ((↑(List.length l) : Int) ≥ (1 : Int)))) []) →
    AWP Tryd.prog 23 n c81_4 [(0, AV.sl 6 (Seq.map T.encSt T.noSt l) Tip.none), (3, AV.int IntKind.i64 i)] [] (q81_2 n Post) := fun l i n Post h => Go.Ab.AWP.loop' g81 (Cfg.live g81) c81_4 (by kernel_rfl) (by kernel_rfl) (Go.Ab.kc (by kernel_rfl) h)

-- 84
noncomputable def l84 : Nat → List Nat
  | 4 => [0, 1, 5]
  | _ => []
noncomputable def u84 : Nat → Bool
  | _ => false
noncomputable def m84 : Nat → Bool
  | _ => false
noncomputable def g84 : Cfg := { N := 26, live := l84, cut := u84, mu := m84, ret := rets }
noncomputable def c84 : Go.Code := Go.Ab.bodyOf Go.Proofs.Tryd.f84
noncomputable def q84_0 : Nat → (AV → List AObj → Prop) → AQ := fun (n : Nat) (Post : AV → List AObj → Prop) => endQ Tryd.prog (resultsOf Tryd.f84) Post
noncomputable def q84_1 : Nat → (AV → List AObj → Prop) → AQ := fun (n : Nat) (Post : AV → List AObj → Prop) => seqQ (fun (s' : Slots) (H' : List AObj) => awp Tryd.prog g84 n (codeSnd (codeSnd (codeSnd c84))) s' H' (q84_0 n Post)) (q84_0 n Post)
noncomputable def q84_2 : Nat → (AV → List AObj → Prop) → AQ := fun (n : Nat) (Post : AV → List AObj → Prop) => blockQ 0 (q84_1 n Post)
noncomputable def c84_4 : Go.Code := codeFst (codeSnd (codeFst (codeSnd (codeSnd c84))))
theorem s84 : ∀ (a b : List T.St) (Post : AV → List AObj → Prop),
  condP ((↑(List.length a) : Int) != (↑(List.length b) : Int)) (Post (AV.bool false) [])
      (AWP Tryd.prog 26 0 c84_4
        [(0, AV.sl 6 (Seq.map T.encSt T.noSt a) Tip.none), (1, AV.sl 6 (Seq.map T.encSt T.noSt b) Tip.none), (5, AV.int IntKind.i64 (0 : Int))] []
        (q84_2 0 Post)) →
    ASpec Tryd.prog 84 [AV.sl 6 (Seq.map T.encSt T.noSt a) Tip.none, AV.sl 6 (Seq.map T.encSt T.noSt b) Tip.none] [] Post := fun a b Post h => Go.Ab.ASpec.of_vc g84 Go.Proofs.Tryd.func84 (by kernel_rfl) (by kernel_rfl) (by kernel_rfl) (Go.Ab.kc (by kernel_rfl) h)
theorem v84_4 : ∀ (a b : List T.St) (i : Int) (n : Nat) (Post : AV → List AObj → Prop),
  condP (decide (i < (↑(List.length a) : Int)))
      (needP ((0 : Int) ≤ i ∧ i < (↑(List.length a) : Int))
        (needP ((0 : Int) ≤ i ∧ i < (↑(List.length b) : Int))
         (condP
         (!(Prod.fst (List.getD a (Int.toNat i) T.noSt) == Prod.fst (List.getD b (Int.toNat i) T.noSt) &&
         (ByteArray.toList { data := List.toArray (Prod.fst (Prod.snd (List.getD a (Int.toNat i) T.noSt))) } ==
         ByteArray.toList { data := List.toArray (Prod.fst (Prod.snd (List.getD b (Int.toNat i) T.noSt))) } &&
         (Prod.fst (Prod.snd (Prod.snd (List.getD a (Int.toNat i) T.noSt))) == Prod.fst (Prod.snd (Prod.snd (List.getD b (Int.toNat i) T.noSt))) &&
         (ByteArray.toList { data := List.toArray (Prod.fst (Prod.snd (Prod.snd (Prod.snd (List.getD a (Int.toNat i) T.noSt))))) } ==
         ByteArray.toList { data := List.toArray (Prod.fst (Prod.snd (Prod.snd (Prod.snd (List.getD b (Int.toNat i) T.noSt))))) } &&
         (Prod.fst (Prod.snd (Prod.snd (Prod.snd (Prod.snd (List.getD a (Int.toNat i) T.noSt))))) ==
         Prod.fst (Prod.snd (Prod.snd (Prod.snd (Prod.snd (List.getD b (Int.toNat i) T.noSt))))) &&
         (Prod.snd (Prod.snd (Prod.snd (Prod.snd (Prod.snd (List.getD a (Int.toNat i) T.noSt))))) ==
         Prod.snd (Prod.snd (Prod.snd (Prod.snd (Prod.snd (List.getD b (Int.toNat i) T.noSt))))) &&
         true)))))))
         (Post (AV.bool false) [])
         (AWP Tryd.prog 26 n c84_4
         [(0, AV.sl 6 (Seq.map T.encSt T.noSt a) Tip.none), (1, AV.sl 6 (Seq.map T.encSt T.noSt b) Tip.none),
         (5, AV.int IntKind.i64 (IntKind.wrap IntKind.i64 (i + (1 : Int))))]
         [] (q84_2 n Post)))))
      (Post (AV.bool true) []) →
    AWP Tryd.prog 26 n c84_4
      [(0, AV.sl 6 (Seq.map T.encSt T.noSt a) Tip.none), (1, AV.sl 6 (Seq.map T.encSt T.noSt b) Tip.none), (5, AV.int IntKind.i64 i)] [] (q84_2 n Post) := fun a b i n Post h => Go.Ab.AWP.loop' g84 (Cfg.live g84) c84_4 (by kernel_rfl) (by kernel_rfl) (Go.Ab.kc (by kernel_rfl) h)

-- 78
noncomputable def l78 : Nat → List Nat
  | 4 => [0, 3]
  | _ => []
noncomputable def u78 : Nat → Bool
  | _ => false
noncomputable def m78 : Nat → Bool
  | _ => false
noncomputable def g78 : Cfg := { N := 39, live := l78, cut := u78, mu := m78, ret := rets }
noncomputable def c78 : Go.Code := Go.Ab.bodyOf Go.Proofs.Tryd.f78
noncomputable def q78_0 : Nat → (AV → List AObj → Prop) → AQ := fun (n : Nat) (Post : AV → List AObj → Prop) => endQ Tryd.prog (resultsOf Tryd.f78) Post
noncomputable def q78_1 : Nat → (AV → List AObj → Prop) → AQ := fun (n : Nat) (Post : AV → List AObj → Prop) => seqQ (fun (s' : Slots) (H' : List AObj) => awp Tryd.prog g78 n (codeSnd (codeSnd (codeSnd c78))) s' H' (q78_0 n Post)) (q78_0 n Post)
noncomputable def q78_2 : Nat → (AV → List AObj → Prop) → AQ := fun (n : Nat) (Post : AV → List AObj → Prop) => blockQ 0 (q78_1 n Post)
noncomputable def c78_4 : Go.Code := codeFst (codeSnd (codeFst (codeSnd (codeSnd c78))))
theorem s78 : ∀ (l : List T.St) (Post : AV → List AObj → Prop),
  condP (decide ((↑(List.length l) : Int) > (300 : Int)))
      (condP (decide ((↑(List.length l) : Int) ≤ (1048576 : Int))) (Post (AV.bool true) [])
        (condP (decide ((↑(List.length l) : Int) > (1048586 : Int))) (Post (AV.bool true) [])
         (AWP Tryd.prog 39 0 c78_4 [(0, AV.sl 6 (Seq.map T.encSt T.noSt l) Tip.none), (3, AV.int IntKind.i64 (0 : Int))] [] (q78_2 0 Post))))
      (condP (decide ((↑(List.length l) : Int) > (1048586 : Int))) (Post (AV.bool true) [])
        (AWP Tryd.prog 39 0 c78_4 [(0, AV.sl 6 (Seq.map T.encSt T.noSt l) Tip.none), (3, AV.int IntKind.i64 (0 : Int))] [] (q78_2 0 Post))) →
    ASpec Tryd.prog 78 [AV.sl 6 (Seq.map T.encSt T.noSt l) Tip.none] [] Post := fun l Post h => Go.Ab.ASpec.of_vc g78 Go.Proofs.Tryd.func78 (by kernel_rfl) (by kernel_rfl) (by kernel_rfl) (Go.Ab.kc (by kernel_rfl) h)
theorem v78_4 : ∀ (l : List T.St) (i : Int) (n : Nat) (Post : AV → List AObj → Prop),
  condP (decide (i < (↑(List.length l) : Int)))
      (needP ((0 : Int) ≤ i ∧ i < (↑(List.length l) : Int))
        (condP (decide ((↑(ByteArray.size { data := List.toArray (Prod.fst (Prod.snd (List.getD l (Int.toNat i) T.noSt))) }) : Int) > (100 : Int))) (Post (AV.bool true) [])
         (needP ((0 : Int) ≤ i ∧ i < (↑(List.length l) : Int))
         (condP (decide ((↑(ByteArray.size { data := List.toArray (Prod.fst (Prod.snd (Prod.snd (Prod.snd (List.getD l (Int.toNat i) T.noSt))))) }) : Int) > (100 : Int))) (Post (AV.bool true) [])
         (AWP Tryd.prog 39 n c78_4 [(0, AV.sl 6 (Seq.map T.encSt T.noSt l) Tip.none), (3, AV.int IntKind.i64 (IntKind.wrap IntKind.i64 (i + (1 : Int))))] []
         (q78_2 n Post))))))
      (Post (AV.bool false) []) →
    AWP Tryd.prog 39 n c78_4 [(0, AV.sl 6 (Seq.map T.encSt T.noSt l) Tip.none), (3, AV.int IntKind.i64 i)] [] (q78_2 n Post) := fun l i n Post h => Go.Ab.AWP.loop' g78 (Cfg.live g78) c78_4 (by kernel_rfl) (by kernel_rfl) (Go.Ab.kc (by kernel_rfl) h)

-- 92
end
end Pf
end

section
/- Steps of a proof: which may be. -/

set_option linter.unusedVariables false
set_option linter.unusedSimpArgs false
set_option maxRecDepth 100000
open Go Go.Ab Go.Proofs V S T C
open Pf (s131 v131_2 v131_3 c131_2 c131_3 q131_0 s132 v132_3 v132_5 c132_3 c132_5 q132_0 s80 v80_4 c80_4 q80_2 s81 v81_4 c81_4 q81_2 s84 v84_4 c84_4 q84_2 s78 v78_4 c78_4 q78_2)
namespace Pr

instance decSt : DecidableEq St := fun a b => instDecidableEqProd a b
noncomputable abbrev agS (x : St) : AV := .agg (encSt x)
noncomputable abbrev slP (l : List St) : AV := .sl 6 (.map encSt noSt l) .none

/-- may a step be, of a number? -/
def mayM (x : St) (i : Int) : Bool := fitM x.2.1 &&
  (if x.1 = 1 ∨ x.1 = 2 then decide (x.2.2.2.1 = [] ∧ x.2.2.1 = 0 ∧ x.2.2.2.2.1 = 0 ∧ x.2.2.2.2.2 = 0)
   else if x.1 = 3 then fitM x.2.2.2.1 && decide (0 ≤ x.2.2.1 ∧ x.2.2.1 < 1000000000 ∧ x.2.2.2.2.1 = 0 ∧ x.2.2.2.2.2 = 0)
   else if x.1 = 4 then decide (x.2.2.2.1 = [] ∧ x.2.2.1 = 0 ∧ 0 ≤ x.2.2.2.2.1 ∧ x.2.2.2.2.1 < i ∧ 0 ≤ x.2.2.2.2.2 ∧ x.2.2.2.2.2 < i) else false)

def okS (x : St) : Prop := x.2.1.length ≤ lim ∧ x.2.2.2.1.length ≤ lim

theorem may3 {x : St} (hx : okS x) {i : Int} {p q : Bool} (hp : p = decide (x.2.2.2.1 = [] ∧ x.2.2.1 = 0)) (hq : q = decide (x.2.2.2.2.1 = 0 ∧ x.2.2.2.2.2 = 0)) :
    AWP Tryd.prog 85 0 c131_3 [(1, .int .i64 i), (2, .ptr 0 0), (5, .bool p), (6, .bool q)] [.cells (encSt x)] (q131_0 0 (PB (mayM x i))) := by
  obtain ⟨h1, h2⟩ := hx
  unfold lim at h1 h2
  obtain ⟨k, nm, v, to, a, b⟩ := x
  simp only at h1 h2 hp hq
  refine v131_3 _ _ _ _ _ _ ?_
  simp only
  repeat' (first
    | refine condE (fun _ => ?_) fun _ => ?_
    | refine condD (fun _ => ?_) fun _ => ?_
    | refine ASpec.call (fit_spec (l := nm) (by unfold big; omega) _) (Les.refl _) ⟨_, rfl, rfl, ?_⟩
    | refine ASpec.call (fit_spec (l := to) (by unfold big; omega) _) (Les.refl _) ⟨_, rfl, rfl, ?_⟩
    | refine condB (fun _ => ?_) fun _ => ?_)
  all_goals (refine pb ?_; simp_all [mayM])
  all_goals first | (intros; omega) | skip
  rename_i h
  rw [Bool.eq_iff_iff]
  simp only [Bool.and_eq_true, decide_eq_true_eq]
  by_cases hab : a < b
  · rw [if_pos hab]; rw [if_neg (by omega)] at h; omega
  · rw [if_neg hab]
    by_cases hba : b < a
    · rw [if_pos hba] at h; omega
    · rw [if_neg hba] at h; omega

theorem may_spec (x : St) (hx : okS x) (i : Int) (H : List AObj) : ASpec Tryd.prog 131 [agS x, .int .i64 i] H (fun r H' => r = .bool (mayM x i) ∧ H' = H) := by
  have k : ASpec Tryd.prog 131 [agS x, .int .i64 i] [] (fun r H' => r = .bool (mayM x i) ∧ H' = []) := by
    have m2 : ∀ p, p = decide (x.2.2.2.1 = [] ∧ x.2.2.1 = 0) → AWP Tryd.prog 85 0 c131_2 [(1, .int .i64 i), (2, .ptr 0 0), (5, .bool p)] [.cells (encSt x)] (q131_0 0 (PB (mayM x i))) := fun p hp =>
      v131_2 _ _ _ _ _ (condE (fun h => may3 hx hp (by rw [Bool.eq_iff_iff]; simp [h])) fun h => may3 hx hp (by simp [h]))
    exact ASpec.sel (s131 _ _ _ (condS (b := []) (fun h => m2 _ (by rw [Bool.eq_iff_iff]; simp [h])) fun h => m2 _ (by simp [h])))
  exact ASpec.pureH H k _ _ rfl rfl

theorem rmay5 {x : St} {i : Int} {c : Bool} (hc : c = (if x.1 = 4 then decide (0 ≤ x.2.2.2.2.1 ∧ x.2.2.2.2.1 < i ∧ 0 ≤ x.2.2.2.2.2 ∧ x.2.2.2.2.2 < i) else decide (x.2.2.2.2.1 = 0 ∧ x.2.2.2.2.2 = 0))) :
    AWP Tryd.prog 80 0 c132_5 [(1, .int .i64 i), (2, .ptr 0 0)] [.cells (encSt x)] (q132_0 0 (PB c)) := by
  obtain ⟨k, nm, v, to, a, b⟩ := x
  simp only at hc
  refine v132_5 _ _ _ _ ?_
  simp only
  repeat' (first
    | refine condE (fun _ => ?_) fun _ => ?_
    | refine condD (fun _ => ?_) fun _ => ?_)
  all_goals (refine pb ?_; subst hc; simp_all)
  all_goals first | (intros; omega) | (rw [Bool.eq_iff_iff]; simp)

theorem rmay3 {x : St} (hx : okS x) {i : Int} (h4 : 1 ≤ x.1 ∧ x.1 ≤ 4) (hf : fitM x.2.1 = true) :
    AWP Tryd.prog 80 0 c132_3 [(1, .int .i64 i), (2, .ptr 0 0)] [.cells (encSt x)] (q132_0 0 (PB (mayM x i))) := by
  obtain ⟨h1, h2⟩ := hx
  unfold lim at h1 h2
  obtain ⟨k, nm, v, to, a, b⟩ := x
  simp only at h1 h2 h4 hf
  refine v132_3 _ _ _ _ ?_
  simp only
  repeat' (first
    | refine condE (fun _ => ?_) fun _ => ?_
    | refine condNe (fun _ => ?_) fun _ => ?_
    | refine condSn (b := []) (fun _ => ?_) fun _ => ?_
    | refine ASpec.call (rfit_spec (l := to) (by unfold big; omega) _) (Les.refl _) ⟨_, rfl, rfl, ?_⟩
    | refine ASpec.call (verFit_spec v _) (Les.refl _) ⟨_, rfl, rfl, ?_⟩
    | refine condBn (fun _ => ?_) fun _ => ?_
    | (refine pb ?_; simp_all [mayM]; done)
    | refine rmay5 (x := (k, nm, v, to, a, b)) ?_)
  all_goals (simp_all [mayM])
  · refine pb ?_
    rename_i h
    by_cases h0 : 0 ≤ v
    · have := h h0
      simp [show ¬ v < 1000000000 by omega]
    · simp [h0]
  · rename_i h3 _ _
    rcases (show k = 1 ∨ k = 2 ∨ k = 4 by omega) with rfl | rfl | rfl <;> simp

theorem rmay_spec (x : St) (hx : okS x) (i : Int) (H : List AObj) : ASpec Tryd.prog 132 [agS x, .int .i64 i] H (fun r H' => r = .bool (mayM x i) ∧ H' = H) := by
  have hx' := hx
  obtain ⟨h1, h2⟩ := hx'
  unfold lim at h1 h2
  have k : ASpec Tryd.prog 132 [agS x, .int .i64 i] [] (fun r H' => r = .bool (mayM x i) ∧ H' = []) := by
    refine ASpec.sel (s132 _ _ _ (condD (fun h => pb ?_) fun h => condD (fun h' => pb ?_) fun h' => ASpec.call (rfit_spec (l := x.2.1) (by unfold big; omega) _) (Les.refl _) ⟨_, rfl, rfl, condBn (fun hf => pb ?_) fun hf => rmay3 hx (by omega) hf⟩))
    · simp [mayM, show ¬ (x.1 = 1 ∨ x.1 = 2) by omega, show ¬ x.1 = 3 by omega, show ¬ x.1 = 4 by omega]
    · simp [mayM, show ¬ (x.1 = 1 ∨ x.1 = 2) by omega, show ¬ x.1 = 3 by omega, show ¬ x.1 = 4 by omega]
    · simp [mayM, hf]
  exact ASpec.pureH H k _ _ rfl rfl

/-- may each step be, of its number? -/
def chkF (i : Nat) : List St → Bool
  | [] => true
  | x :: r => mayM x i && chkF (i + 1) r
def checkM (l : List St) : Bool := decide (1 ≤ l.length ∧ l.length ≤ 1048576) && chkF 0 l

theorem check4 {l : List St} {c : Bool} (hl : l.length ≤ 1048576) (hk : ∀ x ∈ l, okS x) : ∀ (m i : Nat), m + i = l.length → chkF i (l.drop i) = c →
    AWP Tryd.prog 25 0 c80_4 [(13, slP l), (14, .int .i64 l.length), (15, .int .i64 i)] [] (q80_2 0 (PB c)) := by
  intro m
  induction m with
  | zero =>
    intro i hm h
    refine v80_4 _ _ _ _ _ (condD (fun hc => by omega) fun _ => pb ?_)
    rw [List.drop_eq_nil_of_le (by omega)] at h
    exact h
  | succ m ih =>
    intro i hm h
    have hx := hk _ (memD l noSt i (by omega))
    rw [dropD l noSt i (by omega)] at h
    simp only [chkF] at h
    refine v80_4 _ _ _ _ _ (condD (fun hc => needJ ⟨by omega, by omega⟩ ?_) fun hc => by omega)
    rw [Int.toNat_natCast]
    generalize l.getD i noSt = x at h hx ⊢
    refine ASpec.call (may_spec x hx i _) (Les.refl _) ⟨_, rfl, rfl, condBn (fun h1 => pb ?_) fun h1 => ?_⟩
    · rw [h1] at h; exact h
    · rw [h1, Bool.true_and] at h
      rw [succ64 (by omega)]
      exact AWP.shape [] [(13, slP l), (14, .int .i64 l.length), (15, .int .i64 (i + 1 : Nat))] [] Sel.none ⟨rfl, Le.refl _, rfl, Le.refl _, rfl, Le.refl _, trivial⟩ (ih (i + 1) (by omega) h)

theorem check_spec (l : List St) (hl : l.length ≤ maxLen) (hk : ∀ x ∈ l, okS x) (H : List AObj) : ASpec Tryd.prog 80 [slP l] H (fun r H' => r = .bool (checkM l) ∧ H' = H) := by
  have k : ASpec Tryd.prog 80 [slP l] [] (fun r H' => r = .bool (checkM l) ∧ H' = []) := by
    refine ASpec.sel (s80 _ _ (condE (fun h => pb ?_) fun h => condD (fun h1 => pb ?_) fun h1 => check4 (by omega) hk l.length 0 (by omega) ?_))
    · simp [checkM, show ¬ 1 ≤ l.length by omega]
    · simp [checkM, show ¬ l.length ≤ 1048576 by omega]
    · simp [checkM, show 1 ≤ l.length by omega, show l.length ≤ 1048576 by omega]
  exact ASpec.pureH H k _ _ rfl rfl

theorem rcheck4 {l : List St} {c : Bool} (hl : l.length ≤ 1048576) (hk : ∀ x ∈ l, okS x) : ∀ (m i : Nat), m + i = l.length → (chkF i (l.drop i) && decide (1 ≤ l.length)) = c →
    AWP Tryd.prog 23 0 c81_4 [(0, slP l), (3, .int .i64 i)] [] (q81_2 0 (PB c)) := by
  intro m
  induction m with
  | zero =>
    intro i hm h
    refine v81_4 _ _ _ _ (condD (fun hc => by omega) fun _ => pb ?_)
    rw [List.drop_eq_nil_of_le (by omega)] at h
    rw [← h, Bool.eq_iff_iff]
    simp only [chkF, Bool.true_and, decide_eq_true_eq]; omega
  | succ m ih =>
    intro i hm h
    have hx := hk _ (memD l noSt i (by omega))
    rw [dropD l noSt i (by omega)] at h
    simp only [chkF] at h
    refine v81_4 _ _ _ _ (condD (fun hc => needJ ⟨by omega, by omega⟩ ?_) fun hc => by omega)
    rw [Int.toNat_natCast]
    generalize l.getD i noSt = x at h hx ⊢
    refine ASpec.call (rmay_spec x hx i _) (Les.refl _) ⟨_, rfl, rfl, condBn (fun h1 => pb ?_) fun h1 => ?_⟩
    · rw [h1] at h; exact h
    · rw [h1, Bool.true_and] at h
      rw [succ64 (by omega)]
      exact ih (i + 1) (by omega) h

theorem rcheck_spec (l : List St) (hl : l.length ≤ maxLen) (hk : ∀ x ∈ l, okS x) (H : List AObj) : ASpec Tryd.prog 81 [slP l] H (fun r H' => r = .bool (checkM l) ∧ H' = H) := by
  have k : ASpec Tryd.prog 81 [slP l] [] (fun r H' => r = .bool (checkM l) ∧ H' = []) := by
    refine ASpec.sel (s81 _ _ (condD (fun h1 => pb ?_) fun h1 => rcheck4 (by omega) hk l.length 0 (by omega) ?_))
    · simp [checkM, show ¬ l.length ≤ 1048576 by omega]
    · simp only [checkM, List.drop_zero]
      rw [Bool.eq_iff_iff]
      simp only [Bool.and_eq_true, decide_eq_true_eq]
      constructor
      · rintro ⟨a, b⟩; exact ⟨⟨b, by omega⟩, a⟩
      · rintro ⟨a, b⟩; exact ⟨b, a.1⟩
  exact ASpec.pureH H k _ _ rfl rfl

theorem same4 {a b : List St} {c : Bool} (hl : a.length ≤ 2000000) (he : a.length = b.length) : ∀ (m i : Nat), m + i = a.length → decide (a.drop i = b.drop i) = c →
    AWP Tryd.prog 26 0 c84_4 [(0, slP a), (1, slP b), (5, .int .i64 i)] [] (q84_2 0 (PB c)) := by
  intro m
  induction m with
  | zero =>
    intro i hm h
    refine v84_4 _ _ _ _ _ (condD (fun hc => by omega) fun _ => pb ?_)
    rw [List.drop_eq_nil_of_le (by omega), List.drop_eq_nil_of_le (by omega)] at h
    rw [← h]; rfl
  | succ m ih =>
    intro i hm h
    rw [dropD a noSt i (by omega), dropD b noSt i (by omega), W.cons_dec] at h
    refine v84_4 _ _ _ _ _ (condD (fun hc => needJ ⟨by omega, by omega⟩ (needJ ⟨by omega, by omega⟩ ?_)) fun hc => by omega)
    rw [Int.toNat_natCast]
    generalize a.getD i noSt = x at h ⊢
    generalize b.getD i noSt = y at h ⊢
    rw [B_beq, B_beq]
    have e : (x.1 == y.1 && (x.2.1 == y.2.1 && (x.2.2.1 == y.2.2.1 && (x.2.2.2.1 == y.2.2.2.1 && (x.2.2.2.2.1 == y.2.2.2.2.1 && x.2.2.2.2.2 == y.2.2.2.2.2))))) = decide (x = y) := by
      rw [Bool.eq_iff_iff]
      simp only [Bool.and_eq_true, beq_iff_eq, decide_eq_true_eq, Prod.ext_iff]
    refine condBn (fun h1 => pb ?_) fun h1 => ?_
    · have h2 : decide (x = y) = false := by rw [← e]; simpa using h1
      rw [h2] at h; exact h
    · have h2 : decide (x = y) = true := by rw [← e]; simpa using h1
      rw [h2, Bool.true_and] at h
      rw [succ64 (by omega)]
      exact ih (i + 1) (by omega) h

theorem rsame_spec (a b : List St) (hl : a.length ≤ 2000000) (H : List AObj) : ASpec Tryd.prog 84 [slP a, slP b] H (fun r H' => r = .bool (decide (a = b)) ∧ H' = H) := by
  have k : ASpec Tryd.prog 84 [slP a, slP b] [] (fun r H' => r = .bool (decide (a = b)) ∧ H' = []) := by
    refine ASpec.sel (s84 _ _ _ (condNe (fun h => pb ?_) fun h => same4 hl (by omega) a.length 0 (by omega) (by simp)))
    rw [eq_comm, decide_eq_false_iff_not]
    intro e; subst e; exact h rfl
  exact ASpec.pureH H k _ _ rfl rfl

/-! ### how much is looked at -/

def largeF : List St → Bool
  | [] => false
  | x :: r => if 100 < x.2.1.length ∨ 100 < x.2.2.2.1.length then true else largeF r
def largeM (l : List St) : Bool := if (300 < l.length ∧ l.length ≤ 1048576) ∨ 1048586 < l.length then true else largeF l

theorem large4 {l : List St} {c : Bool} (hl : l.length ≤ 1048586) : ∀ (m i : Nat), m + i = l.length → largeF (l.drop i) = c →
    AWP Tryd.prog 39 0 c78_4 [(0, slP l), (3, .int .i64 i)] [] (q78_2 0 (PB c)) := by
  intro m
  induction m with
  | zero =>
    intro i hm h
    refine v78_4 _ _ _ _ (condD (fun hc => by omega) fun _ => pb ?_)
    rw [List.drop_eq_nil_of_le (by omega)] at h
    exact h
  | succ m ih =>
    intro i hm h
    rw [dropD l noSt i (by omega)] at h
    simp only [largeF] at h
    refine v78_4 _ _ _ _ (condD (fun hc => needJ ⟨by omega, by omega⟩ ?_) fun hc => by omega)
    rw [Int.toNat_natCast]
    generalize l.getD i noSt = x at h ⊢
    rw [B_size, B_size]
    refine condD (fun h1 => pb ?_) fun h1 => needJ ⟨by omega, by omega⟩ (condD (fun h2 => pb ?_) fun h2 => ?_)
    · rw [if_pos (.inl (by omega))] at h; exact h
    · rw [if_pos (.inr (by omega))] at h; exact h
    · rw [if_neg (by omega)] at h
      rw [succ64 (by omega)]
      exact ih (i + 1) (by omega) h

theorem large_spec (l : List St) (H : List AObj) : ASpec Tryd.prog 78 [slP l] H (fun r H' => r = .bool (largeM l) ∧ H' = H) := by
  have k : ASpec Tryd.prog 78 [slP l] [] (fun r H' => r = .bool (largeM l) ∧ H' = []) := by
    refine ASpec.sel (s78 _ _ (condD (fun h1 => condD (fun h2 => pb ?_) fun h2 => condD (fun h3 => pb ?_) fun h3 => large4 (by omega) l.length 0 (by omega) ?_) fun h1 => condD (fun h3 => pb ?_) fun h3 => large4 (by omega) l.length 0 (by omega) ?_))
    · rw [largeM, if_pos (by omega)]
    · rw [largeM, if_pos (by omega)]
    · rw [largeM, if_neg (by omega)]; rfl
    · rw [largeM, if_pos (by omega)]
    · rw [largeM, if_neg (by omega)]; rfl
  exact ASpec.pureH H k _ _ rfl rfl

theorem largeF_ok : ∀ (l : List St), largeF l = false → ∀ x ∈ l, x.2.1.length ≤ 100 ∧ x.2.2.2.1.length ≤ 100
  | [], _, n, hn => by simp at hn
  | x :: r, h, n, hn => by
    simp only [largeF] at h
    split at h
    · cases h
    · rcases List.mem_cons.1 hn with rfl | hn
      · omega
      · exact largeF_ok r h n hn

theorem largeM_ok {l : List St} (h : largeM l = false) : (l.length ≤ 300 ∨ 1048576 < l.length) ∧ l.length ≤ 1048586 ∧ ∀ x ∈ l, okS x := by
  unfold largeM at h
  split at h
  · cases h
  · refine ⟨by omega, by omega, fun x hx => ?_⟩
    have := largeF_ok l h x hx
    unfold okS lim; omega

end Pr
end

section
/- PickPuts: what was put is there, what was dropped is not: plain laws. -/

set_option linter.unusedVariables false
set_option linter.unusedSimpArgs false
open Go Go.Ab Go.Proofs V S T C
namespace Dk
theorem chk_fit : ∀ {s : List Pk} {o : Option Nm}, chkF o s = true → ∀ p ∈ s, fitP p = true
  | [], _, _, p, hp => by simp at hp
  | z :: r, o, h, p, hp => by
    cases hz : fitP z with
    | false =>
      simp only [chkF, hz, if_true] at h
      cases h
    | true =>
      rcases List.mem_cons.1 hp with rfl | hp
      · exact hz
      · simp only [chkF, hz, Bool.true_eq_false, if_false] at h
        cases o with
        | none => exact chk_fit h p hp
        | some q =>
          simp only at h
          split at h
          · cases h
          · exact chk_fit h p hp
end Dk
end

section
/- What was put together is taken apart: plain laws of texts of picks. -/

set_option linter.unusedVariables false
set_option linter.unusedSimpArgs false
open Go Go.Lib
namespace Dk
abbrev sepP : List UInt8 := [44, 32]
theorem join_cons (p q : List UInt8) (r : List (List UInt8)) : Lib.join (p :: q :: r) sepP = p ++ 44 :: 32 :: Lib.join (q :: r) sepP := by
  simp [Lib.join, List.intercalate, List.intersperse]
end Dk
end

section
/- The codecs of this seat's plain arguments. -/

open Go Go.Ab Go.Proofs
namespace Go.Ab

noncomputable def cInt : Codec Tryd.prog 3 Int := Codec.int .i64 Tryd.underlying3
noncomputable def cStr : Codec Tryd.prog 9 ByteArray := Codec.str Tryd.underlying9
end Go.Ab
end

section
/- The codecs of manifests. -/

open Go Go.Ab Go.Proofs
namespace Go.Ab

noncomputable def cName : Codec Tryd.prog 9 (List UInt8) := cStr.iso (fun s => s.data.toList) (fun l => [.str ⟨l.toArray⟩]) (fun _ => True) (fun _ => rfl) (fun _ _ => trivial)
end Go.Ab
end
