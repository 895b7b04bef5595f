/- Q6: several of this proof's own texts, one behind the other: what each proves stands at its head. -/
import Derived.Test.YtkkdhnhgfbddeaaDoorProg
import Derived.Test.YtkkdhnhgfbddeaaDoorQ5
import Derived.KernelRfl
import Derived.Test.YtkkdhnhgfbddeaaDoorA4
import Derived.Sort.Walk0
import Derived.Lib.Bytealg
import Derived.Test.YtkkdhnhgfbddeaaDoorA3
import Derived.Lib.Split
import Derived.Lib.Join
section
/- Printed: what the code of functions 109, 111, 108, 52, 56, 53, 13, 15, 11, 14, 16, 20, 55, 57, 112, 62, 117, 119, 63, 21, 22, 24, 18, 27, 28, 26, 64, 65, 69, 10, 3, 4 asks for, by the framework's own reading of it; each line is checked against the code. -/

set_option linter.unusedVariables false
set_option maxRecDepth 100000
set_option maxHeartbeats 4000000
open Go Go.Ab Go.Proofs
namespace Tq
noncomputable section

noncomputable def retTm : List (Nat × Ret) := [
  (109, ⟨Bool, fun _ _ x => .bool x, fun _ H _ => H⟩),
  (111, ⟨Bool, fun _ _ x => .bool x, fun _ H _ => H⟩),
  (14, ⟨Bool, fun _ _ x => .bool x, fun _ H _ => H⟩),
  (16, ⟨Bool, fun _ _ x => .bool x, fun _ H _ => H⟩),
  (57, ⟨Bool, fun _ _ x => .bool x, fun _ H _ => H⟩),
  (112, ⟨Bool, fun _ _ x => .bool x, fun _ H _ => H⟩),
  (22, ⟨Bool, fun _ _ x => .bool x, fun _ H _ => H⟩),
  (26, ⟨Bool, fun _ _ x => .bool x, fun _ H _ => H⟩),
  (18, ⟨Bool, fun _ _ x => .bool x, fun _ H _ => H⟩),
  (20, ⟨ByteArray, fun _ _ x => .str x, fun _ H _ => H⟩),
  (62, ⟨ByteArray, fun _ _ x => .str x, fun _ H _ => H⟩),
  (117, ⟨ByteArray, fun _ _ x => .str x, fun _ H _ => H⟩),
  (121, ⟨ByteArray, fun _ _ x => .str x, fun _ H _ => H⟩),
  (118, ⟨ByteArray, fun _ _ x => .str x, fun _ H _ => H⟩),
  (21, ⟨ByteArray, fun _ _ x => .str x, fun _ H _ => H⟩),
  (63, ⟨ByteArray, fun _ _ x => .str x, fun _ H _ => H⟩),
  (119, ⟨ByteArray, fun _ _ x => .str x, fun _ H _ => H⟩),
  (134, ⟨ByteArray, fun _ _ x => .str x, fun _ H _ => H⟩),
  (52, ⟨List T.Span, fun _ _ x => .sl 2 (.map T.encS (0, 0) x) .none, fun _ H _ => H⟩),
  (56, ⟨List T.Span, fun _ _ x => .sl 2 (.map T.encS (0, 0) x) .none, fun _ H _ => H⟩),
  (65, ⟨List T.Span, fun _ _ x => .sl 2 (.map T.encS (0, 0) x) .none, fun _ H _ => H⟩),
  (69, ⟨List T.Span, fun _ _ x => .sl 2 (.map T.encS (0, 0) x) .none, fun _ H _ => H⟩),
  (64, ⟨List T.Span, fun _ _ x => .sl 2 (.map T.encS (0, 0) x) .none, fun _ H _ => H⟩),
  (11, ⟨T.Term, fun _ _ x => .agg (T.encT x), fun _ H _ => H⟩),
  (13, ⟨T.Term, fun _ _ x => .agg (T.encT x), fun _ H _ => H⟩),
  (15, ⟨T.Term, fun _ _ x => .agg (T.encT x), fun _ H _ => H⟩),
  (53, ⟨T.Term, fun _ _ x => .agg (T.encT x), fun _ H _ => H⟩),
  (24, ⟨T.Term, fun _ _ x => .agg (T.encT x), fun _ H _ => H⟩),
  (27, ⟨T.Term, fun _ _ x => .agg (T.encT x), fun _ H _ => H⟩),
  (28, ⟨T.Term, fun _ _ x => .agg (T.encT x), fun _ H _ => H⟩),
  (55, ⟨Int, fun _ _ x => .int .i64 x, fun _ H _ => H⟩),
  (10, ⟨Unit, fun _ _ _ => .bool true, fun _ H _ => H⟩)]
noncomputable def rets : FuncId → List Ret := fun f => match lookupR retTm f with
  | [] => Sg.rets f
  | l => l

-- 109
noncomputable def l109 : Nat → List Nat
  | _ => []
noncomputable def u109 : Nat → Bool
  | _ => false
noncomputable def m109 : Nat → Bool
  | _ => false
noncomputable def g109 : Cfg := { N := 7, live := l109, cut := u109, mu := m109, ret := rets }
theorem s109 : ∀ (x y : Bool) (Post : AV → List AObj → Prop), Post (AV.bool !x) [] → ASpec Tryd.prog 109 [AV.bool x, AV.bool y] [] Post := fun x y Post h => Go.Ab.ASpec.of_vc g109 Go.Proofs.Tryd.func109 (by kernel_rfl) (by kernel_rfl) (by kernel_rfl) (Go.Ab.kc (by kernel_rfl) h)

-- 111
noncomputable def l111 : Nat → List Nat
  | _ => []
noncomputable def u111 : Nat → Bool
  | _ => false
noncomputable def m111 : Nat → Bool
  | _ => false
noncomputable def g111 : Cfg := { N := 9, live := l111, cut := u111, mu := m111, ret := rets }
theorem s111 : ∀ (x y : Bool) (Post : AV → List AObj → Prop), condP x (Post (AV.bool true) []) (Post (AV.bool y) []) → ASpec Tryd.prog 111 [AV.bool x, AV.bool y] [] Post := fun x y Post h => Go.Ab.ASpec.of_vc g111 Go.Proofs.Tryd.func111 (by kernel_rfl) (by kernel_rfl) (by kernel_rfl) (Go.Ab.kc (by kernel_rfl) h)

-- 108
noncomputable def l108 : Nat → List Nat
  | 3 => [0, 1, 2, 7, 8]
  | 8 => [7]
  | _ => []
noncomputable def u108 : Nat → Bool
  | 8 => true
  | _ => false
noncomputable def m108 : Nat → Bool
  | _ => false
noncomputable def g108 : Cfg := { N := 34, live := l108, cut := u108, mu := m108, ret := rets }
noncomputable def c108 : Go.Code := Go.Ab.bodyOf Go.Proofs.Tryd.f108
noncomputable def q108_0 : Nat → (AV → List AObj → Prop) → AQ := fun (n : Nat) (Post : AV → List AObj → Prop) => endQ Tryd.prog (resultsOf Tryd.f108) Post
noncomputable def c108_8 : Go.Code := codeSnd (codeSnd (codeSnd c108))
noncomputable def q108_1 : Nat → (AV → List AObj → Prop) → AQ := fun (n : Nat) (Post : AV → List AObj → Prop) => seqQ (fun (s' : Slots) (H' : List AObj) => AWP Tryd.prog (Cfg.N g108) n c108_8 (restrict s' (Cfg.live g108 8)) H' (q108_0 n Post)) (q108_0 n Post)
noncomputable def q108_2 : Nat → (AV → List AObj → Prop) → AQ := fun (n : Nat) (Post : AV → List AObj → Prop) => blockQ 0 (q108_1 n Post)
noncomputable def c108_3 : Go.Code := codeFst (codeSnd (codeFst (codeSnd (codeSnd c108))))
theorem s108u : ∀ (a b : List T.Span) (Post : AV → List AObj → Prop),
  AWP Tryd.prog 34 0 c108_3
      [(0, AV.sl 2 (Seq.map T.encS ((0 : Int), (0 : Int)) a) Tip.none), (1, AV.sl 2 (Seq.map T.encS ((0 : Int), (0 : Int)) b) Tip.none),
        (2, AV.fn (111 : FuncId) []), (7, AV.sl 0 (Seq.raw []) Tip.nil), (8, AV.int IntKind.i64 (0 : Int))]
      [] (q108_2 0 Post) →
    ASpec Tryd.prog 108 [AV.sl 2 (Seq.map T.encS ((0 : Int), (0 : Int)) a) Tip.none, AV.sl 2 (Seq.map T.encS ((0 : Int), (0 : Int)) b) Tip.none, AV.fn (111 : FuncId) []] []
      Post := fun a b Post h => Go.Ab.ASpec.of_vc g108 Go.Proofs.Tryd.func108 (by kernel_rfl) (by kernel_rfl) (by kernel_rfl) (Go.Ab.kc (by kernel_rfl) h)
theorem s108o : ∀ (a b : List T.Span) (Post : AV → List AObj → Prop),
  AWP Tryd.prog 34 0 c108_3
      [(0, AV.sl 2 (Seq.map T.encS ((0 : Int), (0 : Int)) a) Tip.none), (1, AV.sl 2 (Seq.map T.encS ((0 : Int), (0 : Int)) b) Tip.none),
        (2, AV.fn (109 : FuncId) []), (7, AV.sl 0 (Seq.raw []) Tip.nil), (8, AV.int IntKind.i64 (0 : Int))]
      [] (q108_2 0 Post) →
    ASpec Tryd.prog 108 [AV.sl 2 (Seq.map T.encS ((0 : Int), (0 : Int)) a) Tip.none, AV.sl 2 (Seq.map T.encS ((0 : Int), (0 : Int)) b) Tip.none, AV.fn (109 : FuncId) []] []
      Post := fun a b Post h => Go.Ab.ASpec.of_vc g108 Go.Proofs.Tryd.func108 (by kernel_rfl) (by kernel_rfl) (by kernel_rfl) (Go.Ab.kc (by kernel_rfl) h)
theorem v108_3nu : ∀ (a b : List T.Span) (p : Int) (n : Nat) (Post : AV → List AObj → Prop),
  condP (decide (p < (1000000000 : Int)))
      (ASpec Tryd.prog 138 [AV.sl 2 (Seq.map T.encS ((0 : Int), (0 : Int)) a) Tip.none, AV.int IntKind.i64 p] [] fun (r : AV) (H' : List AObj) =>
        ∃ (x : Int),
         r = AV.int IntKind.i64 x ∧
         H' = [] ∧
         ASpec Tryd.prog 138 [AV.sl 2 (Seq.map T.encS ((0 : Int), (0 : Int)) b) Tip.none, AV.int IntKind.i64 p] [] fun (r : AV) (H' : List AObj) =>
         ∃ (x_1 : Int),
         r = AV.int IntKind.i64 x_1 ∧
         H' = [] ∧
         ASpec Tryd.prog 66 [AV.sl 2 (Seq.map T.encS ((0 : Int), (0 : Int)) a) Tip.none, AV.int IntKind.i64 p] [] fun (r : AV) (H' : List AObj) =>
         ∃ (x_2 : Bool),
         r = AV.bool x_2 ∧
         H' = [] ∧
         ASpec Tryd.prog 66 [AV.sl 2 (Seq.map T.encS ((0 : Int), (0 : Int)) b) Tip.none, AV.int IntKind.i64 p] [] fun (r : AV) (H' : List AObj) =>
         ∃ (x_3 : Bool),
         r = AV.bool x_3 ∧
         H' = [] ∧
         ASpec Tryd.prog 111 [AV.bool x_2, AV.bool x_3] [] fun (r : AV) (H' : List AObj) =>
         ∃ (x_4 : Bool),
         r = AV.bool x_4 ∧
         H' = [] ∧
         condP x_4
         (ASpec Tryd.prog 139 [AV.sl 0 (Seq.raw []) Tip.nil, AV.agg [AV.int IntKind.i64 p, AV.int IntKind.i64 (if x_1 < x then x_1 else x)]] []
         fun (r : AV) (H' : List AObj) =>
         (∃ (x_5 : Int × Int),
         r = AV.msl 2 0 0 1 ∧
         H' = [AObj.arr 2 (Seq.map T.encS ((0 : Int), (0 : Int)) [x_5])] ∧
         AWP Tryd.prog 34 n c108_3
         [(0, AV.sl 2 (Seq.map T.encS ((0 : Int), (0 : Int)) a) Tip.none),
         (1, AV.sl 2 (Seq.map T.encS ((0 : Int), (0 : Int)) b) Tip.none), (2, AV.fn (111 : FuncId) []),
         (7, AV.msl 2 0 0 1), (8, AV.int IntKind.i64 (if x_1 < x then x_1 else x))]
         [AObj.arr 2 (Seq.map T.encS ((0 : Int), (0 : Int)) [x_5])] (q108_2 n Post)) ∨
         (∃ (x_5 : List T.Span),
         r = AV.sl 0 (Seq.raw []) Tip.nil ∧
         H' = [] ∧
         AWP Tryd.prog 34 n c108_3
         [(0, AV.sl 2 (Seq.map T.encS ((0 : Int), (0 : Int)) a) Tip.none),
         (1, AV.sl 2 (Seq.map T.encS ((0 : Int), (0 : Int)) b) Tip.none), (2, AV.fn (111 : FuncId) []),
         (7, AV.sl 0 (Seq.raw []) Tip.nil), (8, AV.int IntKind.i64 (if x_1 < x then x_1 else x))]
         [] (q108_2 n Post)) ∨
         ∃ (x_5 : List T.Span),
         r = AV.msl 2 0 0 (List.length x_5) ∧
         H' = [] ∧
         AWP Tryd.prog 34 n c108_3
         [(0, AV.sl 2 (Seq.map T.encS ((0 : Int), (0 : Int)) a) Tip.none),
         (1, AV.sl 2 (Seq.map T.encS ((0 : Int), (0 : Int)) b) Tip.none), (2, AV.fn (111 : FuncId) []),
         (7, AV.msl 2 0 0 (List.length x_5)), (8, AV.int IntKind.i64 (if x_1 < x then x_1 else x))]
         [] (q108_2 n Post))
         (AWP Tryd.prog 34 n c108_3
         [(0, AV.sl 2 (Seq.map T.encS ((0 : Int), (0 : Int)) a) Tip.none),
         (1, AV.sl 2 (Seq.map T.encS ((0 : Int), (0 : Int)) b) Tip.none), (2, AV.fn (111 : FuncId) []),
         (7, AV.sl 0 (Seq.raw []) Tip.nil), (8, AV.int IntKind.i64 (if x_1 < x then x_1 else x))]
         [] (q108_2 n Post)))
      (AWP Tryd.prog 34 n c108_8 [(7, AV.sl 0 (Seq.raw []) Tip.nil)] [] (q108_0 n Post)) →
    AWP Tryd.prog 34 n c108_3
      [(0, AV.sl 2 (Seq.map T.encS ((0 : Int), (0 : Int)) a) Tip.none), (1, AV.sl 2 (Seq.map T.encS ((0 : Int), (0 : Int)) b) Tip.none),
        (2, AV.fn (111 : FuncId) []), (7, AV.sl 0 (Seq.raw []) Tip.nil), (8, AV.int IntKind.i64 p)]
      [] (q108_2 n Post) := fun a b p n Post h => Go.Ab.AWP.loop' g108 (Cfg.live g108) c108_3 (by kernel_rfl) (by kernel_rfl) (Go.Ab.kc (by kernel_rfl) h)
theorem v108_3mu : ∀ (a b o : List T.Span) (k : Nat) (p : Int) (n : Nat) (Post : AV → List AObj → Prop),
  condP (decide (p < (1000000000 : Int)))
      (ASpec Tryd.prog 138 [AV.sl 2 (Seq.map T.encS ((0 : Int), (0 : Int)) a) Tip.none, AV.int IntKind.i64 p] [AObj.arr 2 (Seq.map T.encS ((0 : Int), (0 : Int)) o)]
        fun (r : AV) (H' : List AObj) =>
        ∃ (x : Int),
         r = AV.int IntKind.i64 x ∧
         H' = [AObj.arr 2 (Seq.map T.encS ((0 : Int), (0 : Int)) o)] ∧
         ASpec Tryd.prog 138 [AV.sl 2 (Seq.map T.encS ((0 : Int), (0 : Int)) b) Tip.none, AV.int IntKind.i64 p] [AObj.arr 2 (Seq.map T.encS ((0 : Int), (0 : Int)) o)]
         fun (r : AV) (H' : List AObj) =>
         ∃ (x_1 : Int),
         r = AV.int IntKind.i64 x_1 ∧
         H' = [AObj.arr 2 (Seq.map T.encS ((0 : Int), (0 : Int)) o)] ∧
         ASpec Tryd.prog 66 [AV.sl 2 (Seq.map T.encS ((0 : Int), (0 : Int)) a) Tip.none, AV.int IntKind.i64 p]
         [AObj.arr 2 (Seq.map T.encS ((0 : Int), (0 : Int)) o)] fun (r : AV) (H' : List AObj) =>
         ∃ (x_2 : Bool),
         r = AV.bool x_2 ∧
         H' = [AObj.arr 2 (Seq.map T.encS ((0 : Int), (0 : Int)) o)] ∧
         ASpec Tryd.prog 66 [AV.sl 2 (Seq.map T.encS ((0 : Int), (0 : Int)) b) Tip.none, AV.int IntKind.i64 p]
         [AObj.arr 2 (Seq.map T.encS ((0 : Int), (0 : Int)) o)] fun (r : AV) (H' : List AObj) =>
         ∃ (x_3 : Bool),
         r = AV.bool x_3 ∧
         H' = [AObj.arr 2 (Seq.map T.encS ((0 : Int), (0 : Int)) o)] ∧
         ASpec Tryd.prog 111 [AV.bool x_2, AV.bool x_3] [AObj.arr 2 (Seq.map T.encS ((0 : Int), (0 : Int)) o)] fun (r : AV) (H' : List AObj) =>
         ∃ (x_4 : Bool),
         r = AV.bool x_4 ∧
         H' = [AObj.arr 2 (Seq.map T.encS ((0 : Int), (0 : Int)) o)] ∧
         condP x_4
         (ASpec Tryd.prog 139 [AV.msl 2 0 0 k, AV.agg [AV.int IntKind.i64 p, AV.int IntKind.i64 (if x_1 < x then x_1 else x)]]
         [AObj.arr 2 (Seq.map T.encS ((0 : Int), (0 : Int)) o)] fun (r : AV) (H' : List AObj) =>
         (∃ (x_5 : Int × Int),
         r = AV.msl 2 1 0 1 ∧
         H' = [AObj.arr 2 (Seq.map T.encS ((0 : Int), (0 : Int)) o), AObj.arr 2 (Seq.map T.encS ((0 : Int), (0 : Int)) [x_5])] ∧
         AWP Tryd.prog 34 n c108_3
         [(0, AV.sl 2 (Seq.map T.encS ((0 : Int), (0 : Int)) a) Tip.none),
         (1, AV.sl 2 (Seq.map T.encS ((0 : Int), (0 : Int)) b) Tip.none), (2, AV.fn (111 : FuncId) []),
         (7, AV.msl 2 1 0 1), (8, AV.int IntKind.i64 (if x_1 < x then x_1 else x))]
         [AObj.arr 2 (Seq.map T.encS ((0 : Int), (0 : Int)) o), AObj.arr 2 (Seq.map T.encS ((0 : Int), (0 : Int)) [x_5])]
         (q108_2 n Post)) ∨
         (∃ (x_5 : List T.Span),
         r = AV.msl 2 0 0 k ∧
         H' = [AObj.arr 2 (Seq.map T.encS ((0 : Int), (0 : Int)) x_5)] ∧
         AWP Tryd.prog 34 n c108_3
         [(0, AV.sl 2 (Seq.map T.encS ((0 : Int), (0 : Int)) a) Tip.none),
         (1, AV.sl 2 (Seq.map T.encS ((0 : Int), (0 : Int)) b) Tip.none), (2, AV.fn (111 : FuncId) []),
         (7, AV.msl 2 0 0 k), (8, AV.int IntKind.i64 (if x_1 < x then x_1 else x))]
         [AObj.arr 2 (Seq.map T.encS ((0 : Int), (0 : Int)) x_5)] (q108_2 n Post)) ∨
         ∃ (x_5 : List T.Span),
         r = AV.msl 2 1 0 (List.length x_5) ∧
         H' = [AObj.gone, AObj.arr 2 (Seq.map T.encS ((0 : Int), (0 : Int)) x_5)] ∧
         AWP Tryd.prog 34 n c108_3
         [(0, AV.sl 2 (Seq.map T.encS ((0 : Int), (0 : Int)) a) Tip.none),
         (1, AV.sl 2 (Seq.map T.encS ((0 : Int), (0 : Int)) b) Tip.none), (2, AV.fn (111 : FuncId) []),
         (7, AV.msl 2 1 0 (List.length x_5)), (8, AV.int IntKind.i64 (if x_1 < x then x_1 else x))]
         [AObj.gone, AObj.arr 2 (Seq.map T.encS ((0 : Int), (0 : Int)) x_5)] (q108_2 n Post))
         (AWP Tryd.prog 34 n c108_3
         [(0, AV.sl 2 (Seq.map T.encS ((0 : Int), (0 : Int)) a) Tip.none),
         (1, AV.sl 2 (Seq.map T.encS ((0 : Int), (0 : Int)) b) Tip.none), (2, AV.fn (111 : FuncId) []),
         (7, AV.msl 2 0 0 k), (8, AV.int IntKind.i64 (if x_1 < x then x_1 else x))]
         [AObj.arr 2 (Seq.map T.encS ((0 : Int), (0 : Int)) o)] (q108_2 n Post)))
      (AWP Tryd.prog 34 n c108_8 [(7, AV.msl 2 0 0 k)] [AObj.arr 2 (Seq.map T.encS ((0 : Int), (0 : Int)) o)] (q108_0 n Post)) →
    AWP Tryd.prog 34 n c108_3
      [(0, AV.sl 2 (Seq.map T.encS ((0 : Int), (0 : Int)) a) Tip.none), (1, AV.sl 2 (Seq.map T.encS ((0 : Int), (0 : Int)) b) Tip.none),
        (2, AV.fn (111 : FuncId) []), (7, AV.msl 2 0 0 k), (8, AV.int IntKind.i64 p)]
      [AObj.arr 2 (Seq.map T.encS ((0 : Int), (0 : Int)) o)] (q108_2 n Post) := fun a b o k p n Post h => Go.Ab.AWP.loop' g108 (Cfg.live g108) c108_3 (by kernel_rfl) (by kernel_rfl) (Go.Ab.kc (by kernel_rfl) h)
theorem v108_3no : ∀ (a b : List T.Span) (p : Int) (n : Nat) (Post : AV → List AObj → Prop),
  condP (decide (p < (1000000000 : Int)))
      (ASpec Tryd.prog 138 [AV.sl 2 (Seq.map T.encS ((0 : Int), (0 : Int)) a) Tip.none, AV.int IntKind.i64 p] [] fun (r : AV) (H' : List AObj) =>
        ∃ (x : Int),
         r = AV.int IntKind.i64 x ∧
         H' = [] ∧
         ASpec Tryd.prog 138 [AV.sl 2 (Seq.map T.encS ((0 : Int), (0 : Int)) b) Tip.none, AV.int IntKind.i64 p] [] fun (r : AV) (H' : List AObj) =>
         ∃ (x_1 : Int),
         r = AV.int IntKind.i64 x_1 ∧
         H' = [] ∧
         ASpec Tryd.prog 66 [AV.sl 2 (Seq.map T.encS ((0 : Int), (0 : Int)) a) Tip.none, AV.int IntKind.i64 p] [] fun (r : AV) (H' : List AObj) =>
         ∃ (x_2 : Bool),
         r = AV.bool x_2 ∧
         H' = [] ∧
         ASpec Tryd.prog 66 [AV.sl 2 (Seq.map T.encS ((0 : Int), (0 : Int)) b) Tip.none, AV.int IntKind.i64 p] [] fun (r : AV) (H' : List AObj) =>
         ∃ (x_3 : Bool),
         r = AV.bool x_3 ∧
         H' = [] ∧
         ASpec Tryd.prog 109 [AV.bool x_2, AV.bool x_3] [] fun (r : AV) (H' : List AObj) =>
         ∃ (x_4 : Bool),
         r = AV.bool x_4 ∧
         H' = [] ∧
         condP x_4
         (ASpec Tryd.prog 139 [AV.sl 0 (Seq.raw []) Tip.nil, AV.agg [AV.int IntKind.i64 p, AV.int IntKind.i64 (if x_1 < x then x_1 else x)]] []
         fun (r : AV) (H' : List AObj) =>
         (∃ (x_5 : Int × Int),
         r = AV.msl 2 0 0 1 ∧
         H' = [AObj.arr 2 (Seq.map T.encS ((0 : Int), (0 : Int)) [x_5])] ∧
         AWP Tryd.prog 34 n c108_3
         [(0, AV.sl 2 (Seq.map T.encS ((0 : Int), (0 : Int)) a) Tip.none),
         (1, AV.sl 2 (Seq.map T.encS ((0 : Int), (0 : Int)) b) Tip.none), (2, AV.fn (109 : FuncId) []),
         (7, AV.msl 2 0 0 1), (8, AV.int IntKind.i64 (if x_1 < x then x_1 else x))]
         [AObj.arr 2 (Seq.map T.encS ((0 : Int), (0 : Int)) [x_5])] (q108_2 n Post)) ∨
         (∃ (x_5 : List T.Span),
         r = AV.sl 0 (Seq.raw []) Tip.nil ∧
         H' = [] ∧
         AWP Tryd.prog 34 n c108_3
         [(0, AV.sl 2 (Seq.map T.encS ((0 : Int), (0 : Int)) a) Tip.none),
         (1, AV.sl 2 (Seq.map T.encS ((0 : Int), (0 : Int)) b) Tip.none), (2, AV.fn (109 : FuncId) []),
         (7, AV.sl 0 (Seq.raw []) Tip.nil), (8, AV.int IntKind.i64 (if x_1 < x then x_1 else x))]
         [] (q108_2 n Post)) ∨
         ∃ (x_5 : List T.Span),
         r = AV.msl 2 0 0 (List.length x_5) ∧
         H' = [] ∧
         AWP Tryd.prog 34 n c108_3
         [(0, AV.sl 2 (Seq.map T.encS ((0 : Int), (0 : Int)) a) Tip.none),
         (1, AV.sl 2 (Seq.map T.encS ((0 : Int), (0 : Int)) b) Tip.none), (2, AV.fn (109 : FuncId) []),
         (7, AV.msl 2 0 0 (List.length x_5)), (8, AV.int IntKind.i64 (if x_1 < x then x_1 else x))]
         [] (q108_2 n Post))
         (AWP Tryd.prog 34 n c108_3
         [(0, AV.sl 2 (Seq.map T.encS ((0 : Int), (0 : Int)) a) Tip.none),
         (1, AV.sl 2 (Seq.map T.encS ((0 : Int), (0 : Int)) b) Tip.none), (2, AV.fn (109 : FuncId) []),
         (7, AV.sl 0 (Seq.raw []) Tip.nil), (8, AV.int IntKind.i64 (if x_1 < x then x_1 else x))]
         [] (q108_2 n Post)))
      (AWP Tryd.prog 34 n c108_8 [(7, AV.sl 0 (Seq.raw []) Tip.nil)] [] (q108_0 n Post)) →
    AWP Tryd.prog 34 n c108_3
      [(0, AV.sl 2 (Seq.map T.encS ((0 : Int), (0 : Int)) a) Tip.none), (1, AV.sl 2 (Seq.map T.encS ((0 : Int), (0 : Int)) b) Tip.none),
        (2, AV.fn (109 : FuncId) []), (7, AV.sl 0 (Seq.raw []) Tip.nil), (8, AV.int IntKind.i64 p)]
      [] (q108_2 n Post) := fun a b p n Post h => Go.Ab.AWP.loop' g108 (Cfg.live g108) c108_3 (by kernel_rfl) (by kernel_rfl) (Go.Ab.kc (by kernel_rfl) h)
theorem v108_3mo : ∀ (a b o : List T.Span) (k : Nat) (p : Int) (n : Nat) (Post : AV → List AObj → Prop),
  condP (decide (p < (1000000000 : Int)))
      (ASpec Tryd.prog 138 [AV.sl 2 (Seq.map T.encS ((0 : Int), (0 : Int)) a) Tip.none, AV.int IntKind.i64 p] [AObj.arr 2 (Seq.map T.encS ((0 : Int), (0 : Int)) o)]
        fun (r : AV) (H' : List AObj) =>
        ∃ (x : Int),
         r = AV.int IntKind.i64 x ∧
         H' = [AObj.arr 2 (Seq.map T.encS ((0 : Int), (0 : Int)) o)] ∧
         ASpec Tryd.prog 138 [AV.sl 2 (Seq.map T.encS ((0 : Int), (0 : Int)) b) Tip.none, AV.int IntKind.i64 p] [AObj.arr 2 (Seq.map T.encS ((0 : Int), (0 : Int)) o)]
         fun (r : AV) (H' : List AObj) =>
         ∃ (x_1 : Int),
         r = AV.int IntKind.i64 x_1 ∧
         H' = [AObj.arr 2 (Seq.map T.encS ((0 : Int), (0 : Int)) o)] ∧
         ASpec Tryd.prog 66 [AV.sl 2 (Seq.map T.encS ((0 : Int), (0 : Int)) a) Tip.none, AV.int IntKind.i64 p]
         [AObj.arr 2 (Seq.map T.encS ((0 : Int), (0 : Int)) o)] fun (r : AV) (H' : List AObj) =>
         ∃ (x_2 : Bool),
         r = AV.bool x_2 ∧
         H' = [AObj.arr 2 (Seq.map T.encS ((0 : Int), (0 : Int)) o)] ∧
         ASpec Tryd.prog 66 [AV.sl 2 (Seq.map T.encS ((0 : Int), (0 : Int)) b) Tip.none, AV.int IntKind.i64 p]
         [AObj.arr 2 (Seq.map T.encS ((0 : Int), (0 : Int)) o)] fun (r : AV) (H' : List AObj) =>
         ∃ (x_3 : Bool),
         r = AV.bool x_3 ∧
         H' = [AObj.arr 2 (Seq.map T.encS ((0 : Int), (0 : Int)) o)] ∧
         ASpec Tryd.prog 109 [AV.bool x_2, AV.bool x_3] [AObj.arr 2 (Seq.map T.encS ((0 : Int), (0 : Int)) o)] fun (r : AV) (H' : List AObj) =>
         ∃ (x_4 : Bool),
         r = AV.bool x_4 ∧
         H' = [AObj.arr 2 (Seq.map T.encS ((0 : Int), (0 : Int)) o)] ∧
         condP x_4
         (ASpec Tryd.prog 139 [AV.msl 2 0 0 k, AV.agg [AV.int IntKind.i64 p, AV.int IntKind.i64 (if x_1 < x then x_1 else x)]]
         [AObj.arr 2 (Seq.map T.encS ((0 : Int), (0 : Int)) o)] fun (r : AV) (H' : List AObj) =>
         (∃ (x_5 : Int × Int),
         r = AV.msl 2 1 0 1 ∧
         H' = [AObj.arr 2 (Seq.map T.encS ((0 : Int), (0 : Int)) o), AObj.arr 2 (Seq.map T.encS ((0 : Int), (0 : Int)) [x_5])] ∧
         AWP Tryd.prog 34 n c108_3
         [(0, AV.sl 2 (Seq.map T.encS ((0 : Int), (0 : Int)) a) Tip.none),
         (1, AV.sl 2 (Seq.map T.encS ((0 : Int), (0 : Int)) b) Tip.none), (2, AV.fn (109 : FuncId) []),
         (7, AV.msl 2 1 0 1), (8, AV.int IntKind.i64 (if x_1 < x then x_1 else x))]
         [AObj.arr 2 (Seq.map T.encS ((0 : Int), (0 : Int)) o), AObj.arr 2 (Seq.map T.encS ((0 : Int), (0 : Int)) [x_5])]
         (q108_2 n Post)) ∨
         (∃ (x_5 : List T.Span),
         r = AV.msl 2 0 0 k ∧
         H' = [AObj.arr 2 (Seq.map T.encS ((0 : Int), (0 : Int)) x_5)] ∧
         AWP Tryd.prog 34 n c108_3
         [(0, AV.sl 2 (Seq.map T.encS ((0 : Int), (0 : Int)) a) Tip.none),
         (1, AV.sl 2 (Seq.map T.encS ((0 : Int), (0 : Int)) b) Tip.none), (2, AV.fn (109 : FuncId) []),
         (7, AV.msl 2 0 0 k), (8, AV.int IntKind.i64 (if x_1 < x then x_1 else x))]
         [AObj.arr 2 (Seq.map T.encS ((0 : Int), (0 : Int)) x_5)] (q108_2 n Post)) ∨
         ∃ (x_5 : List T.Span),
         r = AV.msl 2 1 0 (List.length x_5) ∧
         H' = [AObj.gone, AObj.arr 2 (Seq.map T.encS ((0 : Int), (0 : Int)) x_5)] ∧
         AWP Tryd.prog 34 n c108_3
         [(0, AV.sl 2 (Seq.map T.encS ((0 : Int), (0 : Int)) a) Tip.none),
         (1, AV.sl 2 (Seq.map T.encS ((0 : Int), (0 : Int)) b) Tip.none), (2, AV.fn (109 : FuncId) []),
         (7, AV.msl 2 1 0 (List.length x_5)), (8, AV.int IntKind.i64 (if x_1 < x then x_1 else x))]
         [AObj.gone, AObj.arr 2 (Seq.map T.encS ((0 : Int), (0 : Int)) x_5)] (q108_2 n Post))
         (AWP Tryd.prog 34 n c108_3
         [(0, AV.sl 2 (Seq.map T.encS ((0 : Int), (0 : Int)) a) Tip.none),
         (1, AV.sl 2 (Seq.map T.encS ((0 : Int), (0 : Int)) b) Tip.none), (2, AV.fn (109 : FuncId) []),
         (7, AV.msl 2 0 0 k), (8, AV.int IntKind.i64 (if x_1 < x then x_1 else x))]
         [AObj.arr 2 (Seq.map T.encS ((0 : Int), (0 : Int)) o)] (q108_2 n Post)))
      (AWP Tryd.prog 34 n c108_8 [(7, AV.msl 2 0 0 k)] [AObj.arr 2 (Seq.map T.encS ((0 : Int), (0 : Int)) o)] (q108_0 n Post)) →
    AWP Tryd.prog 34 n c108_3
      [(0, AV.sl 2 (Seq.map T.encS ((0 : Int), (0 : Int)) a) Tip.none), (1, AV.sl 2 (Seq.map T.encS ((0 : Int), (0 : Int)) b) Tip.none),
        (2, AV.fn (109 : FuncId) []), (7, AV.msl 2 0 0 k), (8, AV.int IntKind.i64 p)]
      [AObj.arr 2 (Seq.map T.encS ((0 : Int), (0 : Int)) o)] (q108_2 n Post) := fun a b o k p n Post h => Go.Ab.AWP.loop' g108 (Cfg.live g108) c108_3 (by kernel_rfl) (by kernel_rfl) (Go.Ab.kc (by kernel_rfl) h)
theorem v108_8n : ∀ (n : Nat) (Post : AV → List AObj → Prop), Post (AV.sl 0 (Seq.raw []) Tip.nil) [] → AWP Tryd.prog 34 n c108_8 [(7, AV.sl 0 (Seq.raw []) Tip.nil)] [] (q108_0 n Post) := fun n Post h => Go.Ab.awp_sound g108 n _ _ _ _ (Go.Ab.kc (by kernel_rfl) h)
theorem v108_8s : ∀ (o : List T.Span) (n : Nat) (Post : AV → List AObj → Prop),
  Post (AV.sl 2 (Seq.map T.encS ((0 : Int), (0 : Int)) o) Tip.none) [] →
    AWP Tryd.prog 34 n c108_8 [(7, AV.sl 2 (Seq.map T.encS ((0 : Int), (0 : Int)) o) Tip.none)] [] (q108_0 n Post) := fun o n Post h => Go.Ab.awp_sound g108 n _ _ _ _ (Go.Ab.kc (by kernel_rfl) h)

-- 52
noncomputable def l52 : Nat → List Nat
  | _ => []
noncomputable def u52 : Nat → Bool
  | _ => false
noncomputable def m52 : Nat → Bool
  | _ => false
noncomputable def g52 : Cfg := { N := 5, live := l52, cut := u52, mu := m52, ret := rets }
theorem s52 : ∀ (l : List T.Span) (Post : AV → List AObj → Prop),
  (ASpec Tryd.prog 108 [AV.sl 2 (Seq.map T.encS ((0 : Int), (0 : Int)) l) Tip.none, AV.sl 0 (Seq.raw []) Tip.nil, AV.fn 109 []] [] fun (r : AV) (H' : List AObj) =>
      ∃ (x : List T.Span), r = AV.sl 2 (Seq.map T.encS ((0 : Int), (0 : Int)) x) Tip.none ∧ H' = [] ∧ Post (AV.sl 2 (Seq.map T.encS ((0 : Int), (0 : Int)) x) Tip.none) []) →
    ASpec Tryd.prog 52 [AV.sl 2 (Seq.map T.encS ((0 : Int), (0 : Int)) l) Tip.none] [] Post := fun l Post h => Go.Ab.ASpec.of_vc g52 Go.Proofs.Tryd.func52 (by kernel_rfl) (by kernel_rfl) (by kernel_rfl) (Go.Ab.kc (by kernel_rfl) h)

-- 56
noncomputable def l56 : Nat → List Nat
  | _ => []
noncomputable def u56 : Nat → Bool
  | _ => false
noncomputable def m56 : Nat → Bool
  | _ => false
noncomputable def g56 : Cfg := { N := 8, live := l56, cut := u56, mu := m56, ret := rets }
theorem s56 : ∀ (a b : List T.Span) (Post : AV → List AObj → Prop),
  (ASpec Tryd.prog 108 [AV.sl 2 (Seq.map T.encS ((0 : Int), (0 : Int)) a) Tip.none, AV.sl 2 (Seq.map T.encS ((0 : Int), (0 : Int)) b) Tip.none, AV.fn 111 []] []
      fun (r : AV) (H' : List AObj) =>
      ∃ (x : List T.Span), r = AV.sl 2 (Seq.map T.encS ((0 : Int), (0 : Int)) x) Tip.none ∧ H' = [] ∧ Post (AV.sl 2 (Seq.map T.encS ((0 : Int), (0 : Int)) x) Tip.none) []) →
    ASpec Tryd.prog 56 [AV.sl 2 (Seq.map T.encS ((0 : Int), (0 : Int)) a) Tip.none, AV.sl 2 (Seq.map T.encS ((0 : Int), (0 : Int)) b) Tip.none] [] Post := fun a b Post h => Go.Ab.ASpec.of_vc g56 Go.Proofs.Tryd.func56 (by kernel_rfl) (by kernel_rfl) (by kernel_rfl) (Go.Ab.kc (by kernel_rfl) h)

-- 53
noncomputable def l53 : Nat → List Nat
  | _ => []
noncomputable def u53 : Nat → Bool
  | _ => false
noncomputable def m53 : Nat → Bool
  | _ => false
noncomputable def g53 : Cfg := { N := 25, live := l53, cut := u53, mu := m53, ret := rets }
theorem s53m : ∀ (a b : T.Term) (n : Bool) (Post : AV → List AObj → Prop),
  condP (!ByteArray.toList { data := List.toArray (Prod.fst a) } == ByteArray.toList { data := List.toArray (Prod.fst b) })
      (Post (AV.agg [AV.str { data := #[] }, AV.sl 0 (Seq.raw []) Tip.nil, AV.bool false])
        [AObj.cells [AV.str { data := List.toArray (Prod.fst a) }, AV.sl 2 (Seq.map T.encS ((0 : Int), (0 : Int)) (Prod.fst (Prod.snd a))) Tip.none, AV.bool (Prod.snd (Prod.snd a))],
         AObj.cells [AV.str { data := List.toArray (Prod.fst b) }, AV.sl 2 (Seq.map T.encS ((0 : Int), (0 : Int)) (Prod.fst (Prod.snd b))) Tip.none, AV.bool (Prod.snd (Prod.snd b))],
         AObj.cells [AV.str { data := #[] }, AV.sl 0 (Seq.raw []) Tip.nil, AV.bool false]])
      (ASpec Tryd.prog 54
        [AV.sl 2 (Seq.map T.encS ((0 : Int), (0 : Int)) (Prod.fst (Prod.snd a))) Tip.none, AV.sl 2 (Seq.map T.encS ((0 : Int), (0 : Int)) (Prod.fst (Prod.snd b))) Tip.none]
        [AObj.cells [AV.str { data := List.toArray (Prod.fst a) }, AV.sl 2 (Seq.map T.encS ((0 : Int), (0 : Int)) (Prod.fst (Prod.snd a))) Tip.none, AV.bool (Prod.snd (Prod.snd a))],
         AObj.cells [AV.str { data := List.toArray (Prod.fst b) }, AV.sl 2 (Seq.map T.encS ((0 : Int), (0 : Int)) (Prod.fst (Prod.snd b))) Tip.none, AV.bool (Prod.snd (Prod.snd b))],
         AObj.cells [AV.str { data := #[] }, AV.sl 0 (Seq.raw []) Tip.nil, AV.bool false]]
        fun (r : AV) (H' : List AObj) =>
        ∃ (x : List T.Span),
         r = AV.sl 2 (Seq.map T.encS ((0 : Int), (0 : Int)) x) Tip.none ∧
         H' =
         [AObj.cells [AV.str { data := List.toArray (Prod.fst a) }, AV.sl 2 (Seq.map T.encS ((0 : Int), (0 : Int)) (Prod.fst (Prod.snd a))) Tip.none, AV.bool (Prod.snd (Prod.snd a))],
         AObj.cells [AV.str { data := List.toArray (Prod.fst b) }, AV.sl 2 (Seq.map T.encS ((0 : Int), (0 : Int)) (Prod.fst (Prod.snd b))) Tip.none, AV.bool (Prod.snd (Prod.snd b))],
         AObj.cells [AV.str { data := #[] }, AV.sl 0 (Seq.raw []) Tip.nil, AV.bool false]] ∧
         (AV.str { data := List.toArray (Prod.fst a) } = AV.str { data := List.toArray (Prod.fst a) } ∧
         [AObj.cells [AV.str { data := List.toArray (Prod.fst a) }, AV.sl 2 (Seq.map T.encS ((0 : Int), (0 : Int)) (Prod.fst (Prod.snd a))) Tip.none, AV.bool (Prod.snd (Prod.snd a))],
         AObj.cells
         [AV.str { data := List.toArray (Prod.fst b) }, AV.sl 2 (Seq.map T.encS ((0 : Int), (0 : Int)) (Prod.fst (Prod.snd b))) Tip.none, AV.bool (Prod.snd (Prod.snd b))],
         AObj.cells [AV.str { data := #[] }, AV.sl 0 (Seq.raw []) Tip.nil, AV.bool false]] =
         [AObj.cells
         [AV.str { data := List.toArray (Prod.fst a) }, AV.sl 2 (Seq.map T.encS ((0 : Int), (0 : Int)) (Prod.fst (Prod.snd a))) Tip.none, AV.bool (Prod.snd (Prod.snd a))],
         AObj.cells
         [AV.str { data := List.toArray (Prod.fst b) }, AV.sl 2 (Seq.map T.encS ((0 : Int), (0 : Int)) (Prod.fst (Prod.snd b))) Tip.none, AV.bool (Prod.snd (Prod.snd b))],
         AObj.cells [AV.str { data := #[] }, AV.sl 0 (Seq.raw []) Tip.nil, AV.bool false]]) ∧
         Post (AV.agg [AV.str { data := List.toArray (Prod.fst a) }, AV.sl 2 (Seq.map T.encS ((0 : Int), (0 : Int)) x) Tip.none, AV.bool n])
         [AObj.cells [AV.str { data := List.toArray (Prod.fst a) }, AV.sl 2 (Seq.map T.encS ((0 : Int), (0 : Int)) (Prod.fst (Prod.snd a))) Tip.none, AV.bool (Prod.snd (Prod.snd a))],
         AObj.cells
         [AV.str { data := List.toArray (Prod.fst b) }, AV.sl 2 (Seq.map T.encS ((0 : Int), (0 : Int)) (Prod.fst (Prod.snd b))) Tip.none, AV.bool (Prod.snd (Prod.snd b))],
         AObj.cells [AV.str { data := List.toArray (Prod.fst a) }, AV.sl 2 (Seq.map T.encS ((0 : Int), (0 : Int)) x) Tip.none, AV.bool n]]) →
    ASpec Tryd.prog 53 [AV.agg (T.encT a), AV.agg (T.encT b), AV.fn (54 : FuncId) [], AV.bool n] [] Post := fun a b n Post h => Go.Ab.ASpec.of_vc g53 Go.Proofs.Tryd.func53 (by kernel_rfl) (by kernel_rfl) (by kernel_rfl) (Go.Ab.kc (by kernel_rfl) h)
theorem s53j : ∀ (a b : T.Term) (n : Bool) (Post : AV → List AObj → Prop),
  condP (!ByteArray.toList { data := List.toArray (Prod.fst a) } == ByteArray.toList { data := List.toArray (Prod.fst b) })
      (Post (AV.agg [AV.str { data := #[] }, AV.sl 0 (Seq.raw []) Tip.nil, AV.bool false])
        [AObj.cells [AV.str { data := List.toArray (Prod.fst a) }, AV.sl 2 (Seq.map T.encS ((0 : Int), (0 : Int)) (Prod.fst (Prod.snd a))) Tip.none, AV.bool (Prod.snd (Prod.snd a))],
         AObj.cells [AV.str { data := List.toArray (Prod.fst b) }, AV.sl 2 (Seq.map T.encS ((0 : Int), (0 : Int)) (Prod.fst (Prod.snd b))) Tip.none, AV.bool (Prod.snd (Prod.snd b))],
         AObj.cells [AV.str { data := #[] }, AV.sl 0 (Seq.raw []) Tip.nil, AV.bool false]])
      (ASpec Tryd.prog 56
        [AV.sl 2 (Seq.map T.encS ((0 : Int), (0 : Int)) (Prod.fst (Prod.snd a))) Tip.none, AV.sl 2 (Seq.map T.encS ((0 : Int), (0 : Int)) (Prod.fst (Prod.snd b))) Tip.none]
        [AObj.cells [AV.str { data := List.toArray (Prod.fst a) }, AV.sl 2 (Seq.map T.encS ((0 : Int), (0 : Int)) (Prod.fst (Prod.snd a))) Tip.none, AV.bool (Prod.snd (Prod.snd a))],
         AObj.cells [AV.str { data := List.toArray (Prod.fst b) }, AV.sl 2 (Seq.map T.encS ((0 : Int), (0 : Int)) (Prod.fst (Prod.snd b))) Tip.none, AV.bool (Prod.snd (Prod.snd b))],
         AObj.cells [AV.str { data := #[] }, AV.sl 0 (Seq.raw []) Tip.nil, AV.bool false]]
        fun (r : AV) (H' : List AObj) =>
        ∃ (x : List T.Span),
         r = AV.sl 2 (Seq.map T.encS ((0 : Int), (0 : Int)) x) Tip.none ∧
         H' =
         [AObj.cells [AV.str { data := List.toArray (Prod.fst a) }, AV.sl 2 (Seq.map T.encS ((0 : Int), (0 : Int)) (Prod.fst (Prod.snd a))) Tip.none, AV.bool (Prod.snd (Prod.snd a))],
         AObj.cells [AV.str { data := List.toArray (Prod.fst b) }, AV.sl 2 (Seq.map T.encS ((0 : Int), (0 : Int)) (Prod.fst (Prod.snd b))) Tip.none, AV.bool (Prod.snd (Prod.snd b))],
         AObj.cells [AV.str { data := #[] }, AV.sl 0 (Seq.raw []) Tip.nil, AV.bool false]] ∧
         (AV.str { data := List.toArray (Prod.fst a) } = AV.str { data := List.toArray (Prod.fst a) } ∧
         [AObj.cells [AV.str { data := List.toArray (Prod.fst a) }, AV.sl 2 (Seq.map T.encS ((0 : Int), (0 : Int)) (Prod.fst (Prod.snd a))) Tip.none, AV.bool (Prod.snd (Prod.snd a))],
         AObj.cells
         [AV.str { data := List.toArray (Prod.fst b) }, AV.sl 2 (Seq.map T.encS ((0 : Int), (0 : Int)) (Prod.fst (Prod.snd b))) Tip.none, AV.bool (Prod.snd (Prod.snd b))],
         AObj.cells [AV.str { data := #[] }, AV.sl 0 (Seq.raw []) Tip.nil, AV.bool false]] =
         [AObj.cells
         [AV.str { data := List.toArray (Prod.fst a) }, AV.sl 2 (Seq.map T.encS ((0 : Int), (0 : Int)) (Prod.fst (Prod.snd a))) Tip.none, AV.bool (Prod.snd (Prod.snd a))],
         AObj.cells
         [AV.str { data := List.toArray (Prod.fst b) }, AV.sl 2 (Seq.map T.encS ((0 : Int), (0 : Int)) (Prod.fst (Prod.snd b))) Tip.none, AV.bool (Prod.snd (Prod.snd b))],
         AObj.cells [AV.str { data := #[] }, AV.sl 0 (Seq.raw []) Tip.nil, AV.bool false]]) ∧
         Post (AV.agg [AV.str { data := List.toArray (Prod.fst a) }, AV.sl 2 (Seq.map T.encS ((0 : Int), (0 : Int)) x) Tip.none, AV.bool n])
         [AObj.cells [AV.str { data := List.toArray (Prod.fst a) }, AV.sl 2 (Seq.map T.encS ((0 : Int), (0 : Int)) (Prod.fst (Prod.snd a))) Tip.none, AV.bool (Prod.snd (Prod.snd a))],
         AObj.cells
         [AV.str { data := List.toArray (Prod.fst b) }, AV.sl 2 (Seq.map T.encS ((0 : Int), (0 : Int)) (Prod.fst (Prod.snd b))) Tip.none, AV.bool (Prod.snd (Prod.snd b))],
         AObj.cells [AV.str { data := List.toArray (Prod.fst a) }, AV.sl 2 (Seq.map T.encS ((0 : Int), (0 : Int)) x) Tip.none, AV.bool n]]) →
    ASpec Tryd.prog 53 [AV.agg (T.encT a), AV.agg (T.encT b), AV.fn (56 : FuncId) [], AV.bool n] [] Post := fun a b n Post h => Go.Ab.ASpec.of_vc g53 Go.Proofs.Tryd.func53 (by kernel_rfl) (by kernel_rfl) (by kernel_rfl) (Go.Ab.kc (by kernel_rfl) h)

-- 13
noncomputable def l13 : Nat → List Nat
  | _ => []
noncomputable def u13 : Nat → Bool
  | _ => false
noncomputable def m13 : Nat → Bool
  | _ => false
noncomputable def g13 : Cfg := { N := 14, live := l13, cut := u13, mu := m13, ret := rets }
theorem s13 : ∀ (a b : T.Term) (Post : AV → List AObj → Prop),
  condP (Prod.snd (Prod.snd a))
      (ASpec Tryd.prog 53
        [AV.agg [AV.str { data := List.toArray (Prod.fst a) }, AV.sl 2 (Seq.map T.encS ((0 : Int), (0 : Int)) (Prod.fst (Prod.snd a))) Tip.none, AV.bool (Prod.snd (Prod.snd a))],
         AV.agg [AV.str { data := List.toArray (Prod.fst b) }, AV.sl 2 (Seq.map T.encS ((0 : Int), (0 : Int)) (Prod.fst (Prod.snd b))) Tip.none, AV.bool (Prod.snd (Prod.snd b))],
         AV.fn 54 [], AV.bool (Prod.snd (Prod.snd b))]
        [AObj.cells [AV.str { data := List.toArray (Prod.fst a) }, AV.sl 2 (Seq.map T.encS ((0 : Int), (0 : Int)) (Prod.fst (Prod.snd a))) Tip.none, AV.bool (Prod.snd (Prod.snd a))],
         AObj.cells [AV.str { data := List.toArray (Prod.fst b) }, AV.sl 2 (Seq.map T.encS ((0 : Int), (0 : Int)) (Prod.fst (Prod.snd b))) Tip.none, AV.bool (Prod.snd (Prod.snd b))],
         AObj.cells [AV.str { data := #[] }, AV.sl 0 (Seq.raw []) Tip.nil, AV.bool false]]
        fun (r : AV) (H' : List AObj) =>
        ∃ (x : List UInt8 × List T.Span × Bool),
         r = AV.agg [AV.str { data := List.toArray (Prod.fst x) }, AV.sl 2 (Seq.map T.encS ((0 : Int), (0 : Int)) (Prod.fst (Prod.snd x))) Tip.none, AV.bool (Prod.snd (Prod.snd x))] ∧
         H' =
         [AObj.cells [AV.str { data := List.toArray (Prod.fst a) }, AV.sl 2 (Seq.map T.encS ((0 : Int), (0 : Int)) (Prod.fst (Prod.snd a))) Tip.none, AV.bool (Prod.snd (Prod.snd a))],
         AObj.cells [AV.str { data := List.toArray (Prod.fst b) }, AV.sl 2 (Seq.map T.encS ((0 : Int), (0 : Int)) (Prod.fst (Prod.snd b))) Tip.none, AV.bool (Prod.snd (Prod.snd b))],
         AObj.cells [AV.str { data := #[] }, AV.sl 0 (Seq.raw []) Tip.nil, AV.bool false]] ∧
         Post (AV.agg [AV.str { data := List.toArray (Prod.fst x) }, AV.sl 2 (Seq.map T.encS ((0 : Int), (0 : Int)) (Prod.fst (Prod.snd x))) Tip.none, AV.bool (Prod.snd (Prod.snd x))])
         [AObj.cells [AV.str { data := List.toArray (Prod.fst a) }, AV.sl 2 (Seq.map T.encS ((0 : Int), (0 : Int)) (Prod.fst (Prod.snd a))) Tip.none, AV.bool (Prod.snd (Prod.snd a))],
         AObj.cells [AV.str { data := List.toArray (Prod.fst b) }, AV.sl 2 (Seq.map T.encS ((0 : Int), (0 : Int)) (Prod.fst (Prod.snd b))) Tip.none, AV.bool (Prod.snd (Prod.snd b))],
         AObj.cells [AV.str { data := List.toArray (Prod.fst x) }, AV.sl 2 (Seq.map T.encS ((0 : Int), (0 : Int)) (Prod.fst (Prod.snd x))) Tip.none, AV.bool (Prod.snd (Prod.snd x))]])
      (ASpec Tryd.prog 53
        [AV.agg [AV.str { data := List.toArray (Prod.fst a) }, AV.sl 2 (Seq.map T.encS ((0 : Int), (0 : Int)) (Prod.fst (Prod.snd a))) Tip.none, AV.bool (Prod.snd (Prod.snd a))],
         AV.agg [AV.str { data := List.toArray (Prod.fst b) }, AV.sl 2 (Seq.map T.encS ((0 : Int), (0 : Int)) (Prod.fst (Prod.snd b))) Tip.none, AV.bool (Prod.snd (Prod.snd b))],
         AV.fn 54 [], AV.bool false]
        [AObj.cells [AV.str { data := List.toArray (Prod.fst a) }, AV.sl 2 (Seq.map T.encS ((0 : Int), (0 : Int)) (Prod.fst (Prod.snd a))) Tip.none, AV.bool (Prod.snd (Prod.snd a))],
         AObj.cells [AV.str { data := List.toArray (Prod.fst b) }, AV.sl 2 (Seq.map T.encS ((0 : Int), (0 : Int)) (Prod.fst (Prod.snd b))) Tip.none, AV.bool (Prod.snd (Prod.snd b))],
         AObj.cells [AV.str { data := #[] }, AV.sl 0 (Seq.raw []) Tip.nil, AV.bool false]]
        fun (r : AV) (H' : List AObj) =>
        ∃ (x : List UInt8 × List T.Span × Bool),
         r = AV.agg [AV.str { data := List.toArray (Prod.fst x) }, AV.sl 2 (Seq.map T.encS ((0 : Int), (0 : Int)) (Prod.fst (Prod.snd x))) Tip.none, AV.bool (Prod.snd (Prod.snd x))] ∧
         H' =
         [AObj.cells [AV.str { data := List.toArray (Prod.fst a) }, AV.sl 2 (Seq.map T.encS ((0 : Int), (0 : Int)) (Prod.fst (Prod.snd a))) Tip.none, AV.bool (Prod.snd (Prod.snd a))],
         AObj.cells [AV.str { data := List.toArray (Prod.fst b) }, AV.sl 2 (Seq.map T.encS ((0 : Int), (0 : Int)) (Prod.fst (Prod.snd b))) Tip.none, AV.bool (Prod.snd (Prod.snd b))],
         AObj.cells [AV.str { data := #[] }, AV.sl 0 (Seq.raw []) Tip.nil, AV.bool false]] ∧
         Post (AV.agg [AV.str { data := List.toArray (Prod.fst x) }, AV.sl 2 (Seq.map T.encS ((0 : Int), (0 : Int)) (Prod.fst (Prod.snd x))) Tip.none, AV.bool (Prod.snd (Prod.snd x))])
         [AObj.cells [AV.str { data := List.toArray (Prod.fst a) }, AV.sl 2 (Seq.map T.encS ((0 : Int), (0 : Int)) (Prod.fst (Prod.snd a))) Tip.none, AV.bool (Prod.snd (Prod.snd a))],
         AObj.cells [AV.str { data := List.toArray (Prod.fst b) }, AV.sl 2 (Seq.map T.encS ((0 : Int), (0 : Int)) (Prod.fst (Prod.snd b))) Tip.none, AV.bool (Prod.snd (Prod.snd b))],
         AObj.cells
         [AV.str { data := List.toArray (Prod.fst x) }, AV.sl 2 (Seq.map T.encS ((0 : Int), (0 : Int)) (Prod.fst (Prod.snd x))) Tip.none, AV.bool (Prod.snd (Prod.snd x))]]) →
    ASpec Tryd.prog 13 [AV.agg (T.encT a), AV.agg (T.encT b)] [] Post := fun a b Post h => Go.Ab.ASpec.of_vc g13 Go.Proofs.Tryd.func13 (by kernel_rfl) (by kernel_rfl) (by kernel_rfl) (Go.Ab.kc (by kernel_rfl) h)

-- 15
noncomputable def l15 : Nat → List Nat
  | _ => []
noncomputable def u15 : Nat → Bool
  | _ => false
noncomputable def m15 : Nat → Bool
  | _ => false
noncomputable def g15 : Cfg := { N := 14, live := l15, cut := u15, mu := m15, ret := rets }
theorem s15 : ∀ (a b : T.Term) (Post : AV → List AObj → Prop),
  condP (Prod.snd (Prod.snd a))
      (ASpec Tryd.prog 53
        [AV.agg [AV.str { data := List.toArray (Prod.fst a) }, AV.sl 2 (Seq.map T.encS ((0 : Int), (0 : Int)) (Prod.fst (Prod.snd a))) Tip.none, AV.bool (Prod.snd (Prod.snd a))],
         AV.agg [AV.str { data := List.toArray (Prod.fst b) }, AV.sl 2 (Seq.map T.encS ((0 : Int), (0 : Int)) (Prod.fst (Prod.snd b))) Tip.none, AV.bool (Prod.snd (Prod.snd b))],
         AV.fn 56 [], AV.bool true]
        [AObj.cells [AV.str { data := List.toArray (Prod.fst a) }, AV.sl 2 (Seq.map T.encS ((0 : Int), (0 : Int)) (Prod.fst (Prod.snd a))) Tip.none, AV.bool (Prod.snd (Prod.snd a))],
         AObj.cells [AV.str { data := List.toArray (Prod.fst b) }, AV.sl 2 (Seq.map T.encS ((0 : Int), (0 : Int)) (Prod.fst (Prod.snd b))) Tip.none, AV.bool (Prod.snd (Prod.snd b))],
         AObj.cells [AV.str { data := #[] }, AV.sl 0 (Seq.raw []) Tip.nil, AV.bool false]]
        fun (r : AV) (H' : List AObj) =>
        ∃ (x : List UInt8 × List T.Span × Bool),
         r = AV.agg [AV.str { data := List.toArray (Prod.fst x) }, AV.sl 2 (Seq.map T.encS ((0 : Int), (0 : Int)) (Prod.fst (Prod.snd x))) Tip.none, AV.bool (Prod.snd (Prod.snd x))] ∧
         H' =
         [AObj.cells [AV.str { data := List.toArray (Prod.fst a) }, AV.sl 2 (Seq.map T.encS ((0 : Int), (0 : Int)) (Prod.fst (Prod.snd a))) Tip.none, AV.bool (Prod.snd (Prod.snd a))],
         AObj.cells [AV.str { data := List.toArray (Prod.fst b) }, AV.sl 2 (Seq.map T.encS ((0 : Int), (0 : Int)) (Prod.fst (Prod.snd b))) Tip.none, AV.bool (Prod.snd (Prod.snd b))],
         AObj.cells [AV.str { data := #[] }, AV.sl 0 (Seq.raw []) Tip.nil, AV.bool false]] ∧
         Post (AV.agg [AV.str { data := List.toArray (Prod.fst x) }, AV.sl 2 (Seq.map T.encS ((0 : Int), (0 : Int)) (Prod.fst (Prod.snd x))) Tip.none, AV.bool (Prod.snd (Prod.snd x))])
         [AObj.cells [AV.str { data := List.toArray (Prod.fst a) }, AV.sl 2 (Seq.map T.encS ((0 : Int), (0 : Int)) (Prod.fst (Prod.snd a))) Tip.none, AV.bool (Prod.snd (Prod.snd a))],
         AObj.cells [AV.str { data := List.toArray (Prod.fst b) }, AV.sl 2 (Seq.map T.encS ((0 : Int), (0 : Int)) (Prod.fst (Prod.snd b))) Tip.none, AV.bool (Prod.snd (Prod.snd b))],
         AObj.cells [AV.str { data := List.toArray (Prod.fst x) }, AV.sl 2 (Seq.map T.encS ((0 : Int), (0 : Int)) (Prod.fst (Prod.snd x))) Tip.none, AV.bool (Prod.snd (Prod.snd x))]])
      (ASpec Tryd.prog 53
        [AV.agg [AV.str { data := List.toArray (Prod.fst a) }, AV.sl 2 (Seq.map T.encS ((0 : Int), (0 : Int)) (Prod.fst (Prod.snd a))) Tip.none, AV.bool (Prod.snd (Prod.snd a))],
         AV.agg [AV.str { data := List.toArray (Prod.fst b) }, AV.sl 2 (Seq.map T.encS ((0 : Int), (0 : Int)) (Prod.fst (Prod.snd b))) Tip.none, AV.bool (Prod.snd (Prod.snd b))],
         AV.fn 56 [], AV.bool (Prod.snd (Prod.snd b))]
        [AObj.cells [AV.str { data := List.toArray (Prod.fst a) }, AV.sl 2 (Seq.map T.encS ((0 : Int), (0 : Int)) (Prod.fst (Prod.snd a))) Tip.none, AV.bool (Prod.snd (Prod.snd a))],
         AObj.cells [AV.str { data := List.toArray (Prod.fst b) }, AV.sl 2 (Seq.map T.encS ((0 : Int), (0 : Int)) (Prod.fst (Prod.snd b))) Tip.none, AV.bool (Prod.snd (Prod.snd b))],
         AObj.cells [AV.str { data := #[] }, AV.sl 0 (Seq.raw []) Tip.nil, AV.bool false]]
        fun (r : AV) (H' : List AObj) =>
        ∃ (x : List UInt8 × List T.Span × Bool),
         r = AV.agg [AV.str { data := List.toArray (Prod.fst x) }, AV.sl 2 (Seq.map T.encS ((0 : Int), (0 : Int)) (Prod.fst (Prod.snd x))) Tip.none, AV.bool (Prod.snd (Prod.snd x))] ∧
         H' =
         [AObj.cells [AV.str { data := List.toArray (Prod.fst a) }, AV.sl 2 (Seq.map T.encS ((0 : Int), (0 : Int)) (Prod.fst (Prod.snd a))) Tip.none, AV.bool (Prod.snd (Prod.snd a))],
         AObj.cells [AV.str { data := List.toArray (Prod.fst b) }, AV.sl 2 (Seq.map T.encS ((0 : Int), (0 : Int)) (Prod.fst (Prod.snd b))) Tip.none, AV.bool (Prod.snd (Prod.snd b))],
         AObj.cells [AV.str { data := #[] }, AV.sl 0 (Seq.raw []) Tip.nil, AV.bool false]] ∧
         Post (AV.agg [AV.str { data := List.toArray (Prod.fst x) }, AV.sl 2 (Seq.map T.encS ((0 : Int), (0 : Int)) (Prod.fst (Prod.snd x))) Tip.none, AV.bool (Prod.snd (Prod.snd x))])
         [AObj.cells [AV.str { data := List.toArray (Prod.fst a) }, AV.sl 2 (Seq.map T.encS ((0 : Int), (0 : Int)) (Prod.fst (Prod.snd a))) Tip.none, AV.bool (Prod.snd (Prod.snd a))],
         AObj.cells [AV.str { data := List.toArray (Prod.fst b) }, AV.sl 2 (Seq.map T.encS ((0 : Int), (0 : Int)) (Prod.fst (Prod.snd b))) Tip.none, AV.bool (Prod.snd (Prod.snd b))],
         AObj.cells
         [AV.str { data := List.toArray (Prod.fst x) }, AV.sl 2 (Seq.map T.encS ((0 : Int), (0 : Int)) (Prod.fst (Prod.snd x))) Tip.none, AV.bool (Prod.snd (Prod.snd x))]]) →
    ASpec Tryd.prog 15 [AV.agg (T.encT a), AV.agg (T.encT b)] [] Post := fun a b Post h => Go.Ab.ASpec.of_vc g15 Go.Proofs.Tryd.func15 (by kernel_rfl) (by kernel_rfl) (by kernel_rfl) (Go.Ab.kc (by kernel_rfl) h)

-- 11
noncomputable def l11 : Nat → List Nat
  | _ => []
noncomputable def u11 : Nat → Bool
  | _ => false
noncomputable def m11 : Nat → Bool
  | _ => false
noncomputable def g11 : Cfg := { N := 12, live := l11, cut := u11, mu := m11, ret := rets }
theorem s11 : ∀ (a : T.Term) (Post : AV → List AObj → Prop),
  (ASpec Tryd.prog 52 [AV.sl 2 (Seq.map T.encS ((0 : Int), (0 : Int)) (Prod.fst (Prod.snd a))) Tip.none]
      [AObj.cells [AV.str { data := List.toArray (Prod.fst a) }, AV.sl 2 (Seq.map T.encS ((0 : Int), (0 : Int)) (Prod.fst (Prod.snd a))) Tip.none, AV.bool (Prod.snd (Prod.snd a))],
        AObj.cells [AV.str { data := #[] }, AV.sl 0 (Seq.raw []) Tip.nil, AV.bool false]]
      fun (r : AV) (H' : List AObj) =>
      ∃ (x : List T.Span),
        r = AV.sl 2 (Seq.map T.encS ((0 : Int), (0 : Int)) x) Tip.none ∧
         H' =
         [AObj.cells [AV.str { data := List.toArray (Prod.fst a) }, AV.sl 2 (Seq.map T.encS ((0 : Int), (0 : Int)) (Prod.fst (Prod.snd a))) Tip.none, AV.bool (Prod.snd (Prod.snd a))],
         AObj.cells [AV.str { data := #[] }, AV.sl 0 (Seq.raw []) Tip.nil, AV.bool false]] ∧
         (AV.bool (Prod.snd (Prod.snd a)) = AV.bool (Prod.snd (Prod.snd a)) ∧
         [AObj.cells [AV.str { data := List.toArray (Prod.fst a) }, AV.sl 2 (Seq.map T.encS ((0 : Int), (0 : Int)) (Prod.fst (Prod.snd a))) Tip.none, AV.bool (Prod.snd (Prod.snd a))],
         AObj.cells [AV.str { data := #[] }, AV.sl 0 (Seq.raw []) Tip.nil, AV.bool false]] =
         [AObj.cells [AV.str { data := List.toArray (Prod.fst a) }, AV.sl 2 (Seq.map T.encS ((0 : Int), (0 : Int)) (Prod.fst (Prod.snd a))) Tip.none, AV.bool (Prod.snd (Prod.snd a))],
         AObj.cells [AV.str { data := #[] }, AV.sl 0 (Seq.raw []) Tip.nil, AV.bool false]]) ∧
         (AV.str { data := List.toArray (Prod.fst a) } = AV.str { data := List.toArray (Prod.fst a) } ∧
         [AObj.cells [AV.str { data := List.toArray (Prod.fst a) }, AV.sl 2 (Seq.map T.encS ((0 : Int), (0 : Int)) (Prod.fst (Prod.snd a))) Tip.none, AV.bool (Prod.snd (Prod.snd a))],
         AObj.cells [AV.str { data := #[] }, AV.sl 0 (Seq.raw []) Tip.nil, AV.bool false]] =
         [AObj.cells
         [AV.str { data := List.toArray (Prod.fst a) }, AV.sl 2 (Seq.map T.encS ((0 : Int), (0 : Int)) (Prod.fst (Prod.snd a))) Tip.none, AV.bool (Prod.snd (Prod.snd a))],
         AObj.cells [AV.str { data := #[] }, AV.sl 0 (Seq.raw []) Tip.nil, AV.bool false]]) ∧
         Post (AV.agg [AV.str { data := List.toArray (Prod.fst a) }, AV.sl 2 (Seq.map T.encS ((0 : Int), (0 : Int)) x) Tip.none, AV.bool !Prod.snd (Prod.snd a)])
         [AObj.cells [AV.str { data := List.toArray (Prod.fst a) }, AV.sl 2 (Seq.map T.encS ((0 : Int), (0 : Int)) (Prod.fst (Prod.snd a))) Tip.none, AV.bool (Prod.snd (Prod.snd a))],
         AObj.cells [AV.str { data := List.toArray (Prod.fst a) }, AV.sl 2 (Seq.map T.encS ((0 : Int), (0 : Int)) x) Tip.none, AV.bool !Prod.snd (Prod.snd a)]]) →
    ASpec Tryd.prog 11 [AV.agg (T.encT a)] [] Post := fun a Post h => Go.Ab.ASpec.of_vc g11 Go.Proofs.Tryd.func11 (by kernel_rfl) (by kernel_rfl) (by kernel_rfl) (Go.Ab.kc (by kernel_rfl) h)

-- 14
noncomputable def l14 : Nat → List Nat
  | _ => []
noncomputable def u14 : Nat → Bool
  | _ => false
noncomputable def m14 : Nat → Bool
  | _ => false
noncomputable def g14 : Cfg := { N := 11, live := l14, cut := u14, mu := m14, ret := rets }
theorem s14 : ∀ (a : T.Term) (Post : AV → List AObj → Prop),
  condP (Prod.snd (Prod.snd a))
      (ASpec Tryd.prog 55 [AV.sl 2 (Seq.map T.encS ((0 : Int), (0 : Int)) (Prod.fst (Prod.snd a))) Tip.none]
        [AObj.cells [AV.str { data := List.toArray (Prod.fst a) }, AV.sl 2 (Seq.map T.encS ((0 : Int), (0 : Int)) (Prod.fst (Prod.snd a))) Tip.none, AV.bool (Prod.snd (Prod.snd a))]]
        fun (r : AV) (H' : List AObj) =>
        ∃ (x : Int),
         r = AV.int IntKind.i64 x ∧
         H' =
         [AObj.cells [AV.str { data := List.toArray (Prod.fst a) }, AV.sl 2 (Seq.map T.encS ((0 : Int), (0 : Int)) (Prod.fst (Prod.snd a))) Tip.none, AV.bool (Prod.snd (Prod.snd a))]] ∧
         Post (AV.bool (x == (1000000000 : Int)))
         [AObj.cells [AV.str { data := List.toArray (Prod.fst a) }, AV.sl 2 (Seq.map T.encS ((0 : Int), (0 : Int)) (Prod.fst (Prod.snd a))) Tip.none, AV.bool (Prod.snd (Prod.snd a))]])
      (Post (AV.bool false)
        [AObj.cells [AV.str { data := List.toArray (Prod.fst a) }, AV.sl 2 (Seq.map T.encS ((0 : Int), (0 : Int)) (Prod.fst (Prod.snd a))) Tip.none, AV.bool (Prod.snd (Prod.snd a))]]) →
    ASpec Tryd.prog 14 [AV.agg (T.encT a)] [] Post := fun a Post h => Go.Ab.ASpec.of_vc g14 Go.Proofs.Tryd.func14 (by kernel_rfl) (by kernel_rfl) (by kernel_rfl) (Go.Ab.kc (by kernel_rfl) h)

-- 16
noncomputable def l16 : Nat → List Nat
  | _ => []
noncomputable def u16 : Nat → Bool
  | _ => false
noncomputable def m16 : Nat → Bool
  | _ => false
noncomputable def g16 : Cfg := { N := 24, live := l16, cut := u16, mu := m16, ret := rets }
theorem s16 : ∀ (a b : T.Term) (Post : AV → List AObj → Prop),
  condP (ByteArray.toList { data := List.toArray (Prod.fst a) } == ByteArray.toList { data := List.toArray (Prod.fst b) })
      (condP (Prod.snd (Prod.snd a) == Prod.snd (Prod.snd b))
        (ASpec Tryd.prog 57
         [AV.sl 2 (Seq.map T.encS ((0 : Int), (0 : Int)) (Prod.fst (Prod.snd a))) Tip.none, AV.sl 2 (Seq.map T.encS ((0 : Int), (0 : Int)) (Prod.fst (Prod.snd b))) Tip.none]
         [AObj.cells [AV.str { data := List.toArray (Prod.fst a) }, AV.sl 2 (Seq.map T.encS ((0 : Int), (0 : Int)) (Prod.fst (Prod.snd a))) Tip.none, AV.bool (Prod.snd (Prod.snd a))],
         AObj.cells [AV.str { data := List.toArray (Prod.fst b) }, AV.sl 2 (Seq.map T.encS ((0 : Int), (0 : Int)) (Prod.fst (Prod.snd b))) Tip.none, AV.bool (Prod.snd (Prod.snd b))]]
         fun (r : AV) (H' : List AObj) =>
         ∃ (x : Bool),
         r = AV.bool x ∧
         H' =
         [AObj.cells [AV.str { data := List.toArray (Prod.fst a) }, AV.sl 2 (Seq.map T.encS ((0 : Int), (0 : Int)) (Prod.fst (Prod.snd a))) Tip.none, AV.bool (Prod.snd (Prod.snd a))],
         AObj.cells
         [AV.str { data := List.toArray (Prod.fst b) }, AV.sl 2 (Seq.map T.encS ((0 : Int), (0 : Int)) (Prod.fst (Prod.snd b))) Tip.none, AV.bool (Prod.snd (Prod.snd b))]] ∧
         Post (AV.bool x)
         [AObj.cells [AV.str { data := List.toArray (Prod.fst a) }, AV.sl 2 (Seq.map T.encS ((0 : Int), (0 : Int)) (Prod.fst (Prod.snd a))) Tip.none, AV.bool (Prod.snd (Prod.snd a))],
         AObj.cells
         [AV.str { data := List.toArray (Prod.fst b) }, AV.sl 2 (Seq.map T.encS ((0 : Int), (0 : Int)) (Prod.fst (Prod.snd b))) Tip.none, AV.bool (Prod.snd (Prod.snd b))]])
        (Post (AV.bool false)
         [AObj.cells [AV.str { data := List.toArray (Prod.fst a) }, AV.sl 2 (Seq.map T.encS ((0 : Int), (0 : Int)) (Prod.fst (Prod.snd a))) Tip.none, AV.bool (Prod.snd (Prod.snd a))],
         AObj.cells [AV.str { data := List.toArray (Prod.fst b) }, AV.sl 2 (Seq.map T.encS ((0 : Int), (0 : Int)) (Prod.fst (Prod.snd b))) Tip.none, AV.bool (Prod.snd (Prod.snd b))]]))
      (Post (AV.bool false)
        [AObj.cells [AV.str { data := List.toArray (Prod.fst a) }, AV.sl 2 (Seq.map T.encS ((0 : Int), (0 : Int)) (Prod.fst (Prod.snd a))) Tip.none, AV.bool (Prod.snd (Prod.snd a))],
         AObj.cells [AV.str { data := List.toArray (Prod.fst b) }, AV.sl 2 (Seq.map T.encS ((0 : Int), (0 : Int)) (Prod.fst (Prod.snd b))) Tip.none, AV.bool (Prod.snd (Prod.snd b))]]) →
    ASpec Tryd.prog 16 [AV.agg (T.encT a), AV.agg (T.encT b)] [] Post := fun a b Post h => Go.Ab.ASpec.of_vc g16 Go.Proofs.Tryd.func16 (by kernel_rfl) (by kernel_rfl) (by kernel_rfl) (Go.Ab.kc (by kernel_rfl) h)

-- 20
noncomputable def l20 : Nat → List Nat
  | _ => []
noncomputable def u20 : Nat → Bool
  | _ => false
noncomputable def m20 : Nat → Bool
  | _ => false
noncomputable def g20 : Cfg := { N := 45, live := l20, cut := u20, mu := m20, ret := rets }
theorem s20 : ∀ (a : T.Term) (Post : AV → List AObj → Prop),
  (ASpec Tryd.prog 9
      [AV.agg [AV.str { data := List.toArray (Prod.fst a) }, AV.sl 2 (Seq.map T.encS ((0 : Int), (0 : Int)) (Prod.fst (Prod.snd a))) Tip.none, AV.bool (Prod.snd (Prod.snd a))]]
      [AObj.cells [AV.str { data := List.toArray (Prod.fst a) }, AV.sl 2 (Seq.map T.encS ((0 : Int), (0 : Int)) (Prod.fst (Prod.snd a))) Tip.none, AV.bool (Prod.snd (Prod.snd a))]]
      fun (r : AV) (H' : List AObj) =>
      ∃ (x : Bool),
        r = AV.bool x ∧
         H' = [AObj.cells [AV.str { data := List.toArray (Prod.fst a) }, AV.sl 2 (Seq.map T.encS ((0 : Int), (0 : Int)) (Prod.fst (Prod.snd a))) Tip.none, AV.bool (Prod.snd (Prod.snd a))]] ∧
         condP (!x)
         (Post (AV.str { data := #[] })
         [AObj.cells [AV.str { data := List.toArray (Prod.fst a) }, AV.sl 2 (Seq.map T.encS ((0 : Int), (0 : Int)) (Prod.fst (Prod.snd a))) Tip.none, AV.bool (Prod.snd (Prod.snd a))]])
         (ASpec Tryd.prog 14
         [AV.agg [AV.str { data := List.toArray (Prod.fst a) }, AV.sl 2 (Seq.map T.encS ((0 : Int), (0 : Int)) (Prod.fst (Prod.snd a))) Tip.none, AV.bool (Prod.snd (Prod.snd a))]]
         [AObj.cells [AV.str { data := List.toArray (Prod.fst a) }, AV.sl 2 (Seq.map T.encS ((0 : Int), (0 : Int)) (Prod.fst (Prod.snd a))) Tip.none, AV.bool (Prod.snd (Prod.snd a))]]
         fun (r : AV) (H' : List AObj) =>
         ∃ (x : Bool),
         r = AV.bool x ∧
         H' =
         [AObj.cells
         [AV.str { data := List.toArray (Prod.fst a) }, AV.sl 2 (Seq.map T.encS ((0 : Int), (0 : Int)) (Prod.fst (Prod.snd a))) Tip.none, AV.bool (Prod.snd (Prod.snd a))]] ∧
         condP x
         (needP ((↑(ByteArray.size { data := List.toArray (Prod.fst a) } + 9) : Int) ≤ (9223372036854775807 : Int))
         (Post
         (AV.str
         ({ data := List.toArray (Prod.fst a) } ++
         { data := #[(32 : UInt8), (119 : UInt8), (104 : UInt8), (97 : UInt8), (116 : UInt8), (101 : UInt8), (118 : UInt8), (101 : UInt8), (114 : UInt8)] }))
         [AObj.cells
         [AV.str { data := List.toArray (Prod.fst a) }, AV.sl 2 (Seq.map T.encS ((0 : Int), (0 : Int)) (Prod.fst (Prod.snd a))) Tip.none,
         AV.bool (Prod.snd (Prod.snd a))]]))
         (ASpec Tryd.prog 12
         [AV.agg
         [AV.str { data := List.toArray (Prod.fst a) }, AV.sl 2 (Seq.map T.encS ((0 : Int), (0 : Int)) (Prod.fst (Prod.snd a))) Tip.none, AV.bool (Prod.snd (Prod.snd a))]]
         [AObj.cells
         [AV.str { data := List.toArray (Prod.fst a) }, AV.sl 2 (Seq.map T.encS ((0 : Int), (0 : Int)) (Prod.fst (Prod.snd a))) Tip.none, AV.bool (Prod.snd (Prod.snd a))]]
         fun (r : AV) (H' : List AObj) =>
         ∃ (x : Bool),
         r = AV.bool x ∧
         H' =
         [AObj.cells
         [AV.str { data := List.toArray (Prod.fst a) }, AV.sl 2 (Seq.map T.encS ((0 : Int), (0 : Int)) (Prod.fst (Prod.snd a))) Tip.none,
         AV.bool (Prod.snd (Prod.snd a))]] ∧
         condP x
         (needP ((↑(ByteArray.size { data := List.toArray (Prod.fst a) } + 8) : Int) ≤ (9223372036854775807 : Int))
         (Post
         (AV.str
         ({ data := List.toArray (Prod.fst a) } ++
         { data := #[(32 : UInt8), (110 : UInt8), (111 : UInt8), (119 : UInt8), (104 : UInt8), (101 : UInt8), (114 : UInt8), (101 : UInt8)] }))
         [AObj.cells
         [AV.str { data := List.toArray (Prod.fst a) }, AV.sl 2 (Seq.map T.encS ((0 : Int), (0 : Int)) (Prod.fst (Prod.snd a))) Tip.none,
         AV.bool (Prod.snd (Prod.snd a))]]))
         (condP ((↑(List.length (Prod.fst (Prod.snd a))) : Int) == (0 : Int))
         (needP ((↑(ByteArray.size { data := List.toArray (Prod.fst a) } + 7) : Int) ≤ (9223372036854775807 : Int))
         (Post
         (AV.str
         ({ data := List.toArray (Prod.fst a) } ++
         { data := #[(32 : UInt8), (97 : UInt8), (98 : UInt8), (115 : UInt8), (101 : UInt8), (110 : UInt8), (116 : UInt8)] }))
         [AObj.cells
         [AV.str { data := List.toArray (Prod.fst a) }, AV.sl 2 (Seq.map T.encS ((0 : Int), (0 : Int)) (Prod.fst (Prod.snd a))) Tip.none,
         AV.bool (Prod.snd (Prod.snd a))]]))
         (condP (Prod.snd (Prod.snd a))
         (needP ((↑(ByteArray.size { data := List.toArray (Prod.fst a) } + 1) : Int) ≤ (9223372036854775807 : Int))
         (ASpec Tryd.prog 62 [AV.sl 2 (Seq.map T.encS ((0 : Int), (0 : Int)) (Prod.fst (Prod.snd a))) Tip.none]
         [AObj.cells
         [AV.str { data := List.toArray (Prod.fst a) }, AV.sl 2 (Seq.map T.encS ((0 : Int), (0 : Int)) (Prod.fst (Prod.snd a))) Tip.none,
         AV.bool (Prod.snd (Prod.snd a))]]
         fun (r : AV) (H' : List AObj) =>
         ∃ (x : ByteArray),
         r = AV.str x ∧
         H' =
         [AObj.cells
         [AV.str { data := List.toArray (Prod.fst a) }, AV.sl 2 (Seq.map T.encS ((0 : Int), (0 : Int)) (Prod.fst (Prod.snd a))) Tip.none,
         AV.bool (Prod.snd (Prod.snd a))]] ∧
         (AV.str { data := List.toArray (Prod.fst a) } = AV.str { data := List.toArray (Prod.fst a) } ∧
         [AObj.cells
         [AV.str { data := List.toArray (Prod.fst a) }, AV.sl 2 (Seq.map T.encS ((0 : Int), (0 : Int)) (Prod.fst (Prod.snd a))) Tip.none,
         AV.bool (Prod.snd (Prod.snd a))]] =
         [AObj.cells
         [AV.str { data := List.toArray (Prod.fst a) }, AV.sl 2 (Seq.map T.encS ((0 : Int), (0 : Int)) (Prod.fst (Prod.snd a))) Tip.none,
         AV.bool (Prod.snd (Prod.snd a))]]) ∧
         needP
         ((↑(ByteArray.size ({ data := List.toArray (Prod.fst a) } ++ { data := #[(32 : UInt8)] }) + ByteArray.size x) : Int) ≤ (9223372036854775807 : Int))
         (needP
         ((↑(ByteArray.size ({ data := List.toArray (Prod.fst a) } ++ { data := #[(32 : UInt8)] } ++ x) + 10) : Int) ≤ (9223372036854775807 : Int))
         (Post
         (AV.str
         ({ data := List.toArray (Prod.fst a) } ++ { data := #[(32 : UInt8)] } ++ x ++
         {
         data :=
         #[(32 : UInt8), (111 : UInt8), (114 : UInt8), (32 : UInt8), (97 : UInt8), (98 : UInt8), (115 : UInt8), (101 : UInt8), (110 : UInt8),
         (116 : UInt8)] }))
         [AObj.cells
         [AV.str { data := List.toArray (Prod.fst a) }, AV.sl 2 (Seq.map T.encS ((0 : Int), (0 : Int)) (Prod.fst (Prod.snd a))) Tip.none,
         AV.bool (Prod.snd (Prod.snd a))]]))))
         (needP ((↑(ByteArray.size { data := List.toArray (Prod.fst a) } + 1) : Int) ≤ (9223372036854775807 : Int))
         (ASpec Tryd.prog 62 [AV.sl 2 (Seq.map T.encS ((0 : Int), (0 : Int)) (Prod.fst (Prod.snd a))) Tip.none]
         [AObj.cells
         [AV.str { data := List.toArray (Prod.fst a) }, AV.sl 2 (Seq.map T.encS ((0 : Int), (0 : Int)) (Prod.fst (Prod.snd a))) Tip.none,
         AV.bool (Prod.snd (Prod.snd a))]]
         fun (r : AV) (H' : List AObj) =>
         ∃ (x : ByteArray),
         r = AV.str x ∧
         H' =
         [AObj.cells
         [AV.str { data := List.toArray (Prod.fst a) }, AV.sl 2 (Seq.map T.encS ((0 : Int), (0 : Int)) (Prod.fst (Prod.snd a))) Tip.none,
         AV.bool (Prod.snd (Prod.snd a))]] ∧
         (AV.str { data := List.toArray (Prod.fst a) } = AV.str { data := List.toArray (Prod.fst a) } ∧
         [AObj.cells
         [AV.str { data := List.toArray (Prod.fst a) }, AV.sl 2 (Seq.map T.encS ((0 : Int), (0 : Int)) (Prod.fst (Prod.snd a))) Tip.none,
         AV.bool (Prod.snd (Prod.snd a))]] =
         [AObj.cells
         [AV.str { data := List.toArray (Prod.fst a) }, AV.sl 2 (Seq.map T.encS ((0 : Int), (0 : Int)) (Prod.fst (Prod.snd a))) Tip.none,
         AV.bool (Prod.snd (Prod.snd a))]]) ∧
         needP
         ((↑(ByteArray.size ({ data := List.toArray (Prod.fst a) } ++ { data := #[(32 : UInt8)] }) + ByteArray.size x) : Int) ≤ (9223372036854775807 : Int))
         (Post (AV.str ({ data := List.toArray (Prod.fst a) } ++ { data := #[(32 : UInt8)] } ++ x))
         [AObj.cells
         [AV.str { data := List.toArray (Prod.fst a) }, AV.sl 2 (Seq.map T.encS ((0 : Int), (0 : Int)) (Prod.fst (Prod.snd a))) Tip.none,
         AV.bool (Prod.snd (Prod.snd a))]])))))))) →
    ASpec Tryd.prog 20 [AV.agg (T.encT a)] [] Post := fun a Post h => Go.Ab.ASpec.of_vc g20 Go.Proofs.Tryd.func20 (by kernel_rfl) (by kernel_rfl) (by kernel_rfl) (Go.Ab.kc (by kernel_rfl) h)

-- 55
noncomputable def l55 : Nat → List Nat
  | 3 => [3, 6, 7, 8]
  | _ => []
noncomputable def u55 : Nat → Bool
  | _ => false
noncomputable def m55 : Nat → Bool
  | _ => false
noncomputable def g55 : Cfg := { N := 21, live := l55, cut := u55, mu := m55, ret := rets }
noncomputable def c55 : Go.Code := Go.Ab.bodyOf Go.Proofs.Tryd.f55
noncomputable def q55_0 : Nat → (AV → List AObj → Prop) → AQ := fun (n : Nat) (Post : AV → List AObj → Prop) => endQ Tryd.prog (resultsOf Tryd.f55) Post
noncomputable def q55_1 : Nat → (AV → List AObj → Prop) → AQ := fun (n : Nat) (Post : AV → List AObj → Prop) => seqQ (fun (s' : Slots) (H' : List AObj) => awp Tryd.prog g55 n (codeSnd (codeSnd (codeSnd c55))) s' H' (q55_0 n Post)) (q55_0 n Post)
noncomputable def q55_2 : Nat → (AV → List AObj → Prop) → AQ := fun (n : Nat) (Post : AV → List AObj → Prop) => blockQ 0 (q55_1 n Post)
noncomputable def c55_3 : Go.Code := codeFst (codeSnd (codeFst (codeSnd (codeSnd c55))))
theorem s55 : ∀ (l : List T.Span) (Post : AV → List AObj → Prop),
  AWP Tryd.prog 21 0 c55_3
      [(3, AV.int IntKind.i64 (0 : Int)), (6, AV.sl 2 (Seq.map T.encS ((0 : Int), (0 : Int)) l) Tip.none), (7, AV.int IntKind.i64 (↑(List.length l) : Int)),
        (8, AV.int IntKind.i64 (0 : Int))]
      [] (q55_2 0 Post) →
    ASpec Tryd.prog 55 [AV.sl 2 (Seq.map T.encS ((0 : Int), (0 : Int)) l) Tip.none] [] Post := fun l Post h => Go.Ab.ASpec.of_vc g55 Go.Proofs.Tryd.func55 (by kernel_rfl) (by kernel_rfl) (by kernel_rfl) (Go.Ab.kc (by kernel_rfl) h)
theorem v55_3 : ∀ (l : List T.Span) (c n i : Int) (n_1 : Nat) (Post : AV → List AObj → Prop),
  condP (decide (i < n))
      (needP ((0 : Int) ≤ i ∧ i < (↑(List.length l) : Int))
        (AWP Tryd.prog 21 n_1 c55_3
         [(3,
         AV.int IntKind.i64
         (IntKind.wrap IntKind.i64 (c + IntKind.wrap IntKind.i64 (Prod.snd (List.getD l (Int.toNat i) ((0 : Int), (0 : Int))) - Prod.fst (List.getD l (Int.toNat i) ((0 : Int), (0 : Int))))))),
         (6, AV.sl 2 (Seq.map T.encS ((0 : Int), (0 : Int)) l) Tip.none), (7, AV.int IntKind.i64 n),
         (8, AV.int IntKind.i64 (IntKind.wrap IntKind.i64 (i + (1 : Int))))]
         [AObj.cells [AV.int IntKind.i64 (Prod.fst (List.getD l (Int.toNat i) ((0 : Int), (0 : Int)))), AV.int IntKind.i64 (Prod.snd (List.getD l (Int.toNat i) ((0 : Int), (0 : Int))))]]
         (q55_2 n_1 Post)))
      (Post (AV.int IntKind.i64 c) []) →
    AWP Tryd.prog 21 n_1 c55_3
      [(3, AV.int IntKind.i64 c), (6, AV.sl 2 (Seq.map T.encS ((0 : Int), (0 : Int)) l) Tip.none), (7, AV.int IntKind.i64 n), (8, AV.int IntKind.i64 i)] []
      (q55_2 n_1 Post) := fun l c n i n Post h => Go.Ab.AWP.loop' g55 (Cfg.live g55) c55_3 (by kernel_rfl) (by kernel_rfl) (Go.Ab.kc (by kernel_rfl) h)

-- 57
noncomputable def l57 : Nat → List Nat
  | _ => []
noncomputable def u57 : Nat → Bool
  | _ => false
noncomputable def m57 : Nat → Bool
  | _ => false
noncomputable def g57 : Cfg := { N := 8, live := l57, cut := u57, mu := m57, ret := rets }
theorem s57 : ∀ (a b : List T.Span) (Post : AV → List AObj → Prop),
  (ASpec Tryd.prog 112 [AV.sl 2 (Seq.map T.encS ((0 : Int), (0 : Int)) a) Tip.none, AV.sl 2 (Seq.map T.encS ((0 : Int), (0 : Int)) b) Tip.none] []
      fun (r : AV) (H' : List AObj) => ∃ (x : Bool), r = AV.bool x ∧ H' = [] ∧ Post (AV.bool x) []) →
    ASpec Tryd.prog 57 [AV.sl 2 (Seq.map T.encS ((0 : Int), (0 : Int)) a) Tip.none, AV.sl 2 (Seq.map T.encS ((0 : Int), (0 : Int)) b) Tip.none] [] Post := fun a b Post h => Go.Ab.ASpec.of_vc g57 Go.Proofs.Tryd.func57 (by kernel_rfl) (by kernel_rfl) (by kernel_rfl) (Go.Ab.kc (by kernel_rfl) h)

-- 112
noncomputable def l112 : Nat → List Nat
  | 4 => [0, 1, 12, 13]
  | _ => []
noncomputable def u112 : Nat → Bool
  | _ => false
noncomputable def m112 : Nat → Bool
  | _ => false
noncomputable def g112 : Cfg := { N := 26, live := l112, cut := u112, mu := m112, ret := rets }
noncomputable def c112 : Go.Code := Go.Ab.bodyOf Go.Proofs.Tryd.f112
noncomputable def q112_0 : Nat → (AV → List AObj → Prop) → AQ := fun (n : Nat) (Post : AV → List AObj → Prop) => endQ Tryd.prog (resultsOf Tryd.f112) Post
noncomputable def q112_1 : Nat → (AV → List AObj → Prop) → AQ := fun (n : Nat) (Post : AV → List AObj → Prop) => seqQ (fun (s' : Slots) (H' : List AObj) => awp Tryd.prog g112 n (codeSnd (codeSnd (codeSnd c112))) s' H' (q112_0 n Post)) (q112_0 n Post)
noncomputable def q112_2 : Nat → (AV → List AObj → Prop) → AQ := fun (n : Nat) (Post : AV → List AObj → Prop) => blockQ 0 (q112_1 n Post)
noncomputable def c112_4 : Go.Code := codeFst (codeSnd (codeFst (codeSnd (codeSnd c112))))
theorem s112 : ∀ (a b : List T.Span) (Post : AV → List AObj → Prop),
  condP ((↑(List.length a) : Int) != (↑(List.length b) : Int)) (Post (AV.bool false) [])
      (AWP Tryd.prog 26 0 c112_4
        [(0, AV.sl 2 (Seq.map T.encS ((0 : Int), (0 : Int)) a) Tip.none), (1, AV.sl 2 (Seq.map T.encS ((0 : Int), (0 : Int)) b) Tip.none),
         (12, AV.int IntKind.i64 (↑(List.length a) : Int)), (13, AV.int IntKind.i64 (0 : Int))]
        [] (q112_2 0 Post)) →
    ASpec Tryd.prog 112 [AV.sl 2 (Seq.map T.encS ((0 : Int), (0 : Int)) a) Tip.none, AV.sl 2 (Seq.map T.encS ((0 : Int), (0 : Int)) b) Tip.none] [] Post := fun a b Post h => Go.Ab.ASpec.of_vc g112 Go.Proofs.Tryd.func112 (by kernel_rfl) (by kernel_rfl) (by kernel_rfl) (Go.Ab.kc (by kernel_rfl) h)
theorem v112_4 : ∀ (a b : List T.Span) (n i : Int) (n_1 : Nat) (Post : AV → List AObj → Prop),
  condP (decide (i < n))
      (needP ((0 : Int) ≤ i ∧ i < (↑(List.length a) : Int))
        (needP ((0 : Int) ≤ i ∧ i < (↑(List.length b) : Int))
         (condP
         (!(Prod.fst (List.getD a (Int.toNat i) ((0 : Int), (0 : Int))) == Prod.fst (List.getD b (Int.toNat i) ((0 : Int), (0 : Int))) &&
         (Prod.snd (List.getD a (Int.toNat i) ((0 : Int), (0 : Int))) == Prod.snd (List.getD b (Int.toNat i) ((0 : Int), (0 : Int))) && true)))
         (Post (AV.bool false) [])
         (AWP Tryd.prog 26 n_1 c112_4
         [(0, AV.sl 2 (Seq.map T.encS ((0 : Int), (0 : Int)) a) Tip.none), (1, AV.sl 2 (Seq.map T.encS ((0 : Int), (0 : Int)) b) Tip.none),
         (12, AV.int IntKind.i64 n), (13, AV.int IntKind.i64 (IntKind.wrap IntKind.i64 (i + (1 : Int))))]
         [] (q112_2 n_1 Post)))))
      (Post (AV.bool true) []) →
    AWP Tryd.prog 26 n_1 c112_4
      [(0, AV.sl 2 (Seq.map T.encS ((0 : Int), (0 : Int)) a) Tip.none), (1, AV.sl 2 (Seq.map T.encS ((0 : Int), (0 : Int)) b) Tip.none),
        (12, AV.int IntKind.i64 n), (13, AV.int IntKind.i64 i)]
      [] (q112_2 n_1 Post) := fun a b n i n Post h => Go.Ab.AWP.loop' g112 (Cfg.live g112) c112_4 (by kernel_rfl) (by kernel_rfl) (Go.Ab.kc (by kernel_rfl) h)

-- 62
noncomputable def l62 : Nat → List Nat
  | 7 => [0]
  | 9 => [3, 18, 19, 20]
  | _ => []
noncomputable def u62 : Nat → Bool
  | 7 => true
  | _ => false
noncomputable def m62 : Nat → Bool
  | _ => false
noncomputable def g62 : Cfg := { N := 32, live := l62, cut := u62, mu := m62, ret := rets }
noncomputable def c62 : Go.Code := Go.Ab.bodyOf Go.Proofs.Tryd.f62
noncomputable def q62_0 : Nat → (AV → List AObj → Prop) → AQ := fun (n : Nat) (Post : AV → List AObj → Prop) => endQ Tryd.prog (resultsOf Tryd.f62) Post
noncomputable def c62_7 : Go.Code := codeSnd (codeSnd c62)
theorem s62 : ∀ (l : List T.Span) (Post : AV → List AObj → Prop),
  (ASpec Tryd.prog 51 [AV.sl 2 (Seq.map T.encS ((0 : Int), (0 : Int)) l) Tip.none] [] fun (r : AV) (H' : List AObj) =>
      ∃ (x : Bool),
        r = AV.bool x ∧
         H' = [] ∧
         condP (!x) (Post (AV.str { data := #[] }) [])
         (condP ((↑(List.length l) : Int) == (0 : Int)) (Post (AV.str { data := #[(110 : UInt8), (111 : UInt8), (110 : UInt8), (101 : UInt8)] }) [])
         (ASpec Tryd.prog 116 [] [] fun (r : AV) (H' : List AObj) =>
         ∃ (x : List T.Span),
         r = AV.sl 2 (Seq.map T.encS ((0 : Int), (0 : Int)) x) Tip.none ∧
         H' = [] ∧
         ASpec Tryd.prog 112 [AV.sl 2 (Seq.map T.encS ((0 : Int), (0 : Int)) l) Tip.none, AV.sl 2 (Seq.map T.encS ((0 : Int), (0 : Int)) x) Tip.none] []
         fun (r : AV) (H' : List AObj) =>
         ∃ (x : Bool),
         r = AV.bool x ∧
         H' = [] ∧
         condP x (Post (AV.str { data := #[(97 : UInt8), (110 : UInt8), (121 : UInt8)] }) [])
         (AWP Tryd.prog 32 0 c62_7 [(0, AV.sl 2 (Seq.map T.encS ((0 : Int), (0 : Int)) l) Tip.none)] [] (q62_0 0 Post))))) →
    ASpec Tryd.prog 62 [AV.sl 2 (Seq.map T.encS ((0 : Int), (0 : Int)) l) Tip.none] [] Post := fun l Post h => Go.Ab.ASpec.of_vc g62 Go.Proofs.Tryd.func62 (by kernel_rfl) (by kernel_rfl) (by kernel_rfl) (Go.Ab.kc (by kernel_rfl) h)
noncomputable def q62_1 : Nat → (AV → List AObj → Prop) → AQ := fun (n : Nat) (Post : AV → List AObj → Prop) => seqQ (fun (s' : Slots) (H' : List AObj) => awp Tryd.prog g62 n (codeSnd (codeSnd c62_7)) s' H' (q62_0 n Post)) (q62_0 n Post)
noncomputable def q62_2 : Nat → (AV → List AObj → Prop) → AQ := fun (n : Nat) (Post : AV → List AObj → Prop) => blockQ 1 (q62_1 n Post)
noncomputable def c62_9 : Go.Code := codeFst (codeSnd (codeFst (codeSnd c62_7)))
theorem v62_7 : ∀ (l : List T.Span) (n : Nat) (Post : AV → List AObj → Prop),
  AWP Tryd.prog 32 n c62_9
      [(3, AV.sl 0 (Seq.raw []) Tip.nil), (18, AV.sl 2 (Seq.map T.encS ((0 : Int), (0 : Int)) l) Tip.none), (19, AV.int IntKind.i64 (↑(List.length l) : Int)),
        (20, AV.int IntKind.i64 (0 : Int))]
      [] (q62_2 n Post) →
    AWP Tryd.prog 32 n c62_7 [(0, AV.sl 2 (Seq.map T.encS ((0 : Int), (0 : Int)) l) Tip.none)] [] (q62_0 n Post) := fun l n Post h => Go.Ab.awp_sound g62 n _ _ _ _ (Go.Ab.kc (by kernel_rfl) h)
theorem v62_9 : ∀ (l : List T.Span) (o : List (List UInt8)) (n i : Int) (n_1 : Nat) (Post : AV → List AObj → Prop),
  condP (decide (i < n))
      (needP ((0 : Int) ≤ i ∧ i < (↑(List.length l) : Int))
        (ASpec Tryd.prog 117
         [AV.agg [AV.int IntKind.i64 (Prod.fst (List.getD l (Int.toNat i) ((0 : Int), (0 : Int)))), AV.int IntKind.i64 (Prod.snd (List.getD l (Int.toNat i) ((0 : Int), (0 : Int))))]]
         [AObj.tok, AObj.cells [AV.int IntKind.i64 (Prod.fst (List.getD l (Int.toNat i) ((0 : Int), (0 : Int)))), AV.int IntKind.i64 (Prod.snd (List.getD l (Int.toNat i) ((0 : Int), (0 : Int))))]]
         fun (r : AV) (H' : List AObj) =>
         ∃ (x : ByteArray),
         r = AV.str x ∧
         H' =
         [AObj.tok,
         AObj.cells [AV.int IntKind.i64 (Prod.fst (List.getD l (Int.toNat i) ((0 : Int), (0 : Int)))), AV.int IntKind.i64 (Prod.snd (List.getD l (Int.toNat i) ((0 : Int), (0 : Int))))]] ∧
         needP ((List.length o + 1) * 16 ≤ 140737488351232)
         (AWP Tryd.prog 32 n_1 c62_9
         [(3, AV.sl 1 (Seq.app (Seq.map T.encL [] o) (Seq.raw [[AV.str x]])) (Tip.tok 2)),
         (18, AV.sl 2 (Seq.map T.encS ((0 : Int), (0 : Int)) l) Tip.none), (19, AV.int IntKind.i64 n),
         (20, AV.int IntKind.i64 (IntKind.wrap IntKind.i64 (i + (1 : Int))))]
         [AObj.gone,
         AObj.cells [AV.int IntKind.i64 (Prod.fst (List.getD l (Int.toNat i) ((0 : Int), (0 : Int)))), AV.int IntKind.i64 (Prod.snd (List.getD l (Int.toNat i) ((0 : Int), (0 : Int))))],
         AObj.tok]
         (q62_2 n_1 Post))))
      (ASpec Tryd.prog 118 [AV.sl 1 (Seq.map T.encL [] o) (Tip.tok 0), AV.str { data := #[(32 : UInt8), (124 : UInt8), (32 : UInt8)] }] [AObj.tok]
        fun (r : AV) (H' : List AObj) => ∃ (x : ByteArray), r = AV.str x ∧ H' = [AObj.tok] ∧ Post (AV.str x) [AObj.tok]) →
    AWP Tryd.prog 32 n_1 c62_9
      [(3, AV.sl 1 (Seq.map T.encL [] o) (Tip.tok 0)), (18, AV.sl 2 (Seq.map T.encS ((0 : Int), (0 : Int)) l) Tip.none), (19, AV.int IntKind.i64 n),
        (20, AV.int IntKind.i64 i)]
      [AObj.tok] (q62_2 n_1 Post) := fun l o n i n Post h => Go.Ab.AWP.loop' g62 (Cfg.live g62) c62_9 (by kernel_rfl) (by kernel_rfl) (Go.Ab.kc (by kernel_rfl) h)

-- 117
noncomputable def l117 : Nat → List Nat
  | _ => []
noncomputable def u117 : Nat → Bool
  | _ => false
noncomputable def m117 : Nat → Bool
  | _ => false
noncomputable def g117 : Cfg := { N := 39, live := l117, cut := u117, mu := m117, ret := rets }
theorem s117 : ∀ (x : T.Span) (Post : AV → List AObj → Prop),
  condP (IntKind.wrap IntKind.i64 (Prod.snd x - Prod.fst x) == (1 : Int))
      (ASpec Tryd.prog 121 [AV.int IntKind.i64 (Prod.fst x)] [AObj.cells [AV.int IntKind.i64 (Prod.fst x), AV.int IntKind.i64 (Prod.snd x)]] fun (r : AV) (H' : List AObj) =>
        ∃ (x_1 : ByteArray),
         r = AV.str x_1 ∧
         H' = [AObj.cells [AV.int IntKind.i64 (Prod.fst x), AV.int IntKind.i64 (Prod.snd x)]] ∧
         needP ((↑(1 + ByteArray.size x_1) : Int) ≤ (9223372036854775807 : Int))
         (Post (AV.str ({ data := #[(61 : UInt8)] } ++ x_1)) [AObj.cells [AV.int IntKind.i64 (Prod.fst x), AV.int IntKind.i64 (Prod.snd x)]]))
      (condP (Prod.fst x == (0 : Int))
        (ASpec Tryd.prog 121 [AV.int IntKind.i64 (Prod.snd x)] [AObj.cells [AV.int IntKind.i64 (Prod.fst x), AV.int IntKind.i64 (Prod.snd x)]] fun (r : AV) (H' : List AObj) =>
         ∃ (x_1 : ByteArray),
         r = AV.str x_1 ∧
         H' = [AObj.cells [AV.int IntKind.i64 (Prod.fst x), AV.int IntKind.i64 (Prod.snd x)]] ∧
         needP ((↑(1 + ByteArray.size x_1) : Int) ≤ (9223372036854775807 : Int))
         (Post (AV.str ({ data := #[(60 : UInt8)] } ++ x_1)) [AObj.cells [AV.int IntKind.i64 (Prod.fst x), AV.int IntKind.i64 (Prod.snd x)]]))
        (condP (Prod.snd x == (1000000000 : Int))
         (ASpec Tryd.prog 121 [AV.int IntKind.i64 (Prod.fst x)] [AObj.cells [AV.int IntKind.i64 (Prod.fst x), AV.int IntKind.i64 (Prod.snd x)]] fun (r : AV) (H' : List AObj) =>
         ∃ (x_1 : ByteArray),
         r = AV.str x_1 ∧
         H' = [AObj.cells [AV.int IntKind.i64 (Prod.fst x), AV.int IntKind.i64 (Prod.snd x)]] ∧
         needP ((↑(2 + ByteArray.size x_1) : Int) ≤ (9223372036854775807 : Int))
         (Post (AV.str ({ data := #[(62 : UInt8), (61 : UInt8)] } ++ x_1)) [AObj.cells [AV.int IntKind.i64 (Prod.fst x), AV.int IntKind.i64 (Prod.snd x)]]))
         (ASpec Tryd.prog 121 [AV.int IntKind.i64 (Prod.fst x)] [AObj.cells [AV.int IntKind.i64 (Prod.fst x), AV.int IntKind.i64 (Prod.snd x)]] fun (r : AV) (H' : List AObj) =>
         ∃ (x_1 : ByteArray),
         r = AV.str x_1 ∧
         H' = [AObj.cells [AV.int IntKind.i64 (Prod.fst x), AV.int IntKind.i64 (Prod.snd x)]] ∧
         (AV.int IntKind.i64 (Prod.snd x) = AV.int IntKind.i64 (Prod.snd x) ∧
         [AObj.cells [AV.int IntKind.i64 (Prod.fst x), AV.int IntKind.i64 (Prod.snd x)]] = [AObj.cells [AV.int IntKind.i64 (Prod.fst x), AV.int IntKind.i64 (Prod.snd x)]]) ∧
         needP ((↑(2 + ByteArray.size x_1) : Int) ≤ (9223372036854775807 : Int))
         (needP ((↑(ByteArray.size ({ data := #[(62 : UInt8), (61 : UInt8)] } ++ x_1) + 2) : Int) ≤ (9223372036854775807 : Int))
         (ASpec Tryd.prog 121 [AV.int IntKind.i64 (Prod.snd x)] [AObj.cells [AV.int IntKind.i64 (Prod.fst x), AV.int IntKind.i64 (Prod.snd x)]] fun (r : AV) (H' : List AObj) =>
         ∃ (x_2 : ByteArray),
         r = AV.str x_2 ∧
         H' = [AObj.cells [AV.int IntKind.i64 (Prod.fst x), AV.int IntKind.i64 (Prod.snd x)]] ∧
         needP
         ((↑(ByteArray.size ({ data := #[(62 : UInt8), (61 : UInt8)] } ++ x_1 ++ { data := #[(32 : UInt8), (60 : UInt8)] }) + ByteArray.size x_2) : Int) ≤
         (9223372036854775807 : Int))
         (Post (AV.str ({ data := #[(62 : UInt8), (61 : UInt8)] } ++ x_1 ++ { data := #[(32 : UInt8), (60 : UInt8)] } ++ x_2))
         [AObj.cells [AV.int IntKind.i64 (Prod.fst x), AV.int IntKind.i64 (Prod.snd x)]])))))) →
    ASpec Tryd.prog 117 [AV.agg (T.encS x)] [] Post := fun x Post h => Go.Ab.ASpec.of_vc g117 Go.Proofs.Tryd.func117 (by kernel_rfl) (by kernel_rfl) (by kernel_rfl) (Go.Ab.kc (by kernel_rfl) h)

-- 119
noncomputable def l119 : Nat → List Nat
  | _ => []
noncomputable def u119 : Nat → Bool
  | _ => false
noncomputable def m119 : Nat → Bool
  | _ => false
noncomputable def g119 : Cfg := { N := 36, live := l119, cut := u119, mu := m119, ret := rets }
theorem s119 : ∀ (x : T.Span) (Post : AV → List AObj → Prop),
  condP (Prod.snd x == IntKind.wrap IntKind.i64 (Prod.fst x + (1 : Int)))
      (ASpec Tryd.prog 134 [AV.int IntKind.i64 (Prod.fst x)] [AObj.cells [AV.int IntKind.i64 (Prod.fst x), AV.int IntKind.i64 (Prod.snd x)]] fun (r : AV) (H' : List AObj) =>
        ∃ (x_1 : ByteArray),
         r = AV.str x_1 ∧
         H' = [AObj.cells [AV.int IntKind.i64 (Prod.fst x), AV.int IntKind.i64 (Prod.snd x)]] ∧
         needP ((↑(1 + ByteArray.size x_1) : Int) ≤ (9223372036854775807 : Int))
         (Post (AV.str ({ data := #[(61 : UInt8)] } ++ x_1)) [AObj.cells [AV.int IntKind.i64 (Prod.fst x), AV.int IntKind.i64 (Prod.snd x)]]))
      (condP (Prod.fst x == (0 : Int))
        (ASpec Tryd.prog 134 [AV.int IntKind.i64 (Prod.snd x)] [AObj.cells [AV.int IntKind.i64 (Prod.fst x), AV.int IntKind.i64 (Prod.snd x)]] fun (r : AV) (H' : List AObj) =>
         ∃ (x_1 : ByteArray),
         r = AV.str x_1 ∧
         H' = [AObj.cells [AV.int IntKind.i64 (Prod.fst x), AV.int IntKind.i64 (Prod.snd x)]] ∧
         needP ((↑(1 + ByteArray.size x_1) : Int) ≤ (9223372036854775807 : Int))
         (Post (AV.str ({ data := #[(60 : UInt8)] } ++ x_1)) [AObj.cells [AV.int IntKind.i64 (Prod.fst x), AV.int IntKind.i64 (Prod.snd x)]]))
        (condP (Prod.snd x == (1000000000 : Int))
         (ASpec Tryd.prog 134 [AV.int IntKind.i64 (Prod.fst x)] [AObj.cells [AV.int IntKind.i64 (Prod.fst x), AV.int IntKind.i64 (Prod.snd x)]] fun (r : AV) (H' : List AObj) =>
         ∃ (x_1 : ByteArray),
         r = AV.str x_1 ∧
         H' = [AObj.cells [AV.int IntKind.i64 (Prod.fst x), AV.int IntKind.i64 (Prod.snd x)]] ∧
         needP ((↑(2 + ByteArray.size x_1) : Int) ≤ (9223372036854775807 : Int))
         (Post (AV.str ({ data := #[(62 : UInt8), (61 : UInt8)] } ++ x_1)) [AObj.cells [AV.int IntKind.i64 (Prod.fst x), AV.int IntKind.i64 (Prod.snd x)]]))
         (ASpec Tryd.prog 134 [AV.int IntKind.i64 (Prod.fst x)] [AObj.cells [AV.int IntKind.i64 (Prod.fst x), AV.int IntKind.i64 (Prod.snd x)]] fun (r : AV) (H' : List AObj) =>
         ∃ (x_1 : ByteArray),
         r = AV.str x_1 ∧
         H' = [AObj.cells [AV.int IntKind.i64 (Prod.fst x), AV.int IntKind.i64 (Prod.snd x)]] ∧
         (AV.int IntKind.i64 (Prod.snd x) = AV.int IntKind.i64 (Prod.snd x) ∧
         [AObj.cells [AV.int IntKind.i64 (Prod.fst x), AV.int IntKind.i64 (Prod.snd x)]] = [AObj.cells [AV.int IntKind.i64 (Prod.fst x), AV.int IntKind.i64 (Prod.snd x)]]) ∧
         needP ((↑(2 + ByteArray.size x_1) : Int) ≤ (9223372036854775807 : Int))
         (needP ((↑(ByteArray.size ({ data := #[(62 : UInt8), (61 : UInt8)] } ++ x_1) + 2) : Int) ≤ (9223372036854775807 : Int))
         (ASpec Tryd.prog 134 [AV.int IntKind.i64 (Prod.snd x)] [AObj.cells [AV.int IntKind.i64 (Prod.fst x), AV.int IntKind.i64 (Prod.snd x)]] fun (r : AV) (H' : List AObj) =>
         ∃ (x_2 : ByteArray),
         r = AV.str x_2 ∧
         H' = [AObj.cells [AV.int IntKind.i64 (Prod.fst x), AV.int IntKind.i64 (Prod.snd x)]] ∧
         needP
         ((↑(ByteArray.size ({ data := #[(62 : UInt8), (61 : UInt8)] } ++ x_1 ++ { data := #[(32 : UInt8), (60 : UInt8)] }) + ByteArray.size x_2) : Int) ≤
         (9223372036854775807 : Int))
         (Post (AV.str ({ data := #[(62 : UInt8), (61 : UInt8)] } ++ x_1 ++ { data := #[(32 : UInt8), (60 : UInt8)] } ++ x_2))
         [AObj.cells [AV.int IntKind.i64 (Prod.fst x), AV.int IntKind.i64 (Prod.snd x)]])))))) →
    ASpec Tryd.prog 119 [AV.agg (T.encS x)] [] Post := fun x Post h => Go.Ab.ASpec.of_vc g119 Go.Proofs.Tryd.func119 (by kernel_rfl) (by kernel_rfl) (by kernel_rfl) (Go.Ab.kc (by kernel_rfl) h)

-- 63
noncomputable def l63 : Nat → List Nat
  | 7 => [0]
  | 9 => [0, 3, 4]
  | _ => []
noncomputable def u63 : Nat → Bool
  | 7 => true
  | _ => false
noncomputable def m63 : Nat → Bool
  | _ => false
noncomputable def g63 : Cfg := { N := 33, live := l63, cut := u63, mu := m63, ret := rets }
noncomputable def c63 : Go.Code := Go.Ab.bodyOf Go.Proofs.Tryd.f63
noncomputable def q63_0 : Nat → (AV → List AObj → Prop) → AQ := fun (n : Nat) (Post : AV → List AObj → Prop) => endQ Tryd.prog (resultsOf Tryd.f63) Post
noncomputable def c63_7 : Go.Code := codeSnd (codeSnd (codeSnd (codeSnd c63)))
theorem s63 : ∀ (l : List T.Span) (Post : AV → List AObj → Prop),
  (ASpec Tryd.prog 60 [AV.sl 2 (Seq.map T.encS ((0 : Int), (0 : Int)) l) Tip.none] [] fun (r : AV) (H' : List AObj) =>
      ∃ (x : Bool),
        r = AV.bool x ∧
         H' = [] ∧
         condP (!x) (Post (AV.str { data := #[] }) [])
         (condP ((↑(List.length l) : Int) == (0 : Int)) (Post (AV.str { data := #[(110 : UInt8), (111 : UInt8), (110 : UInt8), (101 : UInt8)] }) [])
         (ASpec Tryd.prog 64 [] [] fun (r : AV) (H' : List AObj) =>
         ∃ (x : List T.Span),
         r = AV.sl 2 (Seq.map T.encS ((0 : Int), (0 : Int)) x) Tip.none ∧
         H' = [] ∧
         ASpec Tryd.prog 61 [AV.sl 2 (Seq.map T.encS ((0 : Int), (0 : Int)) l) Tip.none, AV.sl 2 (Seq.map T.encS ((0 : Int), (0 : Int)) x) Tip.none] []
         fun (r : AV) (H' : List AObj) =>
         ∃ (x : Bool),
         r = AV.bool x ∧
         H' = [] ∧
         condP x (Post (AV.str { data := #[(97 : UInt8), (110 : UInt8), (121 : UInt8)] }) [])
         (AWP Tryd.prog 33 0 c63_7 [(0, AV.sl 2 (Seq.map T.encS ((0 : Int), (0 : Int)) l) Tip.none)] [] (q63_0 0 Post))))) →
    ASpec Tryd.prog 63 [AV.sl 2 (Seq.map T.encS ((0 : Int), (0 : Int)) l) Tip.none] [] Post := fun l Post h => Go.Ab.ASpec.of_vc g63 Go.Proofs.Tryd.func63 (by kernel_rfl) (by kernel_rfl) (by kernel_rfl) (Go.Ab.kc (by kernel_rfl) h)
noncomputable def q63_1 : Nat → (AV → List AObj → Prop) → AQ := fun (n : Nat) (Post : AV → List AObj → Prop) => seqQ (fun (s' : Slots) (H' : List AObj) => awp Tryd.prog g63 n (codeSnd (codeSnd c63_7)) s' H' (q63_0 n Post)) (q63_0 n Post)
noncomputable def q63_2 : Nat → (AV → List AObj → Prop) → AQ := fun (n : Nat) (Post : AV → List AObj → Prop) => blockQ 0 (q63_1 n Post)
noncomputable def c63_9 : Go.Code := codeFst (codeSnd (codeFst (codeSnd c63_7)))
theorem v63_7 : ∀ (l : List T.Span) (n : Nat) (Post : AV → List AObj → Prop),
  needP ((0 : Int) ≤ (0 : Int) ∧ (0 : Int) < (↑(List.length l) : Int))
      (ASpec Tryd.prog 119 [AV.agg [AV.int IntKind.i64 (Prod.fst (List.getD l 0 ((0 : Int), (0 : Int)))), AV.int IntKind.i64 (Prod.snd (List.getD l 0 ((0 : Int), (0 : Int))))]]
        [] fun (r : AV) (H' : List AObj) =>
        ∃ (x : ByteArray),
         r = AV.str x ∧
         H' = [] ∧
         AWP Tryd.prog 33 n c63_9 [(0, AV.sl 2 (Seq.map T.encS ((0 : Int), (0 : Int)) l) Tip.none), (3, AV.str x), (4, AV.int IntKind.i64 (1 : Int))] []
         (q63_2 n Post)) →
    AWP Tryd.prog 33 n c63_7 [(0, AV.sl 2 (Seq.map T.encS ((0 : Int), (0 : Int)) l) Tip.none)] [] (q63_0 n Post) := fun l n Post h => Go.Ab.awp_sound g63 n _ _ _ _ (Go.Ab.kc (by kernel_rfl) h)
theorem v63_9 : ∀ (l : List T.Span) (t : ByteArray) (i : Int) (n : Nat) (Post : AV → List AObj → Prop),
  condP (decide (i < (↑(List.length l) : Int)))
      (needP ((↑(ByteArray.size t + 3) : Int) ≤ (9223372036854775807 : Int))
        (needP ((0 : Int) ≤ i ∧ i < (↑(List.length l) : Int))
         (ASpec Tryd.prog 119
         [AV.agg [AV.int IntKind.i64 (Prod.fst (List.getD l (Int.toNat i) ((0 : Int), (0 : Int)))), AV.int IntKind.i64 (Prod.snd (List.getD l (Int.toNat i) ((0 : Int), (0 : Int))))]] []
         fun (r : AV) (H' : List AObj) =>
         ∃ (x : ByteArray),
         r = AV.str x ∧
         H' = [] ∧
         needP ((↑(ByteArray.size (t ++ { data := #[(32 : UInt8), (124 : UInt8), (32 : UInt8)] }) + ByteArray.size x) : Int) ≤ (9223372036854775807 : Int))
         (AWP Tryd.prog 33 n c63_9
         [(0, AV.sl 2 (Seq.map T.encS ((0 : Int), (0 : Int)) l) Tip.none), (3, AV.str (t ++ { data := #[(32 : UInt8), (124 : UInt8), (32 : UInt8)] } ++ x)),
         (4, AV.int IntKind.i64 (IntKind.wrap IntKind.i64 (i + (1 : Int))))]
         [] (q63_2 n Post)))))
      (Post (AV.str t) []) →
    AWP Tryd.prog 33 n c63_9 [(0, AV.sl 2 (Seq.map T.encS ((0 : Int), (0 : Int)) l) Tip.none), (3, AV.str t), (4, AV.int IntKind.i64 i)] [] (q63_2 n Post) := fun l t i n Post h => Go.Ab.AWP.loop' g63 (Cfg.live g63) c63_9 (by kernel_rfl) (by kernel_rfl) (Go.Ab.kc (by kernel_rfl) h)

-- 21
noncomputable def l21 : Nat → List Nat
  | _ => []
noncomputable def u21 : Nat → Bool
  | _ => false
noncomputable def m21 : Nat → Bool
  | _ => false
noncomputable def g21 : Cfg := { N := 36, live := l21, cut := u21, mu := m21, ret := rets }
theorem s21 : ∀ (a : T.Term) (Post : AV → List AObj → Prop),
  (ASpec Tryd.prog 18
      [AV.agg [AV.str { data := List.toArray (Prod.fst a) }, AV.sl 2 (Seq.map T.encS ((0 : Int), (0 : Int)) (Prod.fst (Prod.snd a))) Tip.none, AV.bool (Prod.snd (Prod.snd a))]]
      [AObj.cells [AV.str { data := List.toArray (Prod.fst a) }, AV.sl 2 (Seq.map T.encS ((0 : Int), (0 : Int)) (Prod.fst (Prod.snd a))) Tip.none, AV.bool (Prod.snd (Prod.snd a))]]
      fun (r : AV) (H' : List AObj) =>
      ∃ (x : Bool),
        r = AV.bool x ∧
         H' = [AObj.cells [AV.str { data := List.toArray (Prod.fst a) }, AV.sl 2 (Seq.map T.encS ((0 : Int), (0 : Int)) (Prod.fst (Prod.snd a))) Tip.none, AV.bool (Prod.snd (Prod.snd a))]] ∧
         condP (!x)
         (Post (AV.str { data := #[] })
         [AObj.cells [AV.str { data := List.toArray (Prod.fst a) }, AV.sl 2 (Seq.map T.encS ((0 : Int), (0 : Int)) (Prod.fst (Prod.snd a))) Tip.none, AV.bool (Prod.snd (Prod.snd a))]])
         (ASpec Tryd.prog 22
         [AV.agg [AV.str { data := List.toArray (Prod.fst a) }, AV.sl 2 (Seq.map T.encS ((0 : Int), (0 : Int)) (Prod.fst (Prod.snd a))) Tip.none, AV.bool (Prod.snd (Prod.snd a))]]
         [AObj.cells [AV.str { data := List.toArray (Prod.fst a) }, AV.sl 2 (Seq.map T.encS ((0 : Int), (0 : Int)) (Prod.fst (Prod.snd a))) Tip.none, AV.bool (Prod.snd (Prod.snd a))]]
         fun (r : AV) (H' : List AObj) =>
         ∃ (x : Bool),
         r = AV.bool x ∧
         H' =
         [AObj.cells
         [AV.str { data := List.toArray (Prod.fst a) }, AV.sl 2 (Seq.map T.encS ((0 : Int), (0 : Int)) (Prod.fst (Prod.snd a))) Tip.none, AV.bool (Prod.snd (Prod.snd a))]] ∧
         condP x
         (needP ((↑(ByteArray.size { data := List.toArray (Prod.fst a) } + 9) : Int) ≤ (9223372036854775807 : Int))
         (Post
         (AV.str
         ({ data := List.toArray (Prod.fst a) } ++
         { data := #[(32 : UInt8), (119 : UInt8), (104 : UInt8), (97 : UInt8), (116 : UInt8), (101 : UInt8), (118 : UInt8), (101 : UInt8), (114 : UInt8)] }))
         [AObj.cells
         [AV.str { data := List.toArray (Prod.fst a) }, AV.sl 2 (Seq.map T.encS ((0 : Int), (0 : Int)) (Prod.fst (Prod.snd a))) Tip.none,
         AV.bool (Prod.snd (Prod.snd a))]]))
         (ASpec Tryd.prog 23
         [AV.agg
         [AV.str { data := List.toArray (Prod.fst a) }, AV.sl 2 (Seq.map T.encS ((0 : Int), (0 : Int)) (Prod.fst (Prod.snd a))) Tip.none, AV.bool (Prod.snd (Prod.snd a))]]
         [AObj.cells
         [AV.str { data := List.toArray (Prod.fst a) }, AV.sl 2 (Seq.map T.encS ((0 : Int), (0 : Int)) (Prod.fst (Prod.snd a))) Tip.none, AV.bool (Prod.snd (Prod.snd a))]]
         fun (r : AV) (H' : List AObj) =>
         ∃ (x : Bool),
         r = AV.bool x ∧
         H' =
         [AObj.cells
         [AV.str { data := List.toArray (Prod.fst a) }, AV.sl 2 (Seq.map T.encS ((0 : Int), (0 : Int)) (Prod.fst (Prod.snd a))) Tip.none,
         AV.bool (Prod.snd (Prod.snd a))]] ∧
         condP x
         (needP ((↑(ByteArray.size { data := List.toArray (Prod.fst a) } + 8) : Int) ≤ (9223372036854775807 : Int))
         (Post
         (AV.str
         ({ data := List.toArray (Prod.fst a) } ++
         { data := #[(32 : UInt8), (110 : UInt8), (111 : UInt8), (119 : UInt8), (104 : UInt8), (101 : UInt8), (114 : UInt8), (101 : UInt8)] }))
         [AObj.cells
         [AV.str { data := List.toArray (Prod.fst a) }, AV.sl 2 (Seq.map T.encS ((0 : Int), (0 : Int)) (Prod.fst (Prod.snd a))) Tip.none,
         AV.bool (Prod.snd (Prod.snd a))]]))
         (condP ((↑(List.length (Prod.fst (Prod.snd a))) : Int) == (0 : Int))
         (needP ((↑(ByteArray.size { data := List.toArray (Prod.fst a) } + 7) : Int) ≤ (9223372036854775807 : Int))
         (Post
         (AV.str
         ({ data := List.toArray (Prod.fst a) } ++
         { data := #[(32 : UInt8), (97 : UInt8), (98 : UInt8), (115 : UInt8), (101 : UInt8), (110 : UInt8), (116 : UInt8)] }))
         [AObj.cells
         [AV.str { data := List.toArray (Prod.fst a) }, AV.sl 2 (Seq.map T.encS ((0 : Int), (0 : Int)) (Prod.fst (Prod.snd a))) Tip.none,
         AV.bool (Prod.snd (Prod.snd a))]]))
         (needP ((↑(ByteArray.size { data := List.toArray (Prod.fst a) } + 1) : Int) ≤ (9223372036854775807 : Int))
         (ASpec Tryd.prog 63 [AV.sl 2 (Seq.map T.encS ((0 : Int), (0 : Int)) (Prod.fst (Prod.snd a))) Tip.none]
         [AObj.cells
         [AV.str { data := List.toArray (Prod.fst a) }, AV.sl 2 (Seq.map T.encS ((0 : Int), (0 : Int)) (Prod.fst (Prod.snd a))) Tip.none,
         AV.bool (Prod.snd (Prod.snd a))]]
         fun (r : AV) (H' : List AObj) =>
         ∃ (x : ByteArray),
         r = AV.str x ∧
         H' =
         [AObj.cells
         [AV.str { data := List.toArray (Prod.fst a) }, AV.sl 2 (Seq.map T.encS ((0 : Int), (0 : Int)) (Prod.fst (Prod.snd a))) Tip.none,
         AV.bool (Prod.snd (Prod.snd a))]] ∧
         (AV.str { data := List.toArray (Prod.fst a) } = AV.str { data := List.toArray (Prod.fst a) } ∧
         [AObj.cells
         [AV.str { data := List.toArray (Prod.fst a) }, AV.sl 2 (Seq.map T.encS ((0 : Int), (0 : Int)) (Prod.fst (Prod.snd a))) Tip.none,
         AV.bool (Prod.snd (Prod.snd a))]] =
         [AObj.cells
         [AV.str { data := List.toArray (Prod.fst a) }, AV.sl 2 (Seq.map T.encS ((0 : Int), (0 : Int)) (Prod.fst (Prod.snd a))) Tip.none,
         AV.bool (Prod.snd (Prod.snd a))]]) ∧
         needP
         ((↑(ByteArray.size ({ data := List.toArray (Prod.fst a) } ++ { data := #[(32 : UInt8)] }) + ByteArray.size x) : Int) ≤ (9223372036854775807 : Int))
         (condP (Prod.snd (Prod.snd a))
         (needP
         ((↑(ByteArray.size ({ data := List.toArray (Prod.fst a) } ++ { data := #[(32 : UInt8)] } ++ x) + 10) : Int) ≤ (9223372036854775807 : Int))
         (Post
         (AV.str
         ({ data := List.toArray (Prod.fst a) } ++ { data := #[(32 : UInt8)] } ++ x ++
         {
         data :=
         #[(32 : UInt8), (111 : UInt8), (114 : UInt8), (32 : UInt8), (97 : UInt8), (98 : UInt8), (115 : UInt8), (101 : UInt8), (110 : UInt8),
         (116 : UInt8)] }))
         [AObj.cells
         [AV.str { data := List.toArray (Prod.fst a) }, AV.sl 2 (Seq.map T.encS ((0 : Int), (0 : Int)) (Prod.fst (Prod.snd a))) Tip.none,
         AV.bool (Prod.snd (Prod.snd a))]]))
         (Post (AV.str ({ data := List.toArray (Prod.fst a) } ++ { data := #[(32 : UInt8)] } ++ x))
         [AObj.cells
         [AV.str { data := List.toArray (Prod.fst a) }, AV.sl 2 (Seq.map T.encS ((0 : Int), (0 : Int)) (Prod.fst (Prod.snd a))) Tip.none,
         AV.bool (Prod.snd (Prod.snd a))]])))))))) →
    ASpec Tryd.prog 21 [AV.agg (T.encT a)] [] Post := fun a Post h => Go.Ab.ASpec.of_vc g21 Go.Proofs.Tryd.func21 (by kernel_rfl) (by kernel_rfl) (by kernel_rfl) (Go.Ab.kc (by kernel_rfl) h)

-- 22
noncomputable def l22 : Nat → List Nat
  | _ => []
noncomputable def u22 : Nat → Bool
  | _ => false
noncomputable def m22 : Nat → Bool
  | _ => false
noncomputable def g22 : Cfg := { N := 11, live := l22, cut := u22, mu := m22, ret := rets }
theorem s22 : ∀ (a : T.Term) (Post : AV → List AObj → Prop),
  condP (Prod.snd (Prod.snd a))
      (ASpec Tryd.prog 64 []
        [AObj.cells [AV.str { data := List.toArray (Prod.fst a) }, AV.sl 2 (Seq.map T.encS ((0 : Int), (0 : Int)) (Prod.fst (Prod.snd a))) Tip.none, AV.bool (Prod.snd (Prod.snd a))]]
        fun (r : AV) (H' : List AObj) =>
        ∃ (x : List T.Span),
         r = AV.sl 2 (Seq.map T.encS ((0 : Int), (0 : Int)) x) Tip.none ∧
         H' =
         [AObj.cells [AV.str { data := List.toArray (Prod.fst a) }, AV.sl 2 (Seq.map T.encS ((0 : Int), (0 : Int)) (Prod.fst (Prod.snd a))) Tip.none, AV.bool (Prod.snd (Prod.snd a))]] ∧
         (AV.sl 2 (Seq.map T.encS ((0 : Int), (0 : Int)) (Prod.fst (Prod.snd a))) Tip.none = AV.sl 2 (Seq.map T.encS ((0 : Int), (0 : Int)) (Prod.fst (Prod.snd a))) Tip.none ∧
         [AObj.cells
         [AV.str { data := List.toArray (Prod.fst a) }, AV.sl 2 (Seq.map T.encS ((0 : Int), (0 : Int)) (Prod.fst (Prod.snd a))) Tip.none, AV.bool (Prod.snd (Prod.snd a))]] =
         [AObj.cells
         [AV.str { data := List.toArray (Prod.fst a) }, AV.sl 2 (Seq.map T.encS ((0 : Int), (0 : Int)) (Prod.fst (Prod.snd a))) Tip.none, AV.bool (Prod.snd (Prod.snd a))]]) ∧
         ASpec Tryd.prog 61
         [AV.sl 2 (Seq.map T.encS ((0 : Int), (0 : Int)) (Prod.fst (Prod.snd a))) Tip.none, AV.sl 2 (Seq.map T.encS ((0 : Int), (0 : Int)) x) Tip.none]
         [AObj.cells [AV.str { data := List.toArray (Prod.fst a) }, AV.sl 2 (Seq.map T.encS ((0 : Int), (0 : Int)) (Prod.fst (Prod.snd a))) Tip.none, AV.bool (Prod.snd (Prod.snd a))]]
         fun (r : AV) (H' : List AObj) =>
         ∃ (x : Bool),
         r = AV.bool x ∧
         H' =
         [AObj.cells
         [AV.str { data := List.toArray (Prod.fst a) }, AV.sl 2 (Seq.map T.encS ((0 : Int), (0 : Int)) (Prod.fst (Prod.snd a))) Tip.none,
         AV.bool (Prod.snd (Prod.snd a))]] ∧
         Post (AV.bool x)
         [AObj.cells
         [AV.str { data := List.toArray (Prod.fst a) }, AV.sl 2 (Seq.map T.encS ((0 : Int), (0 : Int)) (Prod.fst (Prod.snd a))) Tip.none,
         AV.bool (Prod.snd (Prod.snd a))]])
      (AV.tup [] = AV.tup [] ∧
        Post (AV.bool false)
         [AObj.cells [AV.str { data := List.toArray (Prod.fst a) }, AV.sl 2 (Seq.map T.encS ((0 : Int), (0 : Int)) (Prod.fst (Prod.snd a))) Tip.none, AV.bool (Prod.snd (Prod.snd a))]]) →
    ASpec Tryd.prog 22 [AV.agg (T.encT a)] [] Post := fun a Post h => Go.Ab.ASpec.of_vc g22 Go.Proofs.Tryd.func22 (by kernel_rfl) (by kernel_rfl) (by kernel_rfl) (Go.Ab.kc (by kernel_rfl) h)

-- 24
noncomputable def l24 : Nat → List Nat
  | _ => []
noncomputable def u24 : Nat → Bool
  | _ => false
noncomputable def m24 : Nat → Bool
  | _ => false
noncomputable def g24 : Cfg := { N := 12, live := l24, cut := u24, mu := m24, ret := rets }
theorem s24 : ∀ (a : T.Term) (Post : AV → List AObj → Prop),
  (ASpec Tryd.prog 65 [AV.sl 2 (Seq.map T.encS ((0 : Int), (0 : Int)) (Prod.fst (Prod.snd a))) Tip.none]
      [AObj.cells [AV.str { data := List.toArray (Prod.fst a) }, AV.sl 2 (Seq.map T.encS ((0 : Int), (0 : Int)) (Prod.fst (Prod.snd a))) Tip.none, AV.bool (Prod.snd (Prod.snd a))],
        AObj.cells [AV.str { data := #[] }, AV.sl 0 (Seq.raw []) Tip.nil, AV.bool false]]
      fun (r : AV) (H' : List AObj) =>
      ∃ (x : List T.Span),
        r = AV.sl 2 (Seq.map T.encS ((0 : Int), (0 : Int)) x) Tip.none ∧
         H' =
         [AObj.cells [AV.str { data := List.toArray (Prod.fst a) }, AV.sl 2 (Seq.map T.encS ((0 : Int), (0 : Int)) (Prod.fst (Prod.snd a))) Tip.none, AV.bool (Prod.snd (Prod.snd a))],
         AObj.cells [AV.str { data := #[] }, AV.sl 0 (Seq.raw []) Tip.nil, AV.bool false]] ∧
         (AV.bool (Prod.snd (Prod.snd a)) = AV.bool (Prod.snd (Prod.snd a)) ∧
         [AObj.cells [AV.str { data := List.toArray (Prod.fst a) }, AV.sl 2 (Seq.map T.encS ((0 : Int), (0 : Int)) (Prod.fst (Prod.snd a))) Tip.none, AV.bool (Prod.snd (Prod.snd a))],
         AObj.cells [AV.str { data := #[] }, AV.sl 0 (Seq.raw []) Tip.nil, AV.bool false]] =
         [AObj.cells [AV.str { data := List.toArray (Prod.fst a) }, AV.sl 2 (Seq.map T.encS ((0 : Int), (0 : Int)) (Prod.fst (Prod.snd a))) Tip.none, AV.bool (Prod.snd (Prod.snd a))],
         AObj.cells [AV.str { data := #[] }, AV.sl 0 (Seq.raw []) Tip.nil, AV.bool false]]) ∧
         (AV.str { data := List.toArray (Prod.fst a) } = AV.str { data := List.toArray (Prod.fst a) } ∧
         [AObj.cells [AV.str { data := List.toArray (Prod.fst a) }, AV.sl 2 (Seq.map T.encS ((0 : Int), (0 : Int)) (Prod.fst (Prod.snd a))) Tip.none, AV.bool (Prod.snd (Prod.snd a))],
         AObj.cells [AV.str { data := #[] }, AV.sl 0 (Seq.raw []) Tip.nil, AV.bool false]] =
         [AObj.cells
         [AV.str { data := List.toArray (Prod.fst a) }, AV.sl 2 (Seq.map T.encS ((0 : Int), (0 : Int)) (Prod.fst (Prod.snd a))) Tip.none, AV.bool (Prod.snd (Prod.snd a))],
         AObj.cells [AV.str { data := #[] }, AV.sl 0 (Seq.raw []) Tip.nil, AV.bool false]]) ∧
         Post (AV.agg [AV.str { data := List.toArray (Prod.fst a) }, AV.sl 2 (Seq.map T.encS ((0 : Int), (0 : Int)) x) Tip.none, AV.bool !Prod.snd (Prod.snd a)])
         [AObj.cells [AV.str { data := List.toArray (Prod.fst a) }, AV.sl 2 (Seq.map T.encS ((0 : Int), (0 : Int)) (Prod.fst (Prod.snd a))) Tip.none, AV.bool (Prod.snd (Prod.snd a))],
         AObj.cells [AV.str { data := List.toArray (Prod.fst a) }, AV.sl 2 (Seq.map T.encS ((0 : Int), (0 : Int)) x) Tip.none, AV.bool !Prod.snd (Prod.snd a)]]) →
    ASpec Tryd.prog 24 [AV.agg (T.encT a)] [] Post := fun a Post h => Go.Ab.ASpec.of_vc g24 Go.Proofs.Tryd.func24 (by kernel_rfl) (by kernel_rfl) (by kernel_rfl) (Go.Ab.kc (by kernel_rfl) h)

-- 18
noncomputable def l18 : Nat → List Nat
  | _ => []
noncomputable def u18 : Nat → Bool
  | _ => false
noncomputable def m18 : Nat → Bool
  | _ => false
noncomputable def g18 : Cfg := { N := 11, live := l18, cut := u18, mu := m18, ret := rets }
theorem s18 : ∀ (a : T.Term) (Post : AV → List AObj → Prop),
  (ASpec Tryd.prog 59 [AV.str { data := List.toArray (Prod.fst a) }]
      [AObj.cells [AV.str { data := List.toArray (Prod.fst a) }, AV.sl 2 (Seq.map T.encS ((0 : Int), (0 : Int)) (Prod.fst (Prod.snd a))) Tip.none, AV.bool (Prod.snd (Prod.snd a))]]
      fun (r : AV) (H' : List AObj) =>
      ∃ (x : Bool),
        r = AV.bool x ∧
         H' = [AObj.cells [AV.str { data := List.toArray (Prod.fst a) }, AV.sl 2 (Seq.map T.encS ((0 : Int), (0 : Int)) (Prod.fst (Prod.snd a))) Tip.none, AV.bool (Prod.snd (Prod.snd a))]] ∧
         condP x
         (ASpec Tryd.prog 60 [AV.sl 2 (Seq.map T.encS ((0 : Int), (0 : Int)) (Prod.fst (Prod.snd a))) Tip.none]
         [AObj.cells [AV.str { data := List.toArray (Prod.fst a) }, AV.sl 2 (Seq.map T.encS ((0 : Int), (0 : Int)) (Prod.fst (Prod.snd a))) Tip.none, AV.bool (Prod.snd (Prod.snd a))]]
         fun (r : AV) (H' : List AObj) =>
         ∃ (x : Bool),
         r = AV.bool x ∧
         H' =
         [AObj.cells
         [AV.str { data := List.toArray (Prod.fst a) }, AV.sl 2 (Seq.map T.encS ((0 : Int), (0 : Int)) (Prod.fst (Prod.snd a))) Tip.none, AV.bool (Prod.snd (Prod.snd a))]] ∧
         Post (AV.bool x)
         [AObj.cells
         [AV.str { data := List.toArray (Prod.fst a) }, AV.sl 2 (Seq.map T.encS ((0 : Int), (0 : Int)) (Prod.fst (Prod.snd a))) Tip.none, AV.bool (Prod.snd (Prod.snd a))]])
         (Post (AV.bool false)
         [AObj.cells
         [AV.str { data := List.toArray (Prod.fst a) }, AV.sl 2 (Seq.map T.encS ((0 : Int), (0 : Int)) (Prod.fst (Prod.snd a))) Tip.none, AV.bool (Prod.snd (Prod.snd a))]])) →
    ASpec Tryd.prog 18 [AV.agg (T.encT a)] [] Post := fun a Post h => Go.Ab.ASpec.of_vc g18 Go.Proofs.Tryd.func18 (by kernel_rfl) (by kernel_rfl) (by kernel_rfl) (Go.Ab.kc (by kernel_rfl) h)

-- 27
noncomputable def l27 : Nat → List Nat
  | _ => []
noncomputable def u27 : Nat → Bool
  | _ => false
noncomputable def m27 : Nat → Bool
  | _ => false
noncomputable def g27 : Cfg := { N := 25, live := l27, cut := u27, mu := m27, ret := rets }
theorem s27 : ∀ (a b : T.Term) (Post : AV → List AObj → Prop),
  condP (!ByteArray.toList { data := List.toArray (Prod.fst a) } == ByteArray.toList { data := List.toArray (Prod.fst b) })
      (Post (AV.agg [AV.str { data := #[] }, AV.sl 0 (Seq.raw []) Tip.nil, AV.bool false])
        [AObj.cells [AV.str { data := List.toArray (Prod.fst a) }, AV.sl 2 (Seq.map T.encS ((0 : Int), (0 : Int)) (Prod.fst (Prod.snd a))) Tip.none, AV.bool (Prod.snd (Prod.snd a))],
         AObj.cells [AV.str { data := List.toArray (Prod.fst b) }, AV.sl 2 (Seq.map T.encS ((0 : Int), (0 : Int)) (Prod.fst (Prod.snd b))) Tip.none, AV.bool (Prod.snd (Prod.snd b))],
         AObj.cells [AV.str { data := #[] }, AV.sl 0 (Seq.raw []) Tip.nil, AV.bool false]])
      (ASpec Tryd.prog 68
        [AV.sl 2 (Seq.map T.encS ((0 : Int), (0 : Int)) (Prod.fst (Prod.snd a))) Tip.none, AV.sl 2 (Seq.map T.encS ((0 : Int), (0 : Int)) (Prod.fst (Prod.snd b))) Tip.none]
        [AObj.cells [AV.str { data := List.toArray (Prod.fst a) }, AV.sl 2 (Seq.map T.encS ((0 : Int), (0 : Int)) (Prod.fst (Prod.snd a))) Tip.none, AV.bool (Prod.snd (Prod.snd a))],
         AObj.cells [AV.str { data := List.toArray (Prod.fst b) }, AV.sl 2 (Seq.map T.encS ((0 : Int), (0 : Int)) (Prod.fst (Prod.snd b))) Tip.none, AV.bool (Prod.snd (Prod.snd b))],
         AObj.cells [AV.str { data := #[] }, AV.sl 0 (Seq.raw []) Tip.nil, AV.bool false]]
        fun (r : AV) (H' : List AObj) =>
        ∃ (x : List T.Span),
         r = AV.sl 2 (Seq.map T.encS ((0 : Int), (0 : Int)) x) Tip.none ∧
         H' =
         [AObj.cells [AV.str { data := List.toArray (Prod.fst a) }, AV.sl 2 (Seq.map T.encS ((0 : Int), (0 : Int)) (Prod.fst (Prod.snd a))) Tip.none, AV.bool (Prod.snd (Prod.snd a))],
         AObj.cells [AV.str { data := List.toArray (Prod.fst b) }, AV.sl 2 (Seq.map T.encS ((0 : Int), (0 : Int)) (Prod.fst (Prod.snd b))) Tip.none, AV.bool (Prod.snd (Prod.snd b))],
         AObj.cells [AV.str { data := #[] }, AV.sl 0 (Seq.raw []) Tip.nil, AV.bool false]] ∧
         (AV.bool (Prod.snd (Prod.snd a)) = AV.bool (Prod.snd (Prod.snd a)) ∧
         [AObj.cells [AV.str { data := List.toArray (Prod.fst a) }, AV.sl 2 (Seq.map T.encS ((0 : Int), (0 : Int)) (Prod.fst (Prod.snd a))) Tip.none, AV.bool (Prod.snd (Prod.snd a))],
         AObj.cells
         [AV.str { data := List.toArray (Prod.fst b) }, AV.sl 2 (Seq.map T.encS ((0 : Int), (0 : Int)) (Prod.fst (Prod.snd b))) Tip.none, AV.bool (Prod.snd (Prod.snd b))],
         AObj.cells [AV.str { data := #[] }, AV.sl 0 (Seq.raw []) Tip.nil, AV.bool false]] =
         [AObj.cells
         [AV.str { data := List.toArray (Prod.fst a) }, AV.sl 2 (Seq.map T.encS ((0 : Int), (0 : Int)) (Prod.fst (Prod.snd a))) Tip.none, AV.bool (Prod.snd (Prod.snd a))],
         AObj.cells
         [AV.str { data := List.toArray (Prod.fst b) }, AV.sl 2 (Seq.map T.encS ((0 : Int), (0 : Int)) (Prod.fst (Prod.snd b))) Tip.none, AV.bool (Prod.snd (Prod.snd b))],
         AObj.cells [AV.str { data := #[] }, AV.sl 0 (Seq.raw []) Tip.nil, AV.bool false]]) ∧
         (AV.str { data := List.toArray (Prod.fst a) } = AV.str { data := List.toArray (Prod.fst a) } ∧
         [AObj.cells
         [AV.str { data := List.toArray (Prod.fst a) }, AV.sl 2 (Seq.map T.encS ((0 : Int), (0 : Int)) (Prod.fst (Prod.snd a))) Tip.none, AV.bool (Prod.snd (Prod.snd a))],
         AObj.cells
         [AV.str { data := List.toArray (Prod.fst b) }, AV.sl 2 (Seq.map T.encS ((0 : Int), (0 : Int)) (Prod.fst (Prod.snd b))) Tip.none, AV.bool (Prod.snd (Prod.snd b))],
         AObj.cells [AV.str { data := #[] }, AV.sl 0 (Seq.raw []) Tip.nil, AV.bool false]] =
         [AObj.cells
         [AV.str { data := List.toArray (Prod.fst a) }, AV.sl 2 (Seq.map T.encS ((0 : Int), (0 : Int)) (Prod.fst (Prod.snd a))) Tip.none, AV.bool (Prod.snd (Prod.snd a))],
         AObj.cells
         [AV.str { data := List.toArray (Prod.fst b) }, AV.sl 2 (Seq.map T.encS ((0 : Int), (0 : Int)) (Prod.fst (Prod.snd b))) Tip.none, AV.bool (Prod.snd (Prod.snd b))],
         AObj.cells [AV.str { data := #[] }, AV.sl 0 (Seq.raw []) Tip.nil, AV.bool false]]) ∧
         condP (Prod.snd (Prod.snd a))
         (Post (AV.agg [AV.str { data := List.toArray (Prod.fst a) }, AV.sl 2 (Seq.map T.encS ((0 : Int), (0 : Int)) x) Tip.none, AV.bool (Prod.snd (Prod.snd b))])
         [AObj.cells
         [AV.str { data := List.toArray (Prod.fst a) }, AV.sl 2 (Seq.map T.encS ((0 : Int), (0 : Int)) (Prod.fst (Prod.snd a))) Tip.none, AV.bool (Prod.snd (Prod.snd a))],
         AObj.cells
         [AV.str { data := List.toArray (Prod.fst b) }, AV.sl 2 (Seq.map T.encS ((0 : Int), (0 : Int)) (Prod.fst (Prod.snd b))) Tip.none, AV.bool (Prod.snd (Prod.snd b))],
         AObj.cells [AV.str { data := List.toArray (Prod.fst a) }, AV.sl 2 (Seq.map T.encS ((0 : Int), (0 : Int)) x) Tip.none, AV.bool (Prod.snd (Prod.snd b))]])
         (Post (AV.agg [AV.str { data := List.toArray (Prod.fst a) }, AV.sl 2 (Seq.map T.encS ((0 : Int), (0 : Int)) x) Tip.none, AV.bool false])
         [AObj.cells
         [AV.str { data := List.toArray (Prod.fst a) }, AV.sl 2 (Seq.map T.encS ((0 : Int), (0 : Int)) (Prod.fst (Prod.snd a))) Tip.none, AV.bool (Prod.snd (Prod.snd a))],
         AObj.cells
         [AV.str { data := List.toArray (Prod.fst b) }, AV.sl 2 (Seq.map T.encS ((0 : Int), (0 : Int)) (Prod.fst (Prod.snd b))) Tip.none, AV.bool (Prod.snd (Prod.snd b))],
         AObj.cells [AV.str { data := List.toArray (Prod.fst a) }, AV.sl 2 (Seq.map T.encS ((0 : Int), (0 : Int)) x) Tip.none, AV.bool false]])) →
    ASpec Tryd.prog 27 [AV.agg (T.encT a), AV.agg (T.encT b)] [] Post := fun a b Post h => Go.Ab.ASpec.of_vc g27 Go.Proofs.Tryd.func27 (by kernel_rfl) (by kernel_rfl) (by kernel_rfl) (Go.Ab.kc (by kernel_rfl) h)

-- 28
noncomputable def l28 : Nat → List Nat
  | _ => []
noncomputable def u28 : Nat → Bool
  | _ => false
noncomputable def m28 : Nat → Bool
  | _ => false
noncomputable def g28 : Cfg := { N := 25, live := l28, cut := u28, mu := m28, ret := rets }
theorem s28 : ∀ (a b : T.Term) (Post : AV → List AObj → Prop),
  condP (!ByteArray.toList { data := List.toArray (Prod.fst a) } == ByteArray.toList { data := List.toArray (Prod.fst b) })
      (Post (AV.agg [AV.str { data := #[] }, AV.sl 0 (Seq.raw []) Tip.nil, AV.bool false])
        [AObj.cells [AV.str { data := List.toArray (Prod.fst a) }, AV.sl 2 (Seq.map T.encS ((0 : Int), (0 : Int)) (Prod.fst (Prod.snd a))) Tip.none, AV.bool (Prod.snd (Prod.snd a))],
         AObj.cells [AV.str { data := List.toArray (Prod.fst b) }, AV.sl 2 (Seq.map T.encS ((0 : Int), (0 : Int)) (Prod.fst (Prod.snd b))) Tip.none, AV.bool (Prod.snd (Prod.snd b))],
         AObj.cells [AV.str { data := #[] }, AV.sl 0 (Seq.raw []) Tip.nil, AV.bool false]])
      (ASpec Tryd.prog 69
        [AV.sl 2 (Seq.map T.encS ((0 : Int), (0 : Int)) (Prod.fst (Prod.snd a))) Tip.none, AV.sl 2 (Seq.map T.encS ((0 : Int), (0 : Int)) (Prod.fst (Prod.snd b))) Tip.none]
        [AObj.cells [AV.str { data := List.toArray (Prod.fst a) }, AV.sl 2 (Seq.map T.encS ((0 : Int), (0 : Int)) (Prod.fst (Prod.snd a))) Tip.none, AV.bool (Prod.snd (Prod.snd a))],
         AObj.cells [AV.str { data := List.toArray (Prod.fst b) }, AV.sl 2 (Seq.map T.encS ((0 : Int), (0 : Int)) (Prod.fst (Prod.snd b))) Tip.none, AV.bool (Prod.snd (Prod.snd b))],
         AObj.cells [AV.str { data := #[] }, AV.sl 0 (Seq.raw []) Tip.nil, AV.bool false]]
        fun (r : AV) (H' : List AObj) =>
        ∃ (x : List T.Span),
         r = AV.sl 2 (Seq.map T.encS ((0 : Int), (0 : Int)) x) Tip.none ∧
         H' =
         [AObj.cells [AV.str { data := List.toArray (Prod.fst a) }, AV.sl 2 (Seq.map T.encS ((0 : Int), (0 : Int)) (Prod.fst (Prod.snd a))) Tip.none, AV.bool (Prod.snd (Prod.snd a))],
         AObj.cells [AV.str { data := List.toArray (Prod.fst b) }, AV.sl 2 (Seq.map T.encS ((0 : Int), (0 : Int)) (Prod.fst (Prod.snd b))) Tip.none, AV.bool (Prod.snd (Prod.snd b))],
         AObj.cells [AV.str { data := #[] }, AV.sl 0 (Seq.raw []) Tip.nil, AV.bool false]] ∧
         (AV.bool (Prod.snd (Prod.snd a)) = AV.bool (Prod.snd (Prod.snd a)) ∧
         [AObj.cells [AV.str { data := List.toArray (Prod.fst a) }, AV.sl 2 (Seq.map T.encS ((0 : Int), (0 : Int)) (Prod.fst (Prod.snd a))) Tip.none, AV.bool (Prod.snd (Prod.snd a))],
         AObj.cells
         [AV.str { data := List.toArray (Prod.fst b) }, AV.sl 2 (Seq.map T.encS ((0 : Int), (0 : Int)) (Prod.fst (Prod.snd b))) Tip.none, AV.bool (Prod.snd (Prod.snd b))],
         AObj.cells [AV.str { data := #[] }, AV.sl 0 (Seq.raw []) Tip.nil, AV.bool false]] =
         [AObj.cells
         [AV.str { data := List.toArray (Prod.fst a) }, AV.sl 2 (Seq.map T.encS ((0 : Int), (0 : Int)) (Prod.fst (Prod.snd a))) Tip.none, AV.bool (Prod.snd (Prod.snd a))],
         AObj.cells
         [AV.str { data := List.toArray (Prod.fst b) }, AV.sl 2 (Seq.map T.encS ((0 : Int), (0 : Int)) (Prod.fst (Prod.snd b))) Tip.none, AV.bool (Prod.snd (Prod.snd b))],
         AObj.cells [AV.str { data := #[] }, AV.sl 0 (Seq.raw []) Tip.nil, AV.bool false]]) ∧
         (AV.str { data := List.toArray (Prod.fst a) } = AV.str { data := List.toArray (Prod.fst a) } ∧
         [AObj.cells
         [AV.str { data := List.toArray (Prod.fst a) }, AV.sl 2 (Seq.map T.encS ((0 : Int), (0 : Int)) (Prod.fst (Prod.snd a))) Tip.none, AV.bool (Prod.snd (Prod.snd a))],
         AObj.cells
         [AV.str { data := List.toArray (Prod.fst b) }, AV.sl 2 (Seq.map T.encS ((0 : Int), (0 : Int)) (Prod.fst (Prod.snd b))) Tip.none, AV.bool (Prod.snd (Prod.snd b))],
         AObj.cells [AV.str { data := #[] }, AV.sl 0 (Seq.raw []) Tip.nil, AV.bool false]] =
         [AObj.cells
         [AV.str { data := List.toArray (Prod.fst a) }, AV.sl 2 (Seq.map T.encS ((0 : Int), (0 : Int)) (Prod.fst (Prod.snd a))) Tip.none, AV.bool (Prod.snd (Prod.snd a))],
         AObj.cells
         [AV.str { data := List.toArray (Prod.fst b) }, AV.sl 2 (Seq.map T.encS ((0 : Int), (0 : Int)) (Prod.fst (Prod.snd b))) Tip.none, AV.bool (Prod.snd (Prod.snd b))],
         AObj.cells [AV.str { data := #[] }, AV.sl 0 (Seq.raw []) Tip.nil, AV.bool false]]) ∧
         condP (Prod.snd (Prod.snd a))
         (Post (AV.agg [AV.str { data := List.toArray (Prod.fst a) }, AV.sl 2 (Seq.map T.encS ((0 : Int), (0 : Int)) x) Tip.none, AV.bool true])
         [AObj.cells
         [AV.str { data := List.toArray (Prod.fst a) }, AV.sl 2 (Seq.map T.encS ((0 : Int), (0 : Int)) (Prod.fst (Prod.snd a))) Tip.none, AV.bool (Prod.snd (Prod.snd a))],
         AObj.cells
         [AV.str { data := List.toArray (Prod.fst b) }, AV.sl 2 (Seq.map T.encS ((0 : Int), (0 : Int)) (Prod.fst (Prod.snd b))) Tip.none, AV.bool (Prod.snd (Prod.snd b))],
         AObj.cells [AV.str { data := List.toArray (Prod.fst a) }, AV.sl 2 (Seq.map T.encS ((0 : Int), (0 : Int)) x) Tip.none, AV.bool true]])
         (Post (AV.agg [AV.str { data := List.toArray (Prod.fst a) }, AV.sl 2 (Seq.map T.encS ((0 : Int), (0 : Int)) x) Tip.none, AV.bool (Prod.snd (Prod.snd b))])
         [AObj.cells
         [AV.str { data := List.toArray (Prod.fst a) }, AV.sl 2 (Seq.map T.encS ((0 : Int), (0 : Int)) (Prod.fst (Prod.snd a))) Tip.none, AV.bool (Prod.snd (Prod.snd a))],
         AObj.cells
         [AV.str { data := List.toArray (Prod.fst b) }, AV.sl 2 (Seq.map T.encS ((0 : Int), (0 : Int)) (Prod.fst (Prod.snd b))) Tip.none, AV.bool (Prod.snd (Prod.snd b))],
         AObj.cells [AV.str { data := List.toArray (Prod.fst a) }, AV.sl 2 (Seq.map T.encS ((0 : Int), (0 : Int)) x) Tip.none, AV.bool (Prod.snd (Prod.snd b))]])) →
    ASpec Tryd.prog 28 [AV.agg (T.encT a), AV.agg (T.encT b)] [] Post := fun a b Post h => Go.Ab.ASpec.of_vc g28 Go.Proofs.Tryd.func28 (by kernel_rfl) (by kernel_rfl) (by kernel_rfl) (Go.Ab.kc (by kernel_rfl) h)

-- 26
noncomputable def l26 : Nat → List Nat
  | _ => []
noncomputable def u26 : Nat → Bool
  | _ => false
noncomputable def m26 : Nat → Bool
  | _ => false
noncomputable def g26 : Cfg := { N := 14, live := l26, cut := u26, mu := m26, ret := rets }
theorem s26 : ∀ (a : T.Term) (v : Int) (c : Bool) (Post : AV → List AObj → Prop),
  condP c
      (ASpec Tryd.prog 67 [AV.sl 2 (Seq.map T.encS ((0 : Int), (0 : Int)) (Prod.fst (Prod.snd a))) Tip.none, AV.int IntKind.i64 v]
        [AObj.cells [AV.str { data := List.toArray (Prod.fst a) }, AV.sl 2 (Seq.map T.encS ((0 : Int), (0 : Int)) (Prod.fst (Prod.snd a))) Tip.none, AV.bool (Prod.snd (Prod.snd a))]]
        fun (r : AV) (H' : List AObj) =>
        ∃ (x : Bool),
         r = AV.bool x ∧
         H' =
         [AObj.cells [AV.str { data := List.toArray (Prod.fst a) }, AV.sl 2 (Seq.map T.encS ((0 : Int), (0 : Int)) (Prod.fst (Prod.snd a))) Tip.none, AV.bool (Prod.snd (Prod.snd a))]] ∧
         Post (AV.bool x)
         [AObj.cells [AV.str { data := List.toArray (Prod.fst a) }, AV.sl 2 (Seq.map T.encS ((0 : Int), (0 : Int)) (Prod.fst (Prod.snd a))) Tip.none, AV.bool (Prod.snd (Prod.snd a))]])
      (Post (AV.bool (Prod.snd (Prod.snd a)))
        [AObj.cells [AV.str { data := List.toArray (Prod.fst a) }, AV.sl 2 (Seq.map T.encS ((0 : Int), (0 : Int)) (Prod.fst (Prod.snd a))) Tip.none, AV.bool (Prod.snd (Prod.snd a))]]) →
    ASpec Tryd.prog 26 [AV.agg (T.encT a), AV.int IntKind.i64 v, AV.bool c] [] Post := fun a v c Post h => Go.Ab.ASpec.of_vc g26 Go.Proofs.Tryd.func26 (by kernel_rfl) (by kernel_rfl) (by kernel_rfl) (Go.Ab.kc (by kernel_rfl) h)

-- 64
noncomputable def l64 : Nat → List Nat
  | _ => []
noncomputable def u64 : Nat → Bool
  | _ => false
noncomputable def m64 : Nat → Bool
  | _ => false
noncomputable def g64 : Cfg := { N := 3, live := l64, cut := u64, mu := m64, ret := rets }
theorem s64 : ∀ (Post : AV → List AObj → Prop), Post (AV.sl 2 (Seq.raw [[AV.int IntKind.i64 (0 : Int), AV.int IntKind.i64 (1000000000 : Int)]]) Tip.full) [] → ASpec Tryd.prog 64 [] [] Post := fun Post h => Go.Ab.ASpec.of_vc g64 Go.Proofs.Tryd.func64 (by kernel_rfl) (by kernel_rfl) (by kernel_rfl) (Go.Ab.kc (by kernel_rfl) h)

-- 65
noncomputable def l65 : Nat → List Nat
  | _ => []
noncomputable def u65 : Nat → Bool
  | _ => false
noncomputable def m65 : Nat → Bool
  | _ => false
noncomputable def g65 : Cfg := { N := 5, live := l65, cut := u65, mu := m65, ret := rets }
theorem s65 : ∀ (l : List T.Span) (Post : AV → List AObj → Prop),
  (ASpec Tryd.prog 120 [AV.int IntKind.i64 (2 : Int), AV.sl 2 (Seq.map T.encS ((0 : Int), (0 : Int)) l) Tip.none, AV.sl 0 (Seq.raw []) Tip.nil] []
      fun (r : AV) (H' : List AObj) =>
      ∃ (x : List T.Span), r = AV.sl 2 (Seq.map T.encS ((0 : Int), (0 : Int)) x) Tip.none ∧ H' = [] ∧ Post (AV.sl 2 (Seq.map T.encS ((0 : Int), (0 : Int)) x) Tip.none) []) →
    ASpec Tryd.prog 65 [AV.sl 2 (Seq.map T.encS ((0 : Int), (0 : Int)) l) Tip.none] [] Post := fun l Post h => Go.Ab.ASpec.of_vc g65 Go.Proofs.Tryd.func65 (by kernel_rfl) (by kernel_rfl) (by kernel_rfl) (Go.Ab.kc (by kernel_rfl) h)

-- 69
noncomputable def l69 : Nat → List Nat
  | _ => []
noncomputable def u69 : Nat → Bool
  | _ => false
noncomputable def m69 : Nat → Bool
  | _ => false
noncomputable def g69 : Cfg := { N := 8, live := l69, cut := u69, mu := m69, ret := rets }
theorem s69 : ∀ (a b : List T.Span) (Post : AV → List AObj → Prop),
  (ASpec Tryd.prog 120 [AV.int IntKind.i64 (0 : Int), AV.sl 2 (Seq.map T.encS ((0 : Int), (0 : Int)) a) Tip.none, AV.sl 2 (Seq.map T.encS ((0 : Int), (0 : Int)) b) Tip.none] []
      fun (r : AV) (H' : List AObj) =>
      ∃ (x : List T.Span), r = AV.sl 2 (Seq.map T.encS ((0 : Int), (0 : Int)) x) Tip.none ∧ H' = [] ∧ Post (AV.sl 2 (Seq.map T.encS ((0 : Int), (0 : Int)) x) Tip.none) []) →
    ASpec Tryd.prog 69 [AV.sl 2 (Seq.map T.encS ((0 : Int), (0 : Int)) a) Tip.none, AV.sl 2 (Seq.map T.encS ((0 : Int), (0 : Int)) b) Tip.none] [] Post := fun a b Post h => Go.Ab.ASpec.of_vc g69 Go.Proofs.Tryd.func69 (by kernel_rfl) (by kernel_rfl) (by kernel_rfl) (Go.Ab.kc (by kernel_rfl) h)

-- 10
noncomputable def l10 : Nat → List Nat
  | _ => []
noncomputable def u10 : Nat → Bool
  | _ => false
noncomputable def m10 : Nat → Bool
  | _ => false
noncomputable def g10 : Cfg := { N := 14, live := l10, cut := u10, mu := m10, ret := rets }
theorem s10 : ∀ (Post : AV → List AObj → Prop),
  (ASpec Tryd.prog 20 [AV.agg [AV.str { data := #[(97 : UInt8)] }, AV.sl 2 (Seq.raw [[AV.int IntKind.i64 (1000000 : Int), AV.int IntKind.i64 (1000001 : Int)]]) Tip.full, AV.bool true]]
      [AObj.cells [AV.str { data := #[(97 : UInt8)] }, AV.sl 2 (Seq.raw [[AV.int IntKind.i64 (1000000 : Int), AV.int IntKind.i64 (1000001 : Int)]]) Tip.full, AV.bool true]]
      fun (r : AV) (H' : List AObj) =>
      ∃ (x : ByteArray),
        r = AV.str x ∧
         H' = [AObj.cells [AV.str { data := #[(97 : UInt8)] }, AV.sl 2 (Seq.raw [[AV.int IntKind.i64 (1000000 : Int), AV.int IntKind.i64 (1000001 : Int)]]) Tip.full, AV.bool true]] ∧
         condP
         (ByteArray.toList x ==
         ByteArray.toList
         {
         data :=
         #[(97 : UInt8), (32 : UInt8), (61 : UInt8), (49 : UInt8), (46 : UInt8), (48 : UInt8), (46 : UInt8), (48 : UInt8), (32 : UInt8), (111 : UInt8), (114 : UInt8), (32 : UInt8),
         (97 : UInt8), (98 : UInt8), (115 : UInt8), (101 : UInt8), (110 : UInt8), (116 : UInt8)] })
         (ASpec Tryd.prog 11
         [AV.agg [AV.str { data := #[(97 : UInt8)] }, AV.sl 2 (Seq.raw [[AV.int IntKind.i64 (1000000 : Int), AV.int IntKind.i64 (1000001 : Int)]]) Tip.full, AV.bool true]]
         [AObj.cells [AV.str { data := #[(97 : UInt8)] }, AV.sl 2 (Seq.raw [[AV.int IntKind.i64 (1000000 : Int), AV.int IntKind.i64 (1000001 : Int)]]) Tip.full, AV.bool true]]
         fun (r : AV) (H' : List AObj) =>
         ∃ (x : List UInt8 × List T.Span × Bool),
         r = AV.agg [AV.str { data := List.toArray (Prod.fst x) }, AV.sl 2 (Seq.map T.encS ((0 : Int), (0 : Int)) (Prod.fst (Prod.snd x))) Tip.none, AV.bool (Prod.snd (Prod.snd x))] ∧
         H' =
         [AObj.cells [AV.str { data := #[(97 : UInt8)] }, AV.sl 2 (Seq.raw [[AV.int IntKind.i64 (1000000 : Int), AV.int IntKind.i64 (1000001 : Int)]]) Tip.full, AV.bool true]] ∧
         ASpec Tryd.prog 20
         [AV.agg
         [AV.str { data := List.toArray (Prod.fst x) }, AV.sl 2 (Seq.map T.encS ((0 : Int), (0 : Int)) (Prod.fst (Prod.snd x))) Tip.none, AV.bool (Prod.snd (Prod.snd x))]]
         [AObj.cells [AV.str { data := #[(97 : UInt8)] }, AV.sl 2 (Seq.raw [[AV.int IntKind.i64 (1000000 : Int), AV.int IntKind.i64 (1000001 : Int)]]) Tip.full, AV.bool true]]
         fun (r : AV) (H' : List AObj) =>
         ∃ (x : ByteArray),
         r = AV.str x ∧
         H' =
         [AObj.cells
         [AV.str { data := #[(97 : UInt8)] }, AV.sl 2 (Seq.raw [[AV.int IntKind.i64 (1000000 : Int), AV.int IntKind.i64 (1000001 : Int)]]) Tip.full, AV.bool true]] ∧
         Post
         (AV.bool
         (ByteArray.toList x ==
         ByteArray.toList
         {
         data :=
         #[(97 : UInt8), (32 : UInt8), (60 : UInt8), (49 : UInt8), (46 : UInt8), (48 : UInt8), (46 : UInt8), (48 : UInt8), (32 : UInt8), (124 : UInt8), (32 : UInt8),
         (62 : UInt8), (61 : UInt8), (49 : UInt8), (46 : UInt8), (48 : UInt8), (46 : UInt8), (49 : UInt8)] }))
         [AObj.cells
         [AV.str { data := #[(97 : UInt8)] }, AV.sl 2 (Seq.raw [[AV.int IntKind.i64 (1000000 : Int), AV.int IntKind.i64 (1000001 : Int)]]) Tip.full, AV.bool true]])
         (Post (AV.bool false)
         [AObj.cells [AV.str { data := #[(97 : UInt8)] }, AV.sl 2 (Seq.raw [[AV.int IntKind.i64 (1000000 : Int), AV.int IntKind.i64 (1000001 : Int)]]) Tip.full, AV.bool true]])) →
    ASpec Tryd.prog 10 [] [] Post := fun Post h => Go.Ab.ASpec.of_vc g10 Go.Proofs.Tryd.func10 (by kernel_rfl) (by kernel_rfl) (by kernel_rfl) (Go.Ab.kc (by kernel_rfl) h)

-- 3
noncomputable def l4 : Nat → List Nat
  | 3 => [2, 3, 4]
  | 5 => [2, 3, 4]
  | 7 => [2, 3, 4]
  | 9 => [3, 4]
  | _ => []
noncomputable def u4 : Nat → Bool
  | 3 => true
  | 5 => true
  | 7 => true
  | 9 => true
  | _ => false
noncomputable def m4 : Nat → Bool
  | _ => false
noncomputable def g4 : Cfg := { N := 109, live := l4, cut := u4, mu := m4, ret := rets }
noncomputable def c4 : Go.Code := Go.Ab.bodyOf Go.Proofs.Tryd.f4
noncomputable def q4_0 : Nat → (AV → List AObj → Prop) → AQ := fun (n : Nat) (Post : AV → List AObj → Prop) => endQ Tryd.prog (resultsOf Tryd.f4) Post
noncomputable def c4_3 : Go.Code := codeSnd (codeSnd c4)
theorem s4 : ∀ (a b : T.Term) (v : Int) (Post : AV → List AObj → Prop),
  (ASpec Tryd.prog 8
      [AV.agg [AV.str { data := List.toArray (Prod.fst a) }, AV.sl 2 (Seq.map T.encS ((0 : Int), (0 : Int)) (Prod.fst (Prod.snd a))) Tip.none, AV.bool (Prod.snd (Prod.snd a))]]
      [AObj.cells [AV.str { data := List.toArray (Prod.fst a) }, AV.sl 2 (Seq.map T.encS ((0 : Int), (0 : Int)) (Prod.fst (Prod.snd a))) Tip.none, AV.bool (Prod.snd (Prod.snd a))],
        AObj.cells [AV.str { data := List.toArray (Prod.fst b) }, AV.sl 2 (Seq.map T.encS ((0 : Int), (0 : Int)) (Prod.fst (Prod.snd b))) Tip.none, AV.bool (Prod.snd (Prod.snd b))]]
      fun (r : AV) (H' : List AObj) =>
      ∃ (x : Bool),
        r = AV.bool x ∧
         H' =
         [AObj.cells [AV.str { data := List.toArray (Prod.fst a) }, AV.sl 2 (Seq.map T.encS ((0 : Int), (0 : Int)) (Prod.fst (Prod.snd a))) Tip.none, AV.bool (Prod.snd (Prod.snd a))],
         AObj.cells [AV.str { data := List.toArray (Prod.fst b) }, AV.sl 2 (Seq.map T.encS ((0 : Int), (0 : Int)) (Prod.fst (Prod.snd b))) Tip.none, AV.bool (Prod.snd (Prod.snd b))]] ∧
         condP x
         (ASpec Tryd.prog 10 []
         [AObj.cells [AV.str { data := List.toArray (Prod.fst a) }, AV.sl 2 (Seq.map T.encS ((0 : Int), (0 : Int)) (Prod.fst (Prod.snd a))) Tip.none, AV.bool (Prod.snd (Prod.snd a))],
         AObj.cells [AV.str { data := List.toArray (Prod.fst b) }, AV.sl 2 (Seq.map T.encS ((0 : Int), (0 : Int)) (Prod.fst (Prod.snd b))) Tip.none, AV.bool (Prod.snd (Prod.snd b))]]
         fun (r : AV) (H' : List AObj) =>
         ∃ (x : Unit),
         r = AV.bool true ∧
         H' =
         [AObj.cells
         [AV.str { data := List.toArray (Prod.fst a) }, AV.sl 2 (Seq.map T.encS ((0 : Int), (0 : Int)) (Prod.fst (Prod.snd a))) Tip.none, AV.bool (Prod.snd (Prod.snd a))],
         AObj.cells
         [AV.str { data := List.toArray (Prod.fst b) }, AV.sl 2 (Seq.map T.encS ((0 : Int), (0 : Int)) (Prod.fst (Prod.snd b))) Tip.none, AV.bool (Prod.snd (Prod.snd b))]] ∧
         Post (AV.bool true)
         [AObj.cells
         [AV.str { data := List.toArray (Prod.fst a) }, AV.sl 2 (Seq.map T.encS ((0 : Int), (0 : Int)) (Prod.fst (Prod.snd a))) Tip.none, AV.bool (Prod.snd (Prod.snd a))],
         AObj.cells
         [AV.str { data := List.toArray (Prod.fst b) }, AV.sl 2 (Seq.map T.encS ((0 : Int), (0 : Int)) (Prod.fst (Prod.snd b))) Tip.none, AV.bool (Prod.snd (Prod.snd b))]])
         (ASpec Tryd.prog 8
         [AV.agg [AV.str { data := List.toArray (Prod.fst b) }, AV.sl 2 (Seq.map T.encS ((0 : Int), (0 : Int)) (Prod.fst (Prod.snd b))) Tip.none, AV.bool (Prod.snd (Prod.snd b))]]
         [AObj.cells [AV.str { data := List.toArray (Prod.fst a) }, AV.sl 2 (Seq.map T.encS ((0 : Int), (0 : Int)) (Prod.fst (Prod.snd a))) Tip.none, AV.bool (Prod.snd (Prod.snd a))],
         AObj.cells [AV.str { data := List.toArray (Prod.fst b) }, AV.sl 2 (Seq.map T.encS ((0 : Int), (0 : Int)) (Prod.fst (Prod.snd b))) Tip.none, AV.bool (Prod.snd (Prod.snd b))]]
         fun (r : AV) (H' : List AObj) =>
         ∃ (x : Bool),
         r = AV.bool x ∧
         H' =
         [AObj.cells
         [AV.str { data := List.toArray (Prod.fst a) }, AV.sl 2 (Seq.map T.encS ((0 : Int), (0 : Int)) (Prod.fst (Prod.snd a))) Tip.none, AV.bool (Prod.snd (Prod.snd a))],
         AObj.cells
         [AV.str { data := List.toArray (Prod.fst b) }, AV.sl 2 (Seq.map T.encS ((0 : Int), (0 : Int)) (Prod.fst (Prod.snd b))) Tip.none, AV.bool (Prod.snd (Prod.snd b))]] ∧
         condP x
         (ASpec Tryd.prog 10 []
         [AObj.cells
         [AV.str { data := List.toArray (Prod.fst a) }, AV.sl 2 (Seq.map T.encS ((0 : Int), (0 : Int)) (Prod.fst (Prod.snd a))) Tip.none, AV.bool (Prod.snd (Prod.snd a))],
         AObj.cells
         [AV.str { data := List.toArray (Prod.fst b) }, AV.sl 2 (Seq.map T.encS ((0 : Int), (0 : Int)) (Prod.fst (Prod.snd b))) Tip.none, AV.bool (Prod.snd (Prod.snd b))]]
         fun (r : AV) (H' : List AObj) =>
         ∃ (x : Unit),
         r = AV.bool true ∧
         H' =
         [AObj.cells
         [AV.str { data := List.toArray (Prod.fst a) }, AV.sl 2 (Seq.map T.encS ((0 : Int), (0 : Int)) (Prod.fst (Prod.snd a))) Tip.none,
         AV.bool (Prod.snd (Prod.snd a))],
         AObj.cells
         [AV.str { data := List.toArray (Prod.fst b) }, AV.sl 2 (Seq.map T.encS ((0 : Int), (0 : Int)) (Prod.fst (Prod.snd b))) Tip.none,
         AV.bool (Prod.snd (Prod.snd b))]] ∧
         Post (AV.bool true)
         [AObj.cells
         [AV.str { data := List.toArray (Prod.fst a) }, AV.sl 2 (Seq.map T.encS ((0 : Int), (0 : Int)) (Prod.fst (Prod.snd a))) Tip.none,
         AV.bool (Prod.snd (Prod.snd a))],
         AObj.cells
         [AV.str { data := List.toArray (Prod.fst b) }, AV.sl 2 (Seq.map T.encS ((0 : Int), (0 : Int)) (Prod.fst (Prod.snd b))) Tip.none,
         AV.bool (Prod.snd (Prod.snd b))]])
         (AWP Tryd.prog 109 0 c4_3 [(2, AV.int IntKind.i64 v), (3, AV.ptr 0 0), (4, AV.ptr 1 0)]
         [AObj.cells
         [AV.str { data := List.toArray (Prod.fst a) }, AV.sl 2 (Seq.map T.encS ((0 : Int), (0 : Int)) (Prod.fst (Prod.snd a))) Tip.none, AV.bool (Prod.snd (Prod.snd a))],
         AObj.cells
         [AV.str { data := List.toArray (Prod.fst b) }, AV.sl 2 (Seq.map T.encS ((0 : Int), (0 : Int)) (Prod.fst (Prod.snd b))) Tip.none, AV.bool (Prod.snd (Prod.snd b))]]
         (q4_0 0 Post)))) →
    ASpec Tryd.prog 4 [AV.agg (T.encT a), AV.agg (T.encT b), AV.int IntKind.i64 v] [] Post := fun a b v Post h => Go.Ab.ASpec.of_vc g4 Go.Proofs.Tryd.func4 (by kernel_rfl) (by kernel_rfl) (by kernel_rfl) (Go.Ab.kc (by kernel_rfl) h)
noncomputable def c4_5 : Go.Code := codeSnd c4_3
theorem v4_3 : ∀ (a b : T.Term) (v : Int) (n : Nat) (Post : AV → List AObj → Prop),
  (ASpec Tryd.prog 9
      [AV.agg [AV.str { data := List.toArray (Prod.fst a) }, AV.sl 2 (Seq.map T.encS ((0 : Int), (0 : Int)) (Prod.fst (Prod.snd a))) Tip.none, AV.bool (Prod.snd (Prod.snd a))]]
      [AObj.cells [AV.str { data := List.toArray (Prod.fst a) }, AV.sl 2 (Seq.map T.encS ((0 : Int), (0 : Int)) (Prod.fst (Prod.snd a))) Tip.none, AV.bool (Prod.snd (Prod.snd a))],
        AObj.cells [AV.str { data := List.toArray (Prod.fst b) }, AV.sl 2 (Seq.map T.encS ((0 : Int), (0 : Int)) (Prod.fst (Prod.snd b))) Tip.none, AV.bool (Prod.snd (Prod.snd b))]]
      fun (r : AV) (H' : List AObj) =>
      ∃ (x : Bool),
        r = AV.bool x ∧
         H' =
         [AObj.cells [AV.str { data := List.toArray (Prod.fst a) }, AV.sl 2 (Seq.map T.encS ((0 : Int), (0 : Int)) (Prod.fst (Prod.snd a))) Tip.none, AV.bool (Prod.snd (Prod.snd a))],
         AObj.cells [AV.str { data := List.toArray (Prod.fst b) }, AV.sl 2 (Seq.map T.encS ((0 : Int), (0 : Int)) (Prod.fst (Prod.snd b))) Tip.none, AV.bool (Prod.snd (Prod.snd b))]] ∧
         (AV.agg [AV.str { data := List.toArray (Prod.fst a) }, AV.sl 2 (Seq.map T.encS ((0 : Int), (0 : Int)) (Prod.fst (Prod.snd a))) Tip.none, AV.bool (Prod.snd (Prod.snd a))] =
         AV.agg [AV.str { data := List.toArray (Prod.fst a) }, AV.sl 2 (Seq.map T.encS ((0 : Int), (0 : Int)) (Prod.fst (Prod.snd a))) Tip.none, AV.bool (Prod.snd (Prod.snd a))] ∧
         [AObj.cells [AV.str { data := List.toArray (Prod.fst a) }, AV.sl 2 (Seq.map T.encS ((0 : Int), (0 : Int)) (Prod.fst (Prod.snd a))) Tip.none, AV.bool (Prod.snd (Prod.snd a))],
         AObj.cells
         [AV.str { data := List.toArray (Prod.fst b) }, AV.sl 2 (Seq.map T.encS ((0 : Int), (0 : Int)) (Prod.fst (Prod.snd b))) Tip.none, AV.bool (Prod.snd (Prod.snd b))]] =
         [AObj.cells [AV.str { data := List.toArray (Prod.fst a) }, AV.sl 2 (Seq.map T.encS ((0 : Int), (0 : Int)) (Prod.fst (Prod.snd a))) Tip.none, AV.bool (Prod.snd (Prod.snd a))],
         AObj.cells
         [AV.str { data := List.toArray (Prod.fst b) }, AV.sl 2 (Seq.map T.encS ((0 : Int), (0 : Int)) (Prod.fst (Prod.snd b))) Tip.none, AV.bool (Prod.snd (Prod.snd b))]]) ∧
         ASpec Tryd.prog 18
         [AV.agg [AV.str { data := List.toArray (Prod.fst a) }, AV.sl 2 (Seq.map T.encS ((0 : Int), (0 : Int)) (Prod.fst (Prod.snd a))) Tip.none, AV.bool (Prod.snd (Prod.snd a))]]
         [AObj.cells [AV.str { data := List.toArray (Prod.fst a) }, AV.sl 2 (Seq.map T.encS ((0 : Int), (0 : Int)) (Prod.fst (Prod.snd a))) Tip.none, AV.bool (Prod.snd (Prod.snd a))],
         AObj.cells [AV.str { data := List.toArray (Prod.fst b) }, AV.sl 2 (Seq.map T.encS ((0 : Int), (0 : Int)) (Prod.fst (Prod.snd b))) Tip.none, AV.bool (Prod.snd (Prod.snd b))]]
         fun (r : AV) (H' : List AObj) =>
         ∃ (x_1 : Bool),
         r = AV.bool x_1 ∧
         H' =
         [AObj.cells
         [AV.str { data := List.toArray (Prod.fst a) }, AV.sl 2 (Seq.map T.encS ((0 : Int), (0 : Int)) (Prod.fst (Prod.snd a))) Tip.none, AV.bool (Prod.snd (Prod.snd a))],
         AObj.cells
         [AV.str { data := List.toArray (Prod.fst b) }, AV.sl 2 (Seq.map T.encS ((0 : Int), (0 : Int)) (Prod.fst (Prod.snd b))) Tip.none, AV.bool (Prod.snd (Prod.snd b))]] ∧
         condP (!x == x_1)
         (AV.tup [] = AV.tup [] ∧
         AV.tup [] = AV.tup [] ∧
         AV.tup [] = AV.tup [] ∧
         Post (AV.bool false)
         [AObj.cells
         [AV.str { data := List.toArray (Prod.fst a) }, AV.sl 2 (Seq.map T.encS ((0 : Int), (0 : Int)) (Prod.fst (Prod.snd a))) Tip.none,
         AV.bool (Prod.snd (Prod.snd a))],
         AObj.cells
         [AV.str { data := List.toArray (Prod.fst b) }, AV.sl 2 (Seq.map T.encS ((0 : Int), (0 : Int)) (Prod.fst (Prod.snd b))) Tip.none,
         AV.bool (Prod.snd (Prod.snd b))]])
         (ASpec Tryd.prog 16
         [AV.agg
         [AV.str { data := List.toArray (Prod.fst a) }, AV.sl 2 (Seq.map T.encS ((0 : Int), (0 : Int)) (Prod.fst (Prod.snd a))) Tip.none, AV.bool (Prod.snd (Prod.snd a))],
         AV.agg
         [AV.str { data := List.toArray (Prod.fst b) }, AV.sl 2 (Seq.map T.encS ((0 : Int), (0 : Int)) (Prod.fst (Prod.snd b))) Tip.none, AV.bool (Prod.snd (Prod.snd b))]]
         [AObj.cells
         [AV.str { data := List.toArray (Prod.fst a) }, AV.sl 2 (Seq.map T.encS ((0 : Int), (0 : Int)) (Prod.fst (Prod.snd a))) Tip.none, AV.bool (Prod.snd (Prod.snd a))],
         AObj.cells
         [AV.str { data := List.toArray (Prod.fst b) }, AV.sl 2 (Seq.map T.encS ((0 : Int), (0 : Int)) (Prod.fst (Prod.snd b))) Tip.none, AV.bool (Prod.snd (Prod.snd b))]]
         fun (r : AV) (H' : List AObj) =>
         ∃ (x : Bool),
         r = AV.bool x ∧
         H' =
         [AObj.cells
         [AV.str { data := List.toArray (Prod.fst a) }, AV.sl 2 (Seq.map T.encS ((0 : Int), (0 : Int)) (Prod.fst (Prod.snd a))) Tip.none,
         AV.bool (Prod.snd (Prod.snd a))],
         AObj.cells
         [AV.str { data := List.toArray (Prod.fst b) }, AV.sl 2 (Seq.map T.encS ((0 : Int), (0 : Int)) (Prod.fst (Prod.snd b))) Tip.none,
         AV.bool (Prod.snd (Prod.snd b))]] ∧
         (AV.agg
         [AV.str { data := List.toArray (Prod.fst b) }, AV.sl 2 (Seq.map T.encS ((0 : Int), (0 : Int)) (Prod.fst (Prod.snd b))) Tip.none,
         AV.bool (Prod.snd (Prod.snd b))] =
         AV.agg
         [AV.str { data := List.toArray (Prod.fst b) }, AV.sl 2 (Seq.map T.encS ((0 : Int), (0 : Int)) (Prod.fst (Prod.snd b))) Tip.none,
         AV.bool (Prod.snd (Prod.snd b))] ∧
         [AObj.cells
         [AV.str { data := List.toArray (Prod.fst a) }, AV.sl 2 (Seq.map T.encS ((0 : Int), (0 : Int)) (Prod.fst (Prod.snd a))) Tip.none,
         AV.bool (Prod.snd (Prod.snd a))],
         AObj.cells
         [AV.str { data := List.toArray (Prod.fst b) }, AV.sl 2 (Seq.map T.encS ((0 : Int), (0 : Int)) (Prod.fst (Prod.snd b))) Tip.none,
         AV.bool (Prod.snd (Prod.snd b))]] =
         [AObj.cells
         [AV.str { data := List.toArray (Prod.fst a) }, AV.sl 2 (Seq.map T.encS ((0 : Int), (0 : Int)) (Prod.fst (Prod.snd a))) Tip.none,
         AV.bool (Prod.snd (Prod.snd a))],
         AObj.cells
         [AV.str { data := List.toArray (Prod.fst b) }, AV.sl 2 (Seq.map T.encS ((0 : Int), (0 : Int)) (Prod.fst (Prod.snd b))) Tip.none,
         AV.bool (Prod.snd (Prod.snd b))]]) ∧
         (AV.agg
         [AV.str { data := List.toArray (Prod.fst a) }, AV.sl 2 (Seq.map T.encS ((0 : Int), (0 : Int)) (Prod.fst (Prod.snd a))) Tip.none,
         AV.bool (Prod.snd (Prod.snd a))] =
         AV.agg
         [AV.str { data := List.toArray (Prod.fst a) }, AV.sl 2 (Seq.map T.encS ((0 : Int), (0 : Int)) (Prod.fst (Prod.snd a))) Tip.none,
         AV.bool (Prod.snd (Prod.snd a))] ∧
         [AObj.cells
         [AV.str { data := List.toArray (Prod.fst a) }, AV.sl 2 (Seq.map T.encS ((0 : Int), (0 : Int)) (Prod.fst (Prod.snd a))) Tip.none,
         AV.bool (Prod.snd (Prod.snd a))],
         AObj.cells
         [AV.str { data := List.toArray (Prod.fst b) }, AV.sl 2 (Seq.map T.encS ((0 : Int), (0 : Int)) (Prod.fst (Prod.snd b))) Tip.none,
         AV.bool (Prod.snd (Prod.snd b))]] =
         [AObj.cells
         [AV.str { data := List.toArray (Prod.fst a) }, AV.sl 2 (Seq.map T.encS ((0 : Int), (0 : Int)) (Prod.fst (Prod.snd a))) Tip.none,
         AV.bool (Prod.snd (Prod.snd a))],
         AObj.cells
         [AV.str { data := List.toArray (Prod.fst b) }, AV.sl 2 (Seq.map T.encS ((0 : Int), (0 : Int)) (Prod.fst (Prod.snd b))) Tip.none,
         AV.bool (Prod.snd (Prod.snd b))]]) ∧
         ASpec Tryd.prog 19
         [AV.agg
         [AV.str { data := List.toArray (Prod.fst a) }, AV.sl 2 (Seq.map T.encS ((0 : Int), (0 : Int)) (Prod.fst (Prod.snd a))) Tip.none,
         AV.bool (Prod.snd (Prod.snd a))],
         AV.agg
         [AV.str { data := List.toArray (Prod.fst b) }, AV.sl 2 (Seq.map T.encS ((0 : Int), (0 : Int)) (Prod.fst (Prod.snd b))) Tip.none,
         AV.bool (Prod.snd (Prod.snd b))]]
         [AObj.cells
         [AV.str { data := List.toArray (Prod.fst a) }, AV.sl 2 (Seq.map T.encS ((0 : Int), (0 : Int)) (Prod.fst (Prod.snd a))) Tip.none,
         AV.bool (Prod.snd (Prod.snd a))],
         AObj.cells
         [AV.str { data := List.toArray (Prod.fst b) }, AV.sl 2 (Seq.map T.encS ((0 : Int), (0 : Int)) (Prod.fst (Prod.snd b))) Tip.none,
         AV.bool (Prod.snd (Prod.snd b))]]
         fun (r : AV) (H' : List AObj) =>
         ∃ (x_2 : Bool),
         r = AV.bool x_2 ∧
         H' =
         [AObj.cells
         [AV.str { data := List.toArray (Prod.fst a) }, AV.sl 2 (Seq.map T.encS ((0 : Int), (0 : Int)) (Prod.fst (Prod.snd a))) Tip.none,
         AV.bool (Prod.snd (Prod.snd a))],
         AObj.cells
         [AV.str { data := List.toArray (Prod.fst b) }, AV.sl 2 (Seq.map T.encS ((0 : Int), (0 : Int)) (Prod.fst (Prod.snd b))) Tip.none,
         AV.bool (Prod.snd (Prod.snd b))]] ∧
         condP (!x == x_2)
         (AV.tup [] = AV.tup [] ∧
         Post (AV.bool false)
         [AObj.cells
         [AV.str { data := List.toArray (Prod.fst a) }, AV.sl 2 (Seq.map T.encS ((0 : Int), (0 : Int)) (Prod.fst (Prod.snd a))) Tip.none,
         AV.bool (Prod.snd (Prod.snd a))],
         AObj.cells
         [AV.str { data := List.toArray (Prod.fst b) }, AV.sl 2 (Seq.map T.encS ((0 : Int), (0 : Int)) (Prod.fst (Prod.snd b))) Tip.none,
         AV.bool (Prod.snd (Prod.snd b))]])
         (ASpec Tryd.prog 20
         [AV.agg
         [AV.str { data := List.toArray (Prod.fst a) }, AV.sl 2 (Seq.map T.encS ((0 : Int), (0 : Int)) (Prod.fst (Prod.snd a))) Tip.none,
         AV.bool (Prod.snd (Prod.snd a))]]
         [AObj.cells
         [AV.str { data := List.toArray (Prod.fst a) }, AV.sl 2 (Seq.map T.encS ((0 : Int), (0 : Int)) (Prod.fst (Prod.snd a))) Tip.none,
         AV.bool (Prod.snd (Prod.snd a))],
         AObj.cells
         [AV.str { data := List.toArray (Prod.fst b) }, AV.sl 2 (Seq.map T.encS ((0 : Int), (0 : Int)) (Prod.fst (Prod.snd b))) Tip.none,
         AV.bool (Prod.snd (Prod.snd b))]]
         fun (r : AV) (H' : List AObj) =>
         ∃ (x : ByteArray),
         r = AV.str x ∧
         H' =
         [AObj.cells
         [AV.str { data := List.toArray (Prod.fst a) }, AV.sl 2 (Seq.map T.encS ((0 : Int), (0 : Int)) (Prod.fst (Prod.snd a))) Tip.none,
         AV.bool (Prod.snd (Prod.snd a))],
         AObj.cells
         [AV.str { data := List.toArray (Prod.fst b) }, AV.sl 2 (Seq.map T.encS ((0 : Int), (0 : Int)) (Prod.fst (Prod.snd b))) Tip.none,
         AV.bool (Prod.snd (Prod.snd b))]] ∧
         (AV.agg
         [AV.str { data := List.toArray (Prod.fst a) }, AV.sl 2 (Seq.map T.encS ((0 : Int), (0 : Int)) (Prod.fst (Prod.snd a))) Tip.none,
         AV.bool (Prod.snd (Prod.snd a))] =
         AV.agg
         [AV.str { data := List.toArray (Prod.fst a) }, AV.sl 2 (Seq.map T.encS ((0 : Int), (0 : Int)) (Prod.fst (Prod.snd a))) Tip.none,
         AV.bool (Prod.snd (Prod.snd a))] ∧
         [AObj.cells
         [AV.str { data := List.toArray (Prod.fst a) }, AV.sl 2 (Seq.map T.encS ((0 : Int), (0 : Int)) (Prod.fst (Prod.snd a))) Tip.none,
         AV.bool (Prod.snd (Prod.snd a))],
         AObj.cells
         [AV.str { data := List.toArray (Prod.fst b) }, AV.sl 2 (Seq.map T.encS ((0 : Int), (0 : Int)) (Prod.fst (Prod.snd b))) Tip.none,
         AV.bool (Prod.snd (Prod.snd b))]] =
         [AObj.cells
         [AV.str { data := List.toArray (Prod.fst a) }, AV.sl 2 (Seq.map T.encS ((0 : Int), (0 : Int)) (Prod.fst (Prod.snd a))) Tip.none,
         AV.bool (Prod.snd (Prod.snd a))],
         AObj.cells
         [AV.str { data := List.toArray (Prod.fst b) }, AV.sl 2 (Seq.map T.encS ((0 : Int), (0 : Int)) (Prod.fst (Prod.snd b))) Tip.none,
         AV.bool (Prod.snd (Prod.snd b))]]) ∧
         ASpec Tryd.prog 21
         [AV.agg
         [AV.str { data := List.toArray (Prod.fst a) }, AV.sl 2 (Seq.map T.encS ((0 : Int), (0 : Int)) (Prod.fst (Prod.snd a))) Tip.none,
         AV.bool (Prod.snd (Prod.snd a))]]
         [AObj.cells
         [AV.str { data := List.toArray (Prod.fst a) }, AV.sl 2 (Seq.map T.encS ((0 : Int), (0 : Int)) (Prod.fst (Prod.snd a))) Tip.none,
         AV.bool (Prod.snd (Prod.snd a))],
         AObj.cells
         [AV.str { data := List.toArray (Prod.fst b) }, AV.sl 2 (Seq.map T.encS ((0 : Int), (0 : Int)) (Prod.fst (Prod.snd b))) Tip.none,
         AV.bool (Prod.snd (Prod.snd b))]]
         fun (r : AV) (H' : List AObj) =>
         ∃ (x_3 : ByteArray),
         r = AV.str x_3 ∧
         H' =
         [AObj.cells
         [AV.str { data := List.toArray (Prod.fst a) },
         AV.sl 2 (Seq.map T.encS ((0 : Int), (0 : Int)) (Prod.fst (Prod.snd a))) Tip.none, AV.bool (Prod.snd (Prod.snd a))],
         AObj.cells
         [AV.str { data := List.toArray (Prod.fst b) },
         AV.sl 2 (Seq.map T.encS ((0 : Int), (0 : Int)) (Prod.fst (Prod.snd b))) Tip.none, AV.bool (Prod.snd (Prod.snd b))]] ∧
         condP (!ByteArray.toList x == ByteArray.toList x_3)
         (Post (AV.bool false)
         [AObj.cells
         [AV.str { data := List.toArray (Prod.fst a) },
         AV.sl 2 (Seq.map T.encS ((0 : Int), (0 : Int)) (Prod.fst (Prod.snd a))) Tip.none, AV.bool (Prod.snd (Prod.snd a))],
         AObj.cells
         [AV.str { data := List.toArray (Prod.fst b) },
         AV.sl 2 (Seq.map T.encS ((0 : Int), (0 : Int)) (Prod.fst (Prod.snd b))) Tip.none, AV.bool (Prod.snd (Prod.snd b))]])
         (AWP Tryd.prog 109 n c4_5
         [(2, AV.int IntKind.i64 v), (3, AV.ptr 0 0), (4, AV.ptr 1 0)]
         [AObj.cells
         [AV.str { data := List.toArray (Prod.fst a) },
         AV.sl 2 (Seq.map T.encS ((0 : Int), (0 : Int)) (Prod.fst (Prod.snd a))) Tip.none, AV.bool (Prod.snd (Prod.snd a))],
         AObj.cells
         [AV.str { data := List.toArray (Prod.fst b) },
         AV.sl 2 (Seq.map T.encS ((0 : Int), (0 : Int)) (Prod.fst (Prod.snd b))) Tip.none, AV.bool (Prod.snd (Prod.snd b))]]
         (q4_0 n Post))))) →
    AWP Tryd.prog 109 n c4_3 [(2, AV.int IntKind.i64 v), (3, AV.ptr 0 0), (4, AV.ptr 1 0)]
      [AObj.cells (T.encT a), AObj.cells (T.encT b)] (q4_0 n Post) := fun a b v n Post h => Go.Ab.awp_sound g4 n _ _ _ _ (Go.Ab.kc (by kernel_rfl) h)
noncomputable def c4_7 : Go.Code := codeSnd c4_5
theorem v4_5 : ∀ (a b : T.Term) (v : Int) (n : Nat) (Post : AV → List AObj → Prop),
  (ASpec Tryd.prog 18
      [AV.agg [AV.str { data := List.toArray (Prod.fst a) }, AV.sl 2 (Seq.map T.encS ((0 : Int), (0 : Int)) (Prod.fst (Prod.snd a))) Tip.none, AV.bool (Prod.snd (Prod.snd a))]]
      [AObj.cells [AV.str { data := List.toArray (Prod.fst a) }, AV.sl 2 (Seq.map T.encS ((0 : Int), (0 : Int)) (Prod.fst (Prod.snd a))) Tip.none, AV.bool (Prod.snd (Prod.snd a))],
        AObj.cells [AV.str { data := List.toArray (Prod.fst b) }, AV.sl 2 (Seq.map T.encS ((0 : Int), (0 : Int)) (Prod.fst (Prod.snd b))) Tip.none, AV.bool (Prod.snd (Prod.snd b))]]
      fun (r : AV) (H' : List AObj) =>
      ∃ (x : Bool),
        r = AV.bool x ∧
         H' =
         [AObj.cells [AV.str { data := List.toArray (Prod.fst a) }, AV.sl 2 (Seq.map T.encS ((0 : Int), (0 : Int)) (Prod.fst (Prod.snd a))) Tip.none, AV.bool (Prod.snd (Prod.snd a))],
         AObj.cells [AV.str { data := List.toArray (Prod.fst b) }, AV.sl 2 (Seq.map T.encS ((0 : Int), (0 : Int)) (Prod.fst (Prod.snd b))) Tip.none, AV.bool (Prod.snd (Prod.snd b))]] ∧
         condP (!x)
         (ASpec Tryd.prog 10 []
         [AObj.cells [AV.str { data := List.toArray (Prod.fst a) }, AV.sl 2 (Seq.map T.encS ((0 : Int), (0 : Int)) (Prod.fst (Prod.snd a))) Tip.none, AV.bool (Prod.snd (Prod.snd a))],
         AObj.cells [AV.str { data := List.toArray (Prod.fst b) }, AV.sl 2 (Seq.map T.encS ((0 : Int), (0 : Int)) (Prod.fst (Prod.snd b))) Tip.none, AV.bool (Prod.snd (Prod.snd b))]]
         fun (r : AV) (H' : List AObj) =>
         ∃ (x : Unit),
         r = AV.bool true ∧
         H' =
         [AObj.cells
         [AV.str { data := List.toArray (Prod.fst a) }, AV.sl 2 (Seq.map T.encS ((0 : Int), (0 : Int)) (Prod.fst (Prod.snd a))) Tip.none, AV.bool (Prod.snd (Prod.snd a))],
         AObj.cells
         [AV.str { data := List.toArray (Prod.fst b) }, AV.sl 2 (Seq.map T.encS ((0 : Int), (0 : Int)) (Prod.fst (Prod.snd b))) Tip.none, AV.bool (Prod.snd (Prod.snd b))]] ∧
         Post (AV.bool true)
         [AObj.cells
         [AV.str { data := List.toArray (Prod.fst a) }, AV.sl 2 (Seq.map T.encS ((0 : Int), (0 : Int)) (Prod.fst (Prod.snd a))) Tip.none, AV.bool (Prod.snd (Prod.snd a))],
         AObj.cells
         [AV.str { data := List.toArray (Prod.fst b) }, AV.sl 2 (Seq.map T.encS ((0 : Int), (0 : Int)) (Prod.fst (Prod.snd b))) Tip.none, AV.bool (Prod.snd (Prod.snd b))]])
         (ASpec Tryd.prog 18
         [AV.agg [AV.str { data := List.toArray (Prod.fst b) }, AV.sl 2 (Seq.map T.encS ((0 : Int), (0 : Int)) (Prod.fst (Prod.snd b))) Tip.none, AV.bool (Prod.snd (Prod.snd b))]]
         [AObj.cells [AV.str { data := List.toArray (Prod.fst a) }, AV.sl 2 (Seq.map T.encS ((0 : Int), (0 : Int)) (Prod.fst (Prod.snd a))) Tip.none, AV.bool (Prod.snd (Prod.snd a))],
         AObj.cells [AV.str { data := List.toArray (Prod.fst b) }, AV.sl 2 (Seq.map T.encS ((0 : Int), (0 : Int)) (Prod.fst (Prod.snd b))) Tip.none, AV.bool (Prod.snd (Prod.snd b))]]
         fun (r : AV) (H' : List AObj) =>
         ∃ (x : Bool),
         r = AV.bool x ∧
         H' =
         [AObj.cells
         [AV.str { data := List.toArray (Prod.fst a) }, AV.sl 2 (Seq.map T.encS ((0 : Int), (0 : Int)) (Prod.fst (Prod.snd a))) Tip.none, AV.bool (Prod.snd (Prod.snd a))],
         AObj.cells
         [AV.str { data := List.toArray (Prod.fst b) }, AV.sl 2 (Seq.map T.encS ((0 : Int), (0 : Int)) (Prod.fst (Prod.snd b))) Tip.none, AV.bool (Prod.snd (Prod.snd b))]] ∧
         condP (!x)
         (ASpec Tryd.prog 10 []
         [AObj.cells
         [AV.str { data := List.toArray (Prod.fst a) }, AV.sl 2 (Seq.map T.encS ((0 : Int), (0 : Int)) (Prod.fst (Prod.snd a))) Tip.none, AV.bool (Prod.snd (Prod.snd a))],
         AObj.cells
         [AV.str { data := List.toArray (Prod.fst b) }, AV.sl 2 (Seq.map T.encS ((0 : Int), (0 : Int)) (Prod.fst (Prod.snd b))) Tip.none, AV.bool (Prod.snd (Prod.snd b))]]
         fun (r : AV) (H' : List AObj) =>
         ∃ (x : Unit),
         r = AV.bool true ∧
         H' =
         [AObj.cells
         [AV.str { data := List.toArray (Prod.fst a) }, AV.sl 2 (Seq.map T.encS ((0 : Int), (0 : Int)) (Prod.fst (Prod.snd a))) Tip.none,
         AV.bool (Prod.snd (Prod.snd a))],
         AObj.cells
         [AV.str { data := List.toArray (Prod.fst b) }, AV.sl 2 (Seq.map T.encS ((0 : Int), (0 : Int)) (Prod.fst (Prod.snd b))) Tip.none,
         AV.bool (Prod.snd (Prod.snd b))]] ∧
         Post (AV.bool true)
         [AObj.cells
         [AV.str { data := List.toArray (Prod.fst a) }, AV.sl 2 (Seq.map T.encS ((0 : Int), (0 : Int)) (Prod.fst (Prod.snd a))) Tip.none,
         AV.bool (Prod.snd (Prod.snd a))],
         AObj.cells
         [AV.str { data := List.toArray (Prod.fst b) }, AV.sl 2 (Seq.map T.encS ((0 : Int), (0 : Int)) (Prod.fst (Prod.snd b))) Tip.none,
         AV.bool (Prod.snd (Prod.snd b))]])
         (AWP Tryd.prog 109 n c4_7 [(2, AV.int IntKind.i64 v), (3, AV.ptr 0 0), (4, AV.ptr 1 0)]
         [AObj.cells
         [AV.str { data := List.toArray (Prod.fst a) }, AV.sl 2 (Seq.map T.encS ((0 : Int), (0 : Int)) (Prod.fst (Prod.snd a))) Tip.none, AV.bool (Prod.snd (Prod.snd a))],
         AObj.cells
         [AV.str { data := List.toArray (Prod.fst b) }, AV.sl 2 (Seq.map T.encS ((0 : Int), (0 : Int)) (Prod.fst (Prod.snd b))) Tip.none, AV.bool (Prod.snd (Prod.snd b))]]
         (q4_0 n Post)))) →
    AWP Tryd.prog 109 n c4_5 [(2, AV.int IntKind.i64 v), (3, AV.ptr 0 0), (4, AV.ptr 1 0)]
      [AObj.cells (T.encT a), AObj.cells (T.encT b)] (q4_0 n Post) := fun a b v n Post h => Go.Ab.awp_sound g4 n _ _ _ _ (Go.Ab.kc (by kernel_rfl) h)
noncomputable def c4_9 : Go.Code := codeSnd c4_7
theorem v4_7 : ∀ (a b : T.Term) (v : Int) (n : Nat) (Post : AV → List AObj → Prop),
  (ASpec Tryd.prog 14
      [AV.agg [AV.str { data := List.toArray (Prod.fst a) }, AV.sl 2 (Seq.map T.encS ((0 : Int), (0 : Int)) (Prod.fst (Prod.snd a))) Tip.none, AV.bool (Prod.snd (Prod.snd a))]]
      [AObj.cells [AV.str { data := List.toArray (Prod.fst a) }, AV.sl 2 (Seq.map T.encS ((0 : Int), (0 : Int)) (Prod.fst (Prod.snd a))) Tip.none, AV.bool (Prod.snd (Prod.snd a))],
        AObj.cells [AV.str { data := List.toArray (Prod.fst b) }, AV.sl 2 (Seq.map T.encS ((0 : Int), (0 : Int)) (Prod.fst (Prod.snd b))) Tip.none, AV.bool (Prod.snd (Prod.snd b))]]
      fun (r : AV) (H' : List AObj) =>
      ∃ (x : Bool),
        r = AV.bool x ∧
         H' =
         [AObj.cells [AV.str { data := List.toArray (Prod.fst a) }, AV.sl 2 (Seq.map T.encS ((0 : Int), (0 : Int)) (Prod.fst (Prod.snd a))) Tip.none, AV.bool (Prod.snd (Prod.snd a))],
         AObj.cells [AV.str { data := List.toArray (Prod.fst b) }, AV.sl 2 (Seq.map T.encS ((0 : Int), (0 : Int)) (Prod.fst (Prod.snd b))) Tip.none, AV.bool (Prod.snd (Prod.snd b))]] ∧
         (AV.agg [AV.str { data := List.toArray (Prod.fst a) }, AV.sl 2 (Seq.map T.encS ((0 : Int), (0 : Int)) (Prod.fst (Prod.snd a))) Tip.none, AV.bool (Prod.snd (Prod.snd a))] =
         AV.agg [AV.str { data := List.toArray (Prod.fst a) }, AV.sl 2 (Seq.map T.encS ((0 : Int), (0 : Int)) (Prod.fst (Prod.snd a))) Tip.none, AV.bool (Prod.snd (Prod.snd a))] ∧
         [AObj.cells [AV.str { data := List.toArray (Prod.fst a) }, AV.sl 2 (Seq.map T.encS ((0 : Int), (0 : Int)) (Prod.fst (Prod.snd a))) Tip.none, AV.bool (Prod.snd (Prod.snd a))],
         AObj.cells
         [AV.str { data := List.toArray (Prod.fst b) }, AV.sl 2 (Seq.map T.encS ((0 : Int), (0 : Int)) (Prod.fst (Prod.snd b))) Tip.none, AV.bool (Prod.snd (Prod.snd b))]] =
         [AObj.cells [AV.str { data := List.toArray (Prod.fst a) }, AV.sl 2 (Seq.map T.encS ((0 : Int), (0 : Int)) (Prod.fst (Prod.snd a))) Tip.none, AV.bool (Prod.snd (Prod.snd a))],
         AObj.cells
         [AV.str { data := List.toArray (Prod.fst b) }, AV.sl 2 (Seq.map T.encS ((0 : Int), (0 : Int)) (Prod.fst (Prod.snd b))) Tip.none, AV.bool (Prod.snd (Prod.snd b))]]) ∧
         ASpec Tryd.prog 22
         [AV.agg [AV.str { data := List.toArray (Prod.fst a) }, AV.sl 2 (Seq.map T.encS ((0 : Int), (0 : Int)) (Prod.fst (Prod.snd a))) Tip.none, AV.bool (Prod.snd (Prod.snd a))]]
         [AObj.cells [AV.str { data := List.toArray (Prod.fst a) }, AV.sl 2 (Seq.map T.encS ((0 : Int), (0 : Int)) (Prod.fst (Prod.snd a))) Tip.none, AV.bool (Prod.snd (Prod.snd a))],
         AObj.cells [AV.str { data := List.toArray (Prod.fst b) }, AV.sl 2 (Seq.map T.encS ((0 : Int), (0 : Int)) (Prod.fst (Prod.snd b))) Tip.none, AV.bool (Prod.snd (Prod.snd b))]]
         fun (r : AV) (H' : List AObj) =>
         ∃ (x_1 : Bool),
         r = AV.bool x_1 ∧
         H' =
         [AObj.cells
         [AV.str { data := List.toArray (Prod.fst a) }, AV.sl 2 (Seq.map T.encS ((0 : Int), (0 : Int)) (Prod.fst (Prod.snd a))) Tip.none, AV.bool (Prod.snd (Prod.snd a))],
         AObj.cells
         [AV.str { data := List.toArray (Prod.fst b) }, AV.sl 2 (Seq.map T.encS ((0 : Int), (0 : Int)) (Prod.fst (Prod.snd b))) Tip.none, AV.bool (Prod.snd (Prod.snd b))]] ∧
         condP (!x == x_1)
         (AV.tup [] = AV.tup [] ∧
         AV.tup [] = AV.tup [] ∧
         AV.tup [] = AV.tup [] ∧
         AV.tup [] = AV.tup [] ∧
         Post (AV.bool false)
         [AObj.cells
         [AV.str { data := List.toArray (Prod.fst a) }, AV.sl 2 (Seq.map T.encS ((0 : Int), (0 : Int)) (Prod.fst (Prod.snd a))) Tip.none,
         AV.bool (Prod.snd (Prod.snd a))],
         AObj.cells
         [AV.str { data := List.toArray (Prod.fst b) }, AV.sl 2 (Seq.map T.encS ((0 : Int), (0 : Int)) (Prod.fst (Prod.snd b))) Tip.none,
         AV.bool (Prod.snd (Prod.snd b))]])
         (ASpec Tryd.prog 12
         [AV.agg
         [AV.str { data := List.toArray (Prod.fst a) }, AV.sl 2 (Seq.map T.encS ((0 : Int), (0 : Int)) (Prod.fst (Prod.snd a))) Tip.none, AV.bool (Prod.snd (Prod.snd a))]]
         [AObj.cells
         [AV.str { data := List.toArray (Prod.fst a) }, AV.sl 2 (Seq.map T.encS ((0 : Int), (0 : Int)) (Prod.fst (Prod.snd a))) Tip.none, AV.bool (Prod.snd (Prod.snd a))],
         AObj.cells
         [AV.str { data := List.toArray (Prod.fst b) }, AV.sl 2 (Seq.map T.encS ((0 : Int), (0 : Int)) (Prod.fst (Prod.snd b))) Tip.none, AV.bool (Prod.snd (Prod.snd b))]]
         fun (r : AV) (H' : List AObj) =>
         ∃ (x : Bool),
         r = AV.bool x ∧
         H' =
         [AObj.cells
         [AV.str { data := List.toArray (Prod.fst a) }, AV.sl 2 (Seq.map T.encS ((0 : Int), (0 : Int)) (Prod.fst (Prod.snd a))) Tip.none,
         AV.bool (Prod.snd (Prod.snd a))],
         AObj.cells
         [AV.str { data := List.toArray (Prod.fst b) }, AV.sl 2 (Seq.map T.encS ((0 : Int), (0 : Int)) (Prod.fst (Prod.snd b))) Tip.none,
         AV.bool (Prod.snd (Prod.snd b))]] ∧
         (AV.agg
         [AV.str { data := List.toArray (Prod.fst a) }, AV.sl 2 (Seq.map T.encS ((0 : Int), (0 : Int)) (Prod.fst (Prod.snd a))) Tip.none,
         AV.bool (Prod.snd (Prod.snd a))] =
         AV.agg
         [AV.str { data := List.toArray (Prod.fst a) }, AV.sl 2 (Seq.map T.encS ((0 : Int), (0 : Int)) (Prod.fst (Prod.snd a))) Tip.none,
         AV.bool (Prod.snd (Prod.snd a))] ∧
         [AObj.cells
         [AV.str { data := List.toArray (Prod.fst a) }, AV.sl 2 (Seq.map T.encS ((0 : Int), (0 : Int)) (Prod.fst (Prod.snd a))) Tip.none,
         AV.bool (Prod.snd (Prod.snd a))],
         AObj.cells
         [AV.str { data := List.toArray (Prod.fst b) }, AV.sl 2 (Seq.map T.encS ((0 : Int), (0 : Int)) (Prod.fst (Prod.snd b))) Tip.none,
         AV.bool (Prod.snd (Prod.snd b))]] =
         [AObj.cells
         [AV.str { data := List.toArray (Prod.fst a) }, AV.sl 2 (Seq.map T.encS ((0 : Int), (0 : Int)) (Prod.fst (Prod.snd a))) Tip.none,
         AV.bool (Prod.snd (Prod.snd a))],
         AObj.cells
         [AV.str { data := List.toArray (Prod.fst b) }, AV.sl 2 (Seq.map T.encS ((0 : Int), (0 : Int)) (Prod.fst (Prod.snd b))) Tip.none,
         AV.bool (Prod.snd (Prod.snd b))]]) ∧
         ASpec Tryd.prog 23
         [AV.agg
         [AV.str { data := List.toArray (Prod.fst a) }, AV.sl 2 (Seq.map T.encS ((0 : Int), (0 : Int)) (Prod.fst (Prod.snd a))) Tip.none,
         AV.bool (Prod.snd (Prod.snd a))]]
         [AObj.cells
         [AV.str { data := List.toArray (Prod.fst a) }, AV.sl 2 (Seq.map T.encS ((0 : Int), (0 : Int)) (Prod.fst (Prod.snd a))) Tip.none,
         AV.bool (Prod.snd (Prod.snd a))],
         AObj.cells
         [AV.str { data := List.toArray (Prod.fst b) }, AV.sl 2 (Seq.map T.encS ((0 : Int), (0 : Int)) (Prod.fst (Prod.snd b))) Tip.none,
         AV.bool (Prod.snd (Prod.snd b))]]
         fun (r : AV) (H' : List AObj) =>
         ∃ (x_2 : Bool),
         r = AV.bool x_2 ∧
         H' =
         [AObj.cells
         [AV.str { data := List.toArray (Prod.fst a) }, AV.sl 2 (Seq.map T.encS ((0 : Int), (0 : Int)) (Prod.fst (Prod.snd a))) Tip.none,
         AV.bool (Prod.snd (Prod.snd a))],
         AObj.cells
         [AV.str { data := List.toArray (Prod.fst b) }, AV.sl 2 (Seq.map T.encS ((0 : Int), (0 : Int)) (Prod.fst (Prod.snd b))) Tip.none,
         AV.bool (Prod.snd (Prod.snd b))]] ∧
         condP (!x == x_2)
         (AV.tup [] = AV.tup [] ∧
         AV.tup [] = AV.tup [] ∧
         AV.tup [] = AV.tup [] ∧
         Post (AV.bool false)
         [AObj.cells
         [AV.str { data := List.toArray (Prod.fst a) }, AV.sl 2 (Seq.map T.encS ((0 : Int), (0 : Int)) (Prod.fst (Prod.snd a))) Tip.none,
         AV.bool (Prod.snd (Prod.snd a))],
         AObj.cells
         [AV.str { data := List.toArray (Prod.fst b) }, AV.sl 2 (Seq.map T.encS ((0 : Int), (0 : Int)) (Prod.fst (Prod.snd b))) Tip.none,
         AV.bool (Prod.snd (Prod.snd b))]])
         (ASpec Tryd.prog 11
         [AV.agg
         [AV.str { data := List.toArray (Prod.fst a) }, AV.sl 2 (Seq.map T.encS ((0 : Int), (0 : Int)) (Prod.fst (Prod.snd a))) Tip.none,
         AV.bool (Prod.snd (Prod.snd a))]]
         [AObj.cells
         [AV.str { data := List.toArray (Prod.fst a) }, AV.sl 2 (Seq.map T.encS ((0 : Int), (0 : Int)) (Prod.fst (Prod.snd a))) Tip.none,
         AV.bool (Prod.snd (Prod.snd a))],
         AObj.cells
         [AV.str { data := List.toArray (Prod.fst b) }, AV.sl 2 (Seq.map T.encS ((0 : Int), (0 : Int)) (Prod.fst (Prod.snd b))) Tip.none,
         AV.bool (Prod.snd (Prod.snd b))]]
         fun (r : AV) (H' : List AObj) =>
         ∃ (x : List UInt8 × List T.Span × Bool),
         r =
         AV.agg
         [AV.str { data := List.toArray (Prod.fst x) }, AV.sl 2 (Seq.map T.encS ((0 : Int), (0 : Int)) (Prod.fst (Prod.snd x))) Tip.none,
         AV.bool (Prod.snd (Prod.snd x))] ∧
         H' =
         [AObj.cells
         [AV.str { data := List.toArray (Prod.fst a) }, AV.sl 2 (Seq.map T.encS ((0 : Int), (0 : Int)) (Prod.fst (Prod.snd a))) Tip.none,
         AV.bool (Prod.snd (Prod.snd a))],
         AObj.cells
         [AV.str { data := List.toArray (Prod.fst b) }, AV.sl 2 (Seq.map T.encS ((0 : Int), (0 : Int)) (Prod.fst (Prod.snd b))) Tip.none,
         AV.bool (Prod.snd (Prod.snd b))]] ∧
         (AV.agg
         [AV.str { data := List.toArray (Prod.fst a) }, AV.sl 2 (Seq.map T.encS ((0 : Int), (0 : Int)) (Prod.fst (Prod.snd a))) Tip.none,
         AV.bool (Prod.snd (Prod.snd a))] =
         AV.agg
         [AV.str { data := List.toArray (Prod.fst a) }, AV.sl 2 (Seq.map T.encS ((0 : Int), (0 : Int)) (Prod.fst (Prod.snd a))) Tip.none,
         AV.bool (Prod.snd (Prod.snd a))] ∧
         [AObj.cells
         [AV.str { data := List.toArray (Prod.fst a) }, AV.sl 2 (Seq.map T.encS ((0 : Int), (0 : Int)) (Prod.fst (Prod.snd a))) Tip.none,
         AV.bool (Prod.snd (Prod.snd a))],
         AObj.cells
         [AV.str { data := List.toArray (Prod.fst b) }, AV.sl 2 (Seq.map T.encS ((0 : Int), (0 : Int)) (Prod.fst (Prod.snd b))) Tip.none,
         AV.bool (Prod.snd (Prod.snd b))]] =
         [AObj.cells
         [AV.str { data := List.toArray (Prod.fst a) }, AV.sl 2 (Seq.map T.encS ((0 : Int), (0 : Int)) (Prod.fst (Prod.snd a))) Tip.none,
         AV.bool (Prod.snd (Prod.snd a))],
         AObj.cells
         [AV.str { data := List.toArray (Prod.fst b) }, AV.sl 2 (Seq.map T.encS ((0 : Int), (0 : Int)) (Prod.fst (Prod.snd b))) Tip.none,
         AV.bool (Prod.snd (Prod.snd b))]]) ∧
         ASpec Tryd.prog 24
         [AV.agg
         [AV.str { data := List.toArray (Prod.fst a) }, AV.sl 2 (Seq.map T.encS ((0 : Int), (0 : Int)) (Prod.fst (Prod.snd a))) Tip.none,
         AV.bool (Prod.snd (Prod.snd a))]]
         [AObj.cells
         [AV.str { data := List.toArray (Prod.fst a) }, AV.sl 2 (Seq.map T.encS ((0 : Int), (0 : Int)) (Prod.fst (Prod.snd a))) Tip.none,
         AV.bool (Prod.snd (Prod.snd a))],
         AObj.cells
         [AV.str { data := List.toArray (Prod.fst b) }, AV.sl 2 (Seq.map T.encS ((0 : Int), (0 : Int)) (Prod.fst (Prod.snd b))) Tip.none,
         AV.bool (Prod.snd (Prod.snd b))]]
         fun (r : AV) (H' : List AObj) =>
         ∃ (x_3 : List UInt8 × List T.Span × Bool),
         r =
         AV.agg
         [AV.str { data := List.toArray (Prod.fst x_3) },
         AV.sl 2 (Seq.map T.encS ((0 : Int), (0 : Int)) (Prod.fst (Prod.snd x_3))) Tip.none, AV.bool (Prod.snd (Prod.snd x_3))] ∧
         H' =
         [AObj.cells
         [AV.str { data := List.toArray (Prod.fst a) },
         AV.sl 2 (Seq.map T.encS ((0 : Int), (0 : Int)) (Prod.fst (Prod.snd a))) Tip.none, AV.bool (Prod.snd (Prod.snd a))],
         AObj.cells
         [AV.str { data := List.toArray (Prod.fst b) },
         AV.sl 2 (Seq.map T.encS ((0 : Int), (0 : Int)) (Prod.fst (Prod.snd b))) Tip.none, AV.bool (Prod.snd (Prod.snd b))]] ∧
         ASpec Tryd.prog 19
         [AV.agg
         [AV.str { data := List.toArray (Prod.fst x) },
         AV.sl 2 (Seq.map T.encS ((0 : Int), (0 : Int)) (Prod.fst (Prod.snd x))) Tip.none, AV.bool (Prod.snd (Prod.snd x))],
         AV.agg
         [AV.str { data := List.toArray (Prod.fst x_3) },
         AV.sl 2 (Seq.map T.encS ((0 : Int), (0 : Int)) (Prod.fst (Prod.snd x_3))) Tip.none, AV.bool (Prod.snd (Prod.snd x_3))]]
         [AObj.cells
         [AV.str { data := List.toArray (Prod.fst a) },
         AV.sl 2 (Seq.map T.encS ((0 : Int), (0 : Int)) (Prod.fst (Prod.snd a))) Tip.none, AV.bool (Prod.snd (Prod.snd a))],
         AObj.cells
         [AV.str { data := List.toArray (Prod.fst b) },
         AV.sl 2 (Seq.map T.encS ((0 : Int), (0 : Int)) (Prod.fst (Prod.snd b))) Tip.none, AV.bool (Prod.snd (Prod.snd b))]]
         fun (r : AV) (H' : List AObj) =>
         ∃ (x : Bool),
         r = AV.bool x ∧
         H' =
         [AObj.cells
         [AV.str { data := List.toArray (Prod.fst a) },
         AV.sl 2 (Seq.map T.encS ((0 : Int), (0 : Int)) (Prod.fst (Prod.snd a))) Tip.none,
         AV.bool (Prod.snd (Prod.snd a))],
         AObj.cells
         [AV.str { data := List.toArray (Prod.fst b) },
         AV.sl 2 (Seq.map T.encS ((0 : Int), (0 : Int)) (Prod.fst (Prod.snd b))) Tip.none,
         AV.bool (Prod.snd (Prod.snd b))]] ∧
         condP (!x)
         (AV.tup [] = AV.tup [] ∧
         AV.tup [] = AV.tup [] ∧
         Post (AV.bool false)
         [AObj.cells
         [AV.str { data := List.toArray (Prod.fst a) },
         AV.sl 2 (Seq.map T.encS ((0 : Int), (0 : Int)) (Prod.fst (Prod.snd a))) Tip.none,
         AV.bool (Prod.snd (Prod.snd a))],
         AObj.cells
         [AV.str { data := List.toArray (Prod.fst b) },
         AV.sl 2 (Seq.map T.encS ((0 : Int), (0 : Int)) (Prod.fst (Prod.snd b))) Tip.none,
         AV.bool (Prod.snd (Prod.snd b))]])
         (ASpec Tryd.prog 25
         [AV.agg
         [AV.str { data := List.toArray (Prod.fst a) },
         AV.sl 2 (Seq.map T.encS ((0 : Int), (0 : Int)) (Prod.fst (Prod.snd a))) Tip.none,
         AV.bool (Prod.snd (Prod.snd a))],
         AV.int IntKind.i64 v, AV.bool true]
         [AObj.cells
         [AV.str { data := List.toArray (Prod.fst a) },
         AV.sl 2 (Seq.map T.encS ((0 : Int), (0 : Int)) (Prod.fst (Prod.snd a))) Tip.none,
         AV.bool (Prod.snd (Prod.snd a))],
         AObj.cells
         [AV.str { data := List.toArray (Prod.fst b) },
         AV.sl 2 (Seq.map T.encS ((0 : Int), (0 : Int)) (Prod.fst (Prod.snd b))) Tip.none,
         AV.bool (Prod.snd (Prod.snd b))]]
         fun (r : AV) (H' : List AObj) =>
         ∃ (x : Bool),
         r = AV.bool x ∧
         H' =
         [AObj.cells
         [AV.str { data := List.toArray (Prod.fst a) },
         AV.sl 2 (Seq.map T.encS ((0 : Int), (0 : Int)) (Prod.fst (Prod.snd a))) Tip.none,
         AV.bool (Prod.snd (Prod.snd a))],
         AObj.cells
         [AV.str { data := List.toArray (Prod.fst b) },
         AV.sl 2 (Seq.map T.encS ((0 : Int), (0 : Int)) (Prod.fst (Prod.snd b))) Tip.none,
         AV.bool (Prod.snd (Prod.snd b))]] ∧
         (AV.agg
         [AV.str { data := List.toArray (Prod.fst a) },
         AV.sl 2 (Seq.map T.encS ((0 : Int), (0 : Int)) (Prod.fst (Prod.snd a))) Tip.none,
         AV.bool (Prod.snd (Prod.snd a))] =
         AV.agg
         [AV.str { data := List.toArray (Prod.fst a) },
         AV.sl 2 (Seq.map T.encS ((0 : Int), (0 : Int)) (Prod.fst (Prod.snd a))) Tip.none,
         AV.bool (Prod.snd (Prod.snd a))] ∧
         [AObj.cells
         [AV.str { data := List.toArray (Prod.fst a) },
         AV.sl 2 (Seq.map T.encS ((0 : Int), (0 : Int)) (Prod.fst (Prod.snd a))) Tip.none,
         AV.bool (Prod.snd (Prod.snd a))],
         AObj.cells
         [AV.str { data := List.toArray (Prod.fst b) },
         AV.sl 2 (Seq.map T.encS ((0 : Int), (0 : Int)) (Prod.fst (Prod.snd b))) Tip.none,
         AV.bool (Prod.snd (Prod.snd b))]] =
         [AObj.cells
         [AV.str { data := List.toArray (Prod.fst a) },
         AV.sl 2 (Seq.map T.encS ((0 : Int), (0 : Int)) (Prod.fst (Prod.snd a))) Tip.none,
         AV.bool (Prod.snd (Prod.snd a))],
         AObj.cells
         [AV.str { data := List.toArray (Prod.fst b) },
         AV.sl 2 (Seq.map T.encS ((0 : Int), (0 : Int)) (Prod.fst (Prod.snd b))) Tip.none,
         AV.bool (Prod.snd (Prod.snd b))]]) ∧
         ASpec Tryd.prog 26
         [AV.agg
         [AV.str { data := List.toArray (Prod.fst a) },
         AV.sl 2 (Seq.map T.encS ((0 : Int), (0 : Int)) (Prod.fst (Prod.snd a))) Tip.none,
         AV.bool (Prod.snd (Prod.snd a))],
         AV.int IntKind.i64 v, AV.bool true]
         [AObj.cells
         [AV.str { data := List.toArray (Prod.fst a) },
         AV.sl 2 (Seq.map T.encS ((0 : Int), (0 : Int)) (Prod.fst (Prod.snd a))) Tip.none,
         AV.bool (Prod.snd (Prod.snd a))],
         AObj.cells
         [AV.str { data := List.toArray (Prod.fst b) },
         AV.sl 2 (Seq.map T.encS ((0 : Int), (0 : Int)) (Prod.fst (Prod.snd b))) Tip.none,
         AV.bool (Prod.snd (Prod.snd b))]]
         fun (r : AV) (H' : List AObj) =>
         ∃ (x_4 : Bool),
         r = AV.bool x_4 ∧
         H' =
         [AObj.cells
         [AV.str { data := List.toArray (Prod.fst a) },
         AV.sl 2 (Seq.map T.encS ((0 : Int), (0 : Int)) (Prod.fst (Prod.snd a))) Tip.none,
         AV.bool (Prod.snd (Prod.snd a))],
         AObj.cells
         [AV.str { data := List.toArray (Prod.fst b) },
         AV.sl 2 (Seq.map T.encS ((0 : Int), (0 : Int)) (Prod.fst (Prod.snd b))) Tip.none,
         AV.bool (Prod.snd (Prod.snd b))]] ∧
         condP (!x == x_4)
         (AV.tup [] = AV.tup [] ∧
         Post (AV.bool false)
         [AObj.cells
         [AV.str { data := List.toArray (Prod.fst a) },
         AV.sl 2 (Seq.map T.encS ((0 : Int), (0 : Int)) (Prod.fst (Prod.snd a))) Tip.none,
         AV.bool (Prod.snd (Prod.snd a))],
         AObj.cells
         [AV.str { data := List.toArray (Prod.fst b) },
         AV.sl 2 (Seq.map T.encS ((0 : Int), (0 : Int)) (Prod.fst (Prod.snd b))) Tip.none,
         AV.bool (Prod.snd (Prod.snd b))]])
         (ASpec Tryd.prog 25
         [AV.agg
         [AV.str { data := List.toArray (Prod.fst a) },
         AV.sl 2 (Seq.map T.encS ((0 : Int), (0 : Int)) (Prod.fst (Prod.snd a))) Tip.none,
         AV.bool (Prod.snd (Prod.snd a))],
         AV.int IntKind.i64 v, AV.bool false]
         [AObj.cells
         [AV.str { data := List.toArray (Prod.fst a) },
         AV.sl 2 (Seq.map T.encS ((0 : Int), (0 : Int)) (Prod.fst (Prod.snd a))) Tip.none,
         AV.bool (Prod.snd (Prod.snd a))],
         AObj.cells
         [AV.str { data := List.toArray (Prod.fst b) },
         AV.sl 2 (Seq.map T.encS ((0 : Int), (0 : Int)) (Prod.fst (Prod.snd b))) Tip.none,
         AV.bool (Prod.snd (Prod.snd b))]]
         fun (r : AV) (H' : List AObj) =>
         ∃ (x : Bool),
         r = AV.bool x ∧
         H' =
         [AObj.cells
         [AV.str { data := List.toArray (Prod.fst a) },
         AV.sl 2 (Seq.map T.encS ((0 : Int), (0 : Int)) (Prod.fst (Prod.snd a))) Tip.none,
         AV.bool (Prod.snd (Prod.snd a))],
         AObj.cells
         [AV.str { data := List.toArray (Prod.fst b) },
         AV.sl 2 (Seq.map T.encS ((0 : Int), (0 : Int)) (Prod.fst (Prod.snd b))) Tip.none,
         AV.bool (Prod.snd (Prod.snd b))]] ∧
         (AV.bool (Prod.snd (Prod.snd a)) = AV.bool (Prod.snd (Prod.snd a)) ∧
         [AObj.cells
         [AV.str { data := List.toArray (Prod.fst a) },
         AV.sl 2 (Seq.map T.encS ((0 : Int), (0 : Int)) (Prod.fst (Prod.snd a)))
         Tip.none,
         AV.bool (Prod.snd (Prod.snd a))],
         AObj.cells
         [AV.str { data := List.toArray (Prod.fst b) },
         AV.sl 2 (Seq.map T.encS ((0 : Int), (0 : Int)) (Prod.fst (Prod.snd b)))
         Tip.none,
         AV.bool (Prod.snd (Prod.snd b))]] =
         [AObj.cells
         [AV.str { data := List.toArray (Prod.fst a) },
         AV.sl 2 (Seq.map T.encS ((0 : Int), (0 : Int)) (Prod.fst (Prod.snd a)))
         Tip.none,
         AV.bool (Prod.snd (Prod.snd a))],
         AObj.cells
         [AV.str { data := List.toArray (Prod.fst b) },
         AV.sl 2 (Seq.map T.encS ((0 : Int), (0 : Int)) (Prod.fst (Prod.snd b)))
         Tip.none,
         AV.bool (Prod.snd (Prod.snd b))]]) ∧
         condP (!x == Prod.snd (Prod.snd a))
         (Post (AV.bool false)
         [AObj.cells
         [AV.str { data := List.toArray (Prod.fst a) },
         AV.sl 2 (Seq.map T.encS ((0 : Int), (0 : Int)) (Prod.fst (Prod.snd a)))
         Tip.none,
         AV.bool (Prod.snd (Prod.snd a))],
         AObj.cells
         [AV.str { data := List.toArray (Prod.fst b) },
         AV.sl 2 (Seq.map T.encS ((0 : Int), (0 : Int)) (Prod.fst (Prod.snd b)))
         Tip.none,
         AV.bool (Prod.snd (Prod.snd b))]])
         (AWP Tryd.prog 109 n c4_9
         [(3, AV.ptr 0 0), (4, AV.ptr 1 0)]
         [AObj.cells
         [AV.str { data := List.toArray (Prod.fst a) },
         AV.sl 2 (Seq.map T.encS ((0 : Int), (0 : Int)) (Prod.fst (Prod.snd a)))
         Tip.none,
         AV.bool (Prod.snd (Prod.snd a))],
         AObj.cells
         [AV.str { data := List.toArray (Prod.fst b) },
         AV.sl 2 (Seq.map T.encS ((0 : Int), (0 : Int)) (Prod.fst (Prod.snd b)))
         Tip.none,
         AV.bool (Prod.snd (Prod.snd b))]]
         (q4_0 n Post))))))) →
    AWP Tryd.prog 109 n c4_7 [(2, AV.int IntKind.i64 v), (3, AV.ptr 0 0), (4, AV.ptr 1 0)]
      [AObj.cells (T.encT a), AObj.cells (T.encT b)] (q4_0 n Post) := fun a b v n Post h => Go.Ab.awp_sound g4 n _ _ _ _ (Go.Ab.kc (by kernel_rfl) h)
theorem v4_9 : ∀ (a b : T.Term) (n : Nat) (Post : AV → List AObj → Prop),
  (ASpec Tryd.prog 13
      [AV.agg [AV.str { data := List.toArray (Prod.fst a) }, AV.sl 2 (Seq.map T.encS ((0 : Int), (0 : Int)) (Prod.fst (Prod.snd a))) Tip.none, AV.bool (Prod.snd (Prod.snd a))],
        AV.agg [AV.str { data := List.toArray (Prod.fst b) }, AV.sl 2 (Seq.map T.encS ((0 : Int), (0 : Int)) (Prod.fst (Prod.snd b))) Tip.none, AV.bool (Prod.snd (Prod.snd b))]]
      [AObj.cells [AV.str { data := List.toArray (Prod.fst a) }, AV.sl 2 (Seq.map T.encS ((0 : Int), (0 : Int)) (Prod.fst (Prod.snd a))) Tip.none, AV.bool (Prod.snd (Prod.snd a))],
        AObj.cells [AV.str { data := List.toArray (Prod.fst b) }, AV.sl 2 (Seq.map T.encS ((0 : Int), (0 : Int)) (Prod.fst (Prod.snd b))) Tip.none, AV.bool (Prod.snd (Prod.snd b))]]
      fun (r : AV) (H' : List AObj) =>
      ∃ (x : List UInt8 × List T.Span × Bool),
        r = AV.agg [AV.str { data := List.toArray (Prod.fst x) }, AV.sl 2 (Seq.map T.encS ((0 : Int), (0 : Int)) (Prod.fst (Prod.snd x))) Tip.none, AV.bool (Prod.snd (Prod.snd x))] ∧
         H' =
         [AObj.cells [AV.str { data := List.toArray (Prod.fst a) }, AV.sl 2 (Seq.map T.encS ((0 : Int), (0 : Int)) (Prod.fst (Prod.snd a))) Tip.none, AV.bool (Prod.snd (Prod.snd a))],
         AObj.cells [AV.str { data := List.toArray (Prod.fst b) }, AV.sl 2 (Seq.map T.encS ((0 : Int), (0 : Int)) (Prod.fst (Prod.snd b))) Tip.none, AV.bool (Prod.snd (Prod.snd b))]] ∧
         (AV.agg [AV.str { data := List.toArray (Prod.fst b) }, AV.sl 2 (Seq.map T.encS ((0 : Int), (0 : Int)) (Prod.fst (Prod.snd b))) Tip.none, AV.bool (Prod.snd (Prod.snd b))] =
         AV.agg [AV.str { data := List.toArray (Prod.fst b) }, AV.sl 2 (Seq.map T.encS ((0 : Int), (0 : Int)) (Prod.fst (Prod.snd b))) Tip.none, AV.bool (Prod.snd (Prod.snd b))] ∧
         [AObj.cells [AV.str { data := List.toArray (Prod.fst a) }, AV.sl 2 (Seq.map T.encS ((0 : Int), (0 : Int)) (Prod.fst (Prod.snd a))) Tip.none, AV.bool (Prod.snd (Prod.snd a))],
         AObj.cells
         [AV.str { data := List.toArray (Prod.fst b) }, AV.sl 2 (Seq.map T.encS ((0 : Int), (0 : Int)) (Prod.fst (Prod.snd b))) Tip.none, AV.bool (Prod.snd (Prod.snd b))]] =
         [AObj.cells [AV.str { data := List.toArray (Prod.fst a) }, AV.sl 2 (Seq.map T.encS ((0 : Int), (0 : Int)) (Prod.fst (Prod.snd a))) Tip.none, AV.bool (Prod.snd (Prod.snd a))],
         AObj.cells
         [AV.str { data := List.toArray (Prod.fst b) }, AV.sl 2 (Seq.map T.encS ((0 : Int), (0 : Int)) (Prod.fst (Prod.snd b))) Tip.none, AV.bool (Prod.snd (Prod.snd b))]]) ∧
         (AV.agg [AV.str { data := List.toArray (Prod.fst a) }, AV.sl 2 (Seq.map T.encS ((0 : Int), (0 : Int)) (Prod.fst (Prod.snd a))) Tip.none, AV.bool (Prod.snd (Prod.snd a))] =
         AV.agg [AV.str { data := List.toArray (Prod.fst a) }, AV.sl 2 (Seq.map T.encS ((0 : Int), (0 : Int)) (Prod.fst (Prod.snd a))) Tip.none, AV.bool (Prod.snd (Prod.snd a))] ∧
         [AObj.cells [AV.str { data := List.toArray (Prod.fst a) }, AV.sl 2 (Seq.map T.encS ((0 : Int), (0 : Int)) (Prod.fst (Prod.snd a))) Tip.none, AV.bool (Prod.snd (Prod.snd a))],
         AObj.cells
         [AV.str { data := List.toArray (Prod.fst b) }, AV.sl 2 (Seq.map T.encS ((0 : Int), (0 : Int)) (Prod.fst (Prod.snd b))) Tip.none, AV.bool (Prod.snd (Prod.snd b))]] =
         [AObj.cells
         [AV.str { data := List.toArray (Prod.fst a) }, AV.sl 2 (Seq.map T.encS ((0 : Int), (0 : Int)) (Prod.fst (Prod.snd a))) Tip.none, AV.bool (Prod.snd (Prod.snd a))],
         AObj.cells
         [AV.str { data := List.toArray (Prod.fst b) }, AV.sl 2 (Seq.map T.encS ((0 : Int), (0 : Int)) (Prod.fst (Prod.snd b))) Tip.none, AV.bool (Prod.snd (Prod.snd b))]]) ∧
         ASpec Tryd.prog 27
         [AV.agg [AV.str { data := List.toArray (Prod.fst a) }, AV.sl 2 (Seq.map T.encS ((0 : Int), (0 : Int)) (Prod.fst (Prod.snd a))) Tip.none, AV.bool (Prod.snd (Prod.snd a))],
         AV.agg [AV.str { data := List.toArray (Prod.fst b) }, AV.sl 2 (Seq.map T.encS ((0 : Int), (0 : Int)) (Prod.fst (Prod.snd b))) Tip.none, AV.bool (Prod.snd (Prod.snd b))]]
         [AObj.cells [AV.str { data := List.toArray (Prod.fst a) }, AV.sl 2 (Seq.map T.encS ((0 : Int), (0 : Int)) (Prod.fst (Prod.snd a))) Tip.none, AV.bool (Prod.snd (Prod.snd a))],
         AObj.cells
         [AV.str { data := List.toArray (Prod.fst b) }, AV.sl 2 (Seq.map T.encS ((0 : Int), (0 : Int)) (Prod.fst (Prod.snd b))) Tip.none, AV.bool (Prod.snd (Prod.snd b))]]
         fun (r : AV) (H' : List AObj) =>
         ∃ (x_1 : List UInt8 × List T.Span × Bool),
         r =
         AV.agg
         [AV.str { data := List.toArray (Prod.fst x_1) }, AV.sl 2 (Seq.map T.encS ((0 : Int), (0 : Int)) (Prod.fst (Prod.snd x_1))) Tip.none,
         AV.bool (Prod.snd (Prod.snd x_1))] ∧
         H' =
         [AObj.cells
         [AV.str { data := List.toArray (Prod.fst a) }, AV.sl 2 (Seq.map T.encS ((0 : Int), (0 : Int)) (Prod.fst (Prod.snd a))) Tip.none, AV.bool (Prod.snd (Prod.snd a))],
         AObj.cells
         [AV.str { data := List.toArray (Prod.fst b) }, AV.sl 2 (Seq.map T.encS ((0 : Int), (0 : Int)) (Prod.fst (Prod.snd b))) Tip.none,
         AV.bool (Prod.snd (Prod.snd b))]] ∧
         ASpec Tryd.prog 19
         [AV.agg
         [AV.str { data := List.toArray (Prod.fst x) }, AV.sl 2 (Seq.map T.encS ((0 : Int), (0 : Int)) (Prod.fst (Prod.snd x))) Tip.none, AV.bool (Prod.snd (Prod.snd x))],
         AV.agg
         [AV.str { data := List.toArray (Prod.fst x_1) }, AV.sl 2 (Seq.map T.encS ((0 : Int), (0 : Int)) (Prod.fst (Prod.snd x_1))) Tip.none,
         AV.bool (Prod.snd (Prod.snd x_1))]]
         [AObj.cells
         [AV.str { data := List.toArray (Prod.fst a) }, AV.sl 2 (Seq.map T.encS ((0 : Int), (0 : Int)) (Prod.fst (Prod.snd a))) Tip.none, AV.bool (Prod.snd (Prod.snd a))],
         AObj.cells
         [AV.str { data := List.toArray (Prod.fst b) }, AV.sl 2 (Seq.map T.encS ((0 : Int), (0 : Int)) (Prod.fst (Prod.snd b))) Tip.none, AV.bool (Prod.snd (Prod.snd b))]]
         fun (r : AV) (H' : List AObj) =>
         ∃ (x : Bool),
         r = AV.bool x ∧
         H' =
         [AObj.cells
         [AV.str { data := List.toArray (Prod.fst a) }, AV.sl 2 (Seq.map T.encS ((0 : Int), (0 : Int)) (Prod.fst (Prod.snd a))) Tip.none,
         AV.bool (Prod.snd (Prod.snd a))],
         AObj.cells
         [AV.str { data := List.toArray (Prod.fst b) }, AV.sl 2 (Seq.map T.encS ((0 : Int), (0 : Int)) (Prod.fst (Prod.snd b))) Tip.none,
         AV.bool (Prod.snd (Prod.snd b))]] ∧
         condP x
         (ASpec Tryd.prog 15
         [AV.agg
         [AV.str { data := List.toArray (Prod.fst a) }, AV.sl 2 (Seq.map T.encS ((0 : Int), (0 : Int)) (Prod.fst (Prod.snd a))) Tip.none,
         AV.bool (Prod.snd (Prod.snd a))],
         AV.agg
         [AV.str { data := List.toArray (Prod.fst b) }, AV.sl 2 (Seq.map T.encS ((0 : Int), (0 : Int)) (Prod.fst (Prod.snd b))) Tip.none,
         AV.bool (Prod.snd (Prod.snd b))]]
         [AObj.cells
         [AV.str { data := List.toArray (Prod.fst a) }, AV.sl 2 (Seq.map T.encS ((0 : Int), (0 : Int)) (Prod.fst (Prod.snd a))) Tip.none,
         AV.bool (Prod.snd (Prod.snd a))],
         AObj.cells
         [AV.str { data := List.toArray (Prod.fst b) }, AV.sl 2 (Seq.map T.encS ((0 : Int), (0 : Int)) (Prod.fst (Prod.snd b))) Tip.none,
         AV.bool (Prod.snd (Prod.snd b))]]
         fun (r : AV) (H' : List AObj) =>
         ∃ (x : List UInt8 × List T.Span × Bool),
         r =
         AV.agg
         [AV.str { data := List.toArray (Prod.fst x) }, AV.sl 2 (Seq.map T.encS ((0 : Int), (0 : Int)) (Prod.fst (Prod.snd x))) Tip.none,
         AV.bool (Prod.snd (Prod.snd x))] ∧
         H' =
         [AObj.cells
         [AV.str { data := List.toArray (Prod.fst a) }, AV.sl 2 (Seq.map T.encS ((0 : Int), (0 : Int)) (Prod.fst (Prod.snd a))) Tip.none,
         AV.bool (Prod.snd (Prod.snd a))],
         AObj.cells
         [AV.str { data := List.toArray (Prod.fst b) }, AV.sl 2 (Seq.map T.encS ((0 : Int), (0 : Int)) (Prod.fst (Prod.snd b))) Tip.none,
         AV.bool (Prod.snd (Prod.snd b))]] ∧
         (AV.agg
         [AV.str { data := List.toArray (Prod.fst b) }, AV.sl 2 (Seq.map T.encS ((0 : Int), (0 : Int)) (Prod.fst (Prod.snd b))) Tip.none,
         AV.bool (Prod.snd (Prod.snd b))] =
         AV.agg
         [AV.str { data := List.toArray (Prod.fst b) }, AV.sl 2 (Seq.map T.encS ((0 : Int), (0 : Int)) (Prod.fst (Prod.snd b))) Tip.none,
         AV.bool (Prod.snd (Prod.snd b))] ∧
         [AObj.cells
         [AV.str { data := List.toArray (Prod.fst a) }, AV.sl 2 (Seq.map T.encS ((0 : Int), (0 : Int)) (Prod.fst (Prod.snd a))) Tip.none,
         AV.bool (Prod.snd (Prod.snd a))],
         AObj.cells
         [AV.str { data := List.toArray (Prod.fst b) }, AV.sl 2 (Seq.map T.encS ((0 : Int), (0 : Int)) (Prod.fst (Prod.snd b))) Tip.none,
         AV.bool (Prod.snd (Prod.snd b))]] =
         [AObj.cells
         [AV.str { data := List.toArray (Prod.fst a) }, AV.sl 2 (Seq.map T.encS ((0 : Int), (0 : Int)) (Prod.fst (Prod.snd a))) Tip.none,
         AV.bool (Prod.snd (Prod.snd a))],
         AObj.cells
         [AV.str { data := List.toArray (Prod.fst b) }, AV.sl 2 (Seq.map T.encS ((0 : Int), (0 : Int)) (Prod.fst (Prod.snd b))) Tip.none,
         AV.bool (Prod.snd (Prod.snd b))]]) ∧
         (AV.agg
         [AV.str { data := List.toArray (Prod.fst a) }, AV.sl 2 (Seq.map T.encS ((0 : Int), (0 : Int)) (Prod.fst (Prod.snd a))) Tip.none,
         AV.bool (Prod.snd (Prod.snd a))] =
         AV.agg
         [AV.str { data := List.toArray (Prod.fst a) }, AV.sl 2 (Seq.map T.encS ((0 : Int), (0 : Int)) (Prod.fst (Prod.snd a))) Tip.none,
         AV.bool (Prod.snd (Prod.snd a))] ∧
         [AObj.cells
         [AV.str { data := List.toArray (Prod.fst a) }, AV.sl 2 (Seq.map T.encS ((0 : Int), (0 : Int)) (Prod.fst (Prod.snd a))) Tip.none,
         AV.bool (Prod.snd (Prod.snd a))],
         AObj.cells
         [AV.str { data := List.toArray (Prod.fst b) }, AV.sl 2 (Seq.map T.encS ((0 : Int), (0 : Int)) (Prod.fst (Prod.snd b))) Tip.none,
         AV.bool (Prod.snd (Prod.snd b))]] =
         [AObj.cells
         [AV.str { data := List.toArray (Prod.fst a) }, AV.sl 2 (Seq.map T.encS ((0 : Int), (0 : Int)) (Prod.fst (Prod.snd a))) Tip.none,
         AV.bool (Prod.snd (Prod.snd a))],
         AObj.cells
         [AV.str { data := List.toArray (Prod.fst b) }, AV.sl 2 (Seq.map T.encS ((0 : Int), (0 : Int)) (Prod.fst (Prod.snd b))) Tip.none,
         AV.bool (Prod.snd (Prod.snd b))]]) ∧
         ASpec Tryd.prog 28
         [AV.agg
         [AV.str { data := List.toArray (Prod.fst a) }, AV.sl 2 (Seq.map T.encS ((0 : Int), (0 : Int)) (Prod.fst (Prod.snd a))) Tip.none,
         AV.bool (Prod.snd (Prod.snd a))],
         AV.agg
         [AV.str { data := List.toArray (Prod.fst b) }, AV.sl 2 (Seq.map T.encS ((0 : Int), (0 : Int)) (Prod.fst (Prod.snd b))) Tip.none,
         AV.bool (Prod.snd (Prod.snd b))]]
         [AObj.cells
         [AV.str { data := List.toArray (Prod.fst a) }, AV.sl 2 (Seq.map T.encS ((0 : Int), (0 : Int)) (Prod.fst (Prod.snd a))) Tip.none,
         AV.bool (Prod.snd (Prod.snd a))],
         AObj.cells
         [AV.str { data := List.toArray (Prod.fst b) }, AV.sl 2 (Seq.map T.encS ((0 : Int), (0 : Int)) (Prod.fst (Prod.snd b))) Tip.none,
         AV.bool (Prod.snd (Prod.snd b))]]
         fun (r : AV) (H' : List AObj) =>
         ∃ (x_2 : List UInt8 × List T.Span × Bool),
         r =
         AV.agg
         [AV.str { data := List.toArray (Prod.fst x_2) }, AV.sl 2 (Seq.map T.encS ((0 : Int), (0 : Int)) (Prod.fst (Prod.snd x_2))) Tip.none,
         AV.bool (Prod.snd (Prod.snd x_2))] ∧
         H' =
         [AObj.cells
         [AV.str { data := List.toArray (Prod.fst a) }, AV.sl 2 (Seq.map T.encS ((0 : Int), (0 : Int)) (Prod.fst (Prod.snd a))) Tip.none,
         AV.bool (Prod.snd (Prod.snd a))],
         AObj.cells
         [AV.str { data := List.toArray (Prod.fst b) }, AV.sl 2 (Seq.map T.encS ((0 : Int), (0 : Int)) (Prod.fst (Prod.snd b))) Tip.none,
         AV.bool (Prod.snd (Prod.snd b))]] ∧
         ASpec Tryd.prog 19
         [AV.agg
         [AV.str { data := List.toArray (Prod.fst x) }, AV.sl 2 (Seq.map T.encS ((0 : Int), (0 : Int)) (Prod.fst (Prod.snd x))) Tip.none,
         AV.bool (Prod.snd (Prod.snd x))],
         AV.agg
         [AV.str { data := List.toArray (Prod.fst x_2) }, AV.sl 2 (Seq.map T.encS ((0 : Int), (0 : Int)) (Prod.fst (Prod.snd x_2))) Tip.none,
         AV.bool (Prod.snd (Prod.snd x_2))]]
         [AObj.cells
         [AV.str { data := List.toArray (Prod.fst a) }, AV.sl 2 (Seq.map T.encS ((0 : Int), (0 : Int)) (Prod.fst (Prod.snd a))) Tip.none,
         AV.bool (Prod.snd (Prod.snd a))],
         AObj.cells
         [AV.str { data := List.toArray (Prod.fst b) }, AV.sl 2 (Seq.map T.encS ((0 : Int), (0 : Int)) (Prod.fst (Prod.snd b))) Tip.none,
         AV.bool (Prod.snd (Prod.snd b))]]
         fun (r : AV) (H' : List AObj) =>
         ∃ (x : Bool),
         r = AV.bool x ∧
         H' =
         [AObj.cells
         [AV.str { data := List.toArray (Prod.fst a) },
         AV.sl 2 (Seq.map T.encS ((0 : Int), (0 : Int)) (Prod.fst (Prod.snd a))) Tip.none, AV.bool (Prod.snd (Prod.snd a))],
         AObj.cells
         [AV.str { data := List.toArray (Prod.fst b) },
         AV.sl 2 (Seq.map T.encS ((0 : Int), (0 : Int)) (Prod.fst (Prod.snd b))) Tip.none, AV.bool (Prod.snd (Prod.snd b))]] ∧
         condP x
         (ASpec Tryd.prog 17
         [AV.agg
         [AV.str { data := List.toArray (Prod.fst a) },
         AV.sl 2 (Seq.map T.encS ((0 : Int), (0 : Int)) (Prod.fst (Prod.snd a))) Tip.none, AV.bool (Prod.snd (Prod.snd a))],
         AV.agg
         [AV.str { data := List.toArray (Prod.fst b) },
         AV.sl 2 (Seq.map T.encS ((0 : Int), (0 : Int)) (Prod.fst (Prod.snd b))) Tip.none, AV.bool (Prod.snd (Prod.snd b))]]
         [AObj.cells
         [AV.str { data := List.toArray (Prod.fst a) },
         AV.sl 2 (Seq.map T.encS ((0 : Int), (0 : Int)) (Prod.fst (Prod.snd a))) Tip.none, AV.bool (Prod.snd (Prod.snd a))],
         AObj.cells
         [AV.str { data := List.toArray (Prod.fst b) },
         AV.sl 2 (Seq.map T.encS ((0 : Int), (0 : Int)) (Prod.fst (Prod.snd b))) Tip.none, AV.bool (Prod.snd (Prod.snd b))]]
         fun (r : AV) (H' : List AObj) =>
         ∃ (x : Bool),
         r = AV.bool x ∧
         H' =
         [AObj.cells
         [AV.str { data := List.toArray (Prod.fst a) },
         AV.sl 2 (Seq.map T.encS ((0 : Int), (0 : Int)) (Prod.fst (Prod.snd a))) Tip.none,
         AV.bool (Prod.snd (Prod.snd a))],
         AObj.cells
         [AV.str { data := List.toArray (Prod.fst b) },
         AV.sl 2 (Seq.map T.encS ((0 : Int), (0 : Int)) (Prod.fst (Prod.snd b))) Tip.none,
         AV.bool (Prod.snd (Prod.snd b))]] ∧
         (AV.agg
         [AV.str { data := List.toArray (Prod.fst b) },
         AV.sl 2 (Seq.map T.encS ((0 : Int), (0 : Int)) (Prod.fst (Prod.snd b))) Tip.none,
         AV.bool (Prod.snd (Prod.snd b))] =
         AV.agg
         [AV.str { data := List.toArray (Prod.fst b) },
         AV.sl 2 (Seq.map T.encS ((0 : Int), (0 : Int)) (Prod.fst (Prod.snd b))) Tip.none,
         AV.bool (Prod.snd (Prod.snd b))] ∧
         [AObj.cells
         [AV.str { data := List.toArray (Prod.fst a) },
         AV.sl 2 (Seq.map T.encS ((0 : Int), (0 : Int)) (Prod.fst (Prod.snd a))) Tip.none,
         AV.bool (Prod.snd (Prod.snd a))],
         AObj.cells
         [AV.str { data := List.toArray (Prod.fst b) },
         AV.sl 2 (Seq.map T.encS ((0 : Int), (0 : Int)) (Prod.fst (Prod.snd b))) Tip.none,
         AV.bool (Prod.snd (Prod.snd b))]] =
         [AObj.cells
         [AV.str { data := List.toArray (Prod.fst a) },
         AV.sl 2 (Seq.map T.encS ((0 : Int), (0 : Int)) (Prod.fst (Prod.snd a))) Tip.none,
         AV.bool (Prod.snd (Prod.snd a))],
         AObj.cells
         [AV.str { data := List.toArray (Prod.fst b) },
         AV.sl 2 (Seq.map T.encS ((0 : Int), (0 : Int)) (Prod.fst (Prod.snd b))) Tip.none,
         AV.bool (Prod.snd (Prod.snd b))]]) ∧
         (AV.agg
         [AV.str { data := List.toArray (Prod.fst a) },
         AV.sl 2 (Seq.map T.encS ((0 : Int), (0 : Int)) (Prod.fst (Prod.snd a))) Tip.none,
         AV.bool (Prod.snd (Prod.snd a))] =
         AV.agg
         [AV.str { data := List.toArray (Prod.fst a) },
         AV.sl 2 (Seq.map T.encS ((0 : Int), (0 : Int)) (Prod.fst (Prod.snd a))) Tip.none,
         AV.bool (Prod.snd (Prod.snd a))] ∧
         [AObj.cells
         [AV.str { data := List.toArray (Prod.fst a) },
         AV.sl 2 (Seq.map T.encS ((0 : Int), (0 : Int)) (Prod.fst (Prod.snd a))) Tip.none,
         AV.bool (Prod.snd (Prod.snd a))],
         AObj.cells
         [AV.str { data := List.toArray (Prod.fst b) },
         AV.sl 2 (Seq.map T.encS ((0 : Int), (0 : Int)) (Prod.fst (Prod.snd b))) Tip.none,
         AV.bool (Prod.snd (Prod.snd b))]] =
         [AObj.cells
         [AV.str { data := List.toArray (Prod.fst a) },
         AV.sl 2 (Seq.map T.encS ((0 : Int), (0 : Int)) (Prod.fst (Prod.snd a))) Tip.none,
         AV.bool (Prod.snd (Prod.snd a))],
         AObj.cells
         [AV.str { data := List.toArray (Prod.fst b) },
         AV.sl 2 (Seq.map T.encS ((0 : Int), (0 : Int)) (Prod.fst (Prod.snd b))) Tip.none,
         AV.bool (Prod.snd (Prod.snd b))]]) ∧
         ASpec Tryd.prog 29
         [AV.agg
         [AV.str { data := List.toArray (Prod.fst a) },
         AV.sl 2 (Seq.map T.encS ((0 : Int), (0 : Int)) (Prod.fst (Prod.snd a))) Tip.none,
         AV.bool (Prod.snd (Prod.snd a))],
         AV.agg
         [AV.str { data := List.toArray (Prod.fst b) },
         AV.sl 2 (Seq.map T.encS ((0 : Int), (0 : Int)) (Prod.fst (Prod.snd b))) Tip.none,
         AV.bool (Prod.snd (Prod.snd b))]]
         [AObj.cells
         [AV.str { data := List.toArray (Prod.fst a) },
         AV.sl 2 (Seq.map T.encS ((0 : Int), (0 : Int)) (Prod.fst (Prod.snd a))) Tip.none,
         AV.bool (Prod.snd (Prod.snd a))],
         AObj.cells
         [AV.str { data := List.toArray (Prod.fst b) },
         AV.sl 2 (Seq.map T.encS ((0 : Int), (0 : Int)) (Prod.fst (Prod.snd b))) Tip.none,
         AV.bool (Prod.snd (Prod.snd b))]]
         fun (r : AV) (H' : List AObj) =>
         ∃ (x_3 : Bool),
         r = AV.bool x_3 ∧
         H' =
         [AObj.cells
         [AV.str { data := List.toArray (Prod.fst a) },
         AV.sl 2 (Seq.map T.encS ((0 : Int), (0 : Int)) (Prod.fst (Prod.snd a))) Tip.none,
         AV.bool (Prod.snd (Prod.snd a))],
         AObj.cells
         [AV.str { data := List.toArray (Prod.fst b) },
         AV.sl 2 (Seq.map T.encS ((0 : Int), (0 : Int)) (Prod.fst (Prod.snd b))) Tip.none,
         AV.bool (Prod.snd (Prod.snd b))]] ∧
         condP (x == x_3)
         (ASpec Tryd.prog 10 []
         [AObj.cells
         [AV.str { data := List.toArray (Prod.fst a) },
         AV.sl 2 (Seq.map T.encS ((0 : Int), (0 : Int)) (Prod.fst (Prod.snd a))) Tip.none,
         AV.bool (Prod.snd (Prod.snd a))],
         AObj.cells
         [AV.str { data := List.toArray (Prod.fst b) },
         AV.sl 2 (Seq.map T.encS ((0 : Int), (0 : Int)) (Prod.fst (Prod.snd b))) Tip.none,
         AV.bool (Prod.snd (Prod.snd b))]]
         fun (r : AV) (H' : List AObj) =>
         ∃ (x : Unit),
         r = AV.bool true ∧
         H' =
         [AObj.cells
         [AV.str { data := List.toArray (Prod.fst a) },
         AV.sl 2 (Seq.map T.encS ((0 : Int), (0 : Int)) (Prod.fst (Prod.snd a))) Tip.none,
         AV.bool (Prod.snd (Prod.snd a))],
         AObj.cells
         [AV.str { data := List.toArray (Prod.fst b) },
         AV.sl 2 (Seq.map T.encS ((0 : Int), (0 : Int)) (Prod.fst (Prod.snd b))) Tip.none,
         AV.bool (Prod.snd (Prod.snd b))]] ∧
         Post (AV.bool true)
         [AObj.cells
         [AV.str { data := List.toArray (Prod.fst a) },
         AV.sl 2 (Seq.map T.encS ((0 : Int), (0 : Int)) (Prod.fst (Prod.snd a))) Tip.none,
         AV.bool (Prod.snd (Prod.snd a))],
         AObj.cells
         [AV.str { data := List.toArray (Prod.fst b) },
         AV.sl 2 (Seq.map T.encS ((0 : Int), (0 : Int)) (Prod.fst (Prod.snd b))) Tip.none,
         AV.bool (Prod.snd (Prod.snd b))]])
         (Post (AV.bool false)
         [AObj.cells
         [AV.str { data := List.toArray (Prod.fst a) },
         AV.sl 2 (Seq.map T.encS ((0 : Int), (0 : Int)) (Prod.fst (Prod.snd a))) Tip.none,
         AV.bool (Prod.snd (Prod.snd a))],
         AObj.cells
         [AV.str { data := List.toArray (Prod.fst b) },
         AV.sl 2 (Seq.map T.encS ((0 : Int), (0 : Int)) (Prod.fst (Prod.snd b))) Tip.none,
         AV.bool (Prod.snd (Prod.snd b))]]))
         (AV.tup [] = AV.tup [] ∧
         AV.tup [] = AV.tup [] ∧
         Post (AV.bool false)
         [AObj.cells
         [AV.str { data := List.toArray (Prod.fst a) },
         AV.sl 2 (Seq.map T.encS ((0 : Int), (0 : Int)) (Prod.fst (Prod.snd a))) Tip.none, AV.bool (Prod.snd (Prod.snd a))],
         AObj.cells
         [AV.str { data := List.toArray (Prod.fst b) },
         AV.sl 2 (Seq.map T.encS ((0 : Int), (0 : Int)) (Prod.fst (Prod.snd b))) Tip.none,
         AV.bool (Prod.snd (Prod.snd b))]]))
         (AV.tup [] = AV.tup [] ∧
         AV.tup [] = AV.tup [] ∧
         AV.tup [] = AV.tup [] ∧
         AV.tup [] = AV.tup [] ∧
         Post (AV.bool false)
         [AObj.cells
         [AV.str { data := List.toArray (Prod.fst a) }, AV.sl 2 (Seq.map T.encS ((0 : Int), (0 : Int)) (Prod.fst (Prod.snd a))) Tip.none,
         AV.bool (Prod.snd (Prod.snd a))],
         AObj.cells
         [AV.str { data := List.toArray (Prod.fst b) }, AV.sl 2 (Seq.map T.encS ((0 : Int), (0 : Int)) (Prod.fst (Prod.snd b))) Tip.none,
         AV.bool (Prod.snd (Prod.snd b))]])) →
    AWP Tryd.prog 109 n c4_9 [(3, AV.ptr 0 0), (4, AV.ptr 1 0)] [AObj.cells (T.encT a), AObj.cells (T.encT b)] (q4_0 n Post) := fun a b n Post h => Go.Ab.awp_sound g4 n _ _ _ _ (Go.Ab.kc (by kernel_rfl) h)

end
end Tq
end

section
/- What one of two sets has, and what a set has not: the walk over two sets. -/

set_option linter.unusedVariables false
set_option linter.unusedSimpArgs false
set_option maxRecDepth 100000
open Go Go.Ab Go.Proofs V S T C
open W (slS leNone cons_dec renS)
open Sp
namespace Tp
open Sg (ok ok_len meetS meet_spec meet_ok meet_has has_spec next_spec add_nil add_mem arS freezeS leS0 pa PA opF condQ condNq)
open Tq (s108u s108o v108_3nu v108_3mu v108_3no v108_3mo v108_8n v108_8s c108_3 c108_8 q108_2 q108_0 s109 s111 s52 s56)
abbrev kF (f : Bool → Bool → Bool) (a b : List Span) (p : Int) : Bool := f (hasS a p) (hasS b p)
theorem k_next {f : Bool → Bool → Bool} {a b : List Span} (ha : ok a) (hb : ok b) {p : Int} (hp : p < 1000000000) {to : Int} (ht : to = if nextS b p < nextS a p then nextS b p else nextS a p) :
    p < to ∧ to ≤ 1000000000 ∧ ∀ q, p ≤ q → q < to → kF f a b q = kF f a b p := by
  have h1 := nextS_gt ha hp
  have h2 := nextS_gt hb hp
  refine ⟨by rw [ht]; split <;> omega, by rw [ht]; split <;> omega, fun q hq1 hq2 => ?_⟩
  have hqa : q < nextS a p := by rw [ht] at hq2; split at hq2 <;> omega
  have hqb : q < nextS b p := by rw [ht] at hq2; split at hq2 <;> omega
  simp only [kF]
  rw [nextS_same ha hq1 hqa, nextS_same hb hq1 hqb]
theorem k_ex {f : Bool → Bool → Bool} {a b : List Span} (ha : ok a) (hb : ok b) : ∀ (m : Nat) (p : Int) (o : List Span), (1000000000 - p).toNat ≤ m → 0 ≤ p → p ≤ 1000000000 → Kept (kF f a b) p o → ∃ o', Kept (kF f a b) 1000000000 o'
  | 0, p, o, hm, h0, h1, hk => by
    have : p = 1000000000 := by omega
    subst this; exact ⟨o, hk⟩
  | m + 1, p, o, hm, h0, h1, hk => by
    by_cases hp : p < 1000000000
    · obtain ⟨n1, n2, n3⟩ := k_next (f := f) ha hb hp rfl
      by_cases hf : kF f a b p = true
      · exact k_ex ha hb m _ _ (by omega) (by omega) n2 (kept_put hk h0 n1 n2 (fun q hq1 hq2 => by rw [n3 q hq1 hq2]; exact hf))
      · exact k_ex ha hb m _ _ (by omega) (by omega) n2 (kept_skip hk (by omega) (fun q hq1 hq2 => by rw [n3 q hq1 hq2]; simpa using hf))
    · have : p = 1000000000 := by omega
      subst this; exact ⟨o, hk⟩
open Classical in
noncomputable def keptS (f : Bool → Bool → Bool) (a b : List Span) : List Span := if h : ∃ o, Kept (kF f a b) 1000000000 o then choose h else []
theorem kept_eq {f : Bool → Bool → Bool} {a b o : List Span} (h : Kept (kF f a b) 1000000000 o) : keptS f a b = o := by
  have hex : ∃ o, Kept (kF f a b) 1000000000 o := ⟨o, h⟩
  rw [keptS, dif_pos hex]
  exact kept_one (Classical.choose_spec hex) h
theorem kept_kept {f : Bool → Bool → Bool} {a b : List Span} (ha : ok a) (hb : ok b) : Kept (kF f a b) 1000000000 (keptS f a b) := by
  obtain ⟨o, h⟩ := k_ex (f := f) ha hb 1000000000 0 [] (by omega) (by omega) (by omega) (kept_nil _)
  rw [kept_eq h]; exact h
theorem kept_ok {f : Bool → Bool → Bool} {a b : List Span} (ha : ok a) (hb : ok b) : ok (keptS f a b) := (kept_kept ha hb).1
abbrev orB (x y : Bool) : Bool := x || y
abbrev noB (x _ : Bool) : Bool := !x
noncomputable abbrev unionS (a b : List Span) : List Span := keptS orB a b
noncomputable abbrev notS (a : List Span) : List Span := keptS noB a []
theorem or_spec (x y : Bool) (H : List AObj) : ASpec Tryd.prog 111 [.bool x, .bool y] H (fun r H' => r = .bool (orB x y) ∧ H' = H) :=
  ASpec.pureH (r0 := .bool (x || y)) H (s111 x y _ (condB (fun h => by rw [h]; exact ⟨rfl, rfl⟩) fun h => by rw [h]; exact ⟨rfl, rfl⟩)) _ _ rfl rfl
theorem no_spec (x y : Bool) (H : List AObj) : ASpec Tryd.prog 109 [.bool x, .bool y] H (fun r H' => r = .bool (noB x y) ∧ H' = H) :=
  ASpec.pureH (r0 := .bool (!x)) H (s109 x y _ ⟨rfl, rfl⟩) _ _ rfl rfl

section
variable {a b : List Span} (ha : ok a) (hb : ok b)
include ha hb
theorem kept3mU : ∀ (m : Nat) (p : Int) (o : List Span), (1000000000 - p).toNat ≤ m → 0 ≤ p → p ≤ 1000000000 → Kept (kF orB a b) p o →
    AWP Tryd.prog 34 0 c108_3 [(0, slS a), (1, slS b), (2, .fn 111 []), (7, .msl 2 0 0 o.length), (8, .int .i64 p)] [arS o] (q108_2 0 (PA (slS (keptS orB a b)))) := by
  have done : ∀ (p : Int) (o : List Span), ¬ p < 1000000000 → p ≤ 1000000000 → Kept (kF orB a b) p o → AWP Tryd.prog 34 0 c108_8 [(7, .msl 2 0 0 o.length)] [arS o] (q108_0 0 (PA (slS (keptS orB a b)))) := by
    intro p o h1 h2 hk
    have : p = 1000000000 := by omega
    subst this
    refine AWP.re (freezeS (by omega)) (AWP.shape [] [(7, slS o)] [] Sel.none ⟨rfl, Le.refl _, trivial⟩ (v108_8s _ _ _ (pa ?_)))
    rw [kept_eq hk]; exact Le.refl _
  intro m
  induction m with
  | zero =>
    intro p o hm h0 h1 hk
    exact v108_3mu _ _ _ _ _ _ _ (condD (fun h => by omega) fun h => done p o h h1 hk)
  | succ m ih =>
    intro p o hm h0 h1 hk
    have hol := ok_len hk.1
    refine v108_3mu _ _ _ _ _ _ _ (condD (fun hp => ?_) fun h => done p o h h1 hk)
    obtain ⟨n1, n2, n3⟩ := k_next (f := orB) ha hb hp rfl
    refine ASpec.call (next_spec a p ha _) (Les.refl _) ⟨_, rfl, rfl, ?_⟩
    refine ASpec.call (next_spec b p hb _) (Les.refl _) ⟨_, rfl, rfl, ?_⟩
    refine ASpec.call (has_spec a p ha _) (Les.refl _) ⟨_, rfl, rfl, ?_⟩
    refine ASpec.call (has_spec b p hb _) (Les.refl _) ⟨_, rfl, rfl, ?_⟩
    refine ASpec.call (or_spec _ _ _) (Les.refl _) ⟨_, rfl, rfl, ?_⟩
    generalize (if nextS b p < nextS a p then nextS b p else nextS a p) = to at n1 n2 n3 ⊢
    refine condB (fun hf => ?_) fun hf => ?_
    · have hk' := kept_put hk h0 n1 n2 (fun q hq1 hq2 => by rw [n3 q hq1 hq2]; exact hf)
      have nxt := ih to (addS o (p, to)) (by omega) (by omega) n2 hk'
      refine (add_mem o (p, to) (by omega)).mono fun r H' hh => .inr ?_
      rcases hh with ⟨e1, e2, e3⟩ | ⟨e1, e2⟩
      · subst e1 e2
        refine .inl ⟨addS o (p, to), by rw [e3], rfl, ?_⟩
        rw [e3] at nxt; exact nxt
      · subst e1 e2
        refine .inr ⟨addS o (p, to), rfl, rfl, ?_⟩
        exact AWP.shape [1] [(0, slS a), (1, slS b), (2, .fn 111 []), (7, .msl 2 0 0 (addS o (p, to)).length), (8, .int .i64 to)] [arS (addS o (p, to))] (Sel.one 1 rfl rfl)
          ⟨rfl, Le.refl _, rfl, Le.refl _, rfl, Le.refl _, rfl, Le.refl _, rfl, Le.refl _, trivial⟩ nxt
    · exact ih to o (by omega) (by omega) n2 (kept_skip hk (by omega) (fun q hq1 hq2 => by rw [n3 q hq1 hq2]; exact hf))

theorem kept3nU : ∀ (m : Nat) (p : Int), (1000000000 - p).toNat ≤ m → 0 ≤ p → p ≤ 1000000000 → Kept (kF orB a b) p [] →
    AWP Tryd.prog 34 0 c108_3 [(0, slS a), (1, slS b), (2, .fn 111 []), (7, .sl 0 (.raw []) .nil), (8, .int .i64 p)] [] (q108_2 0 (PA (slS (keptS orB a b)))) := by
  have done : ∀ (p : Int), ¬ p < 1000000000 → p ≤ 1000000000 → Kept (kF orB a b) p [] → AWP Tryd.prog 34 0 c108_8 [(7, .sl 0 (.raw []) .nil)] [] (q108_0 0 (PA (slS (keptS orB a b)))) := by
    intro p h1 h2 hk
    have : p = 1000000000 := by omega
    subst this
    refine v108_8n _ _ (pa ?_)
    rw [kept_eq hk]; exact leS0
  intro m
  induction m with
  | zero =>
    intro p hm h0 h1 hk
    exact v108_3nu _ _ _ _ _ (condD (fun h => by omega) fun h => done p h h1 hk)
  | succ m ih =>
    intro p hm h0 h1 hk
    refine v108_3nu _ _ _ _ _ (condD (fun hp => ?_) fun h => done p h h1 hk)
    obtain ⟨n1, n2, n3⟩ := k_next (f := orB) ha hb hp rfl
    refine ASpec.call (next_spec a p ha _) (Les.refl _) ⟨_, rfl, rfl, ?_⟩
    refine ASpec.call (next_spec b p hb _) (Les.refl _) ⟨_, rfl, rfl, ?_⟩
    refine ASpec.call (has_spec a p ha _) (Les.refl _) ⟨_, rfl, rfl, ?_⟩
    refine ASpec.call (has_spec b p hb _) (Les.refl _) ⟨_, rfl, rfl, ?_⟩
    refine ASpec.call (or_spec _ _ _) (Les.refl _) ⟨_, rfl, rfl, ?_⟩
    generalize (if nextS b p < nextS a p then nextS b p else nextS a p) = to at n1 n2 n3 ⊢
    refine condB (fun hf => ?_) fun hf => ?_
    · have hk' := kept_put hk h0 n1 n2 (fun q hq1 hq2 => by rw [n3 q hq1 hq2]; exact hf)
      have nxt := kept3mU ha hb m to (addS [] (p, to)) (by omega) (by omega) n2 hk'
      exact ASpec.call (add_nil (p, to) []) (Les.refl _) (.inl ⟨(p, to), rfl, rfl, nxt⟩)
    · exact ih to (by omega) (by omega) n2 (kept_skip hk (by omega) (fun q hq1 hq2 => by rw [n3 q hq1 hq2]; exact hf))

theorem kept3mN : ∀ (m : Nat) (p : Int) (o : List Span), (1000000000 - p).toNat ≤ m → 0 ≤ p → p ≤ 1000000000 → Kept (kF noB a b) p o →
    AWP Tryd.prog 34 0 c108_3 [(0, slS a), (1, slS b), (2, .fn 109 []), (7, .msl 2 0 0 o.length), (8, .int .i64 p)] [arS o] (q108_2 0 (PA (slS (keptS noB a b)))) := by
  have done : ∀ (p : Int) (o : List Span), ¬ p < 1000000000 → p ≤ 1000000000 → Kept (kF noB a b) p o → AWP Tryd.prog 34 0 c108_8 [(7, .msl 2 0 0 o.length)] [arS o] (q108_0 0 (PA (slS (keptS noB a b)))) := by
    intro p o h1 h2 hk
    have : p = 1000000000 := by omega
    subst this
    refine AWP.re (freezeS (by omega)) (AWP.shape [] [(7, slS o)] [] Sel.none ⟨rfl, Le.refl _, trivial⟩ (v108_8s _ _ _ (pa ?_)))
    rw [kept_eq hk]; exact Le.refl _
  intro m
  induction m with
  | zero =>
    intro p o hm h0 h1 hk
    exact v108_3mo _ _ _ _ _ _ _ (condD (fun h => by omega) fun h => done p o h h1 hk)
  | succ m ih =>
    intro p o hm h0 h1 hk
    have hol := ok_len hk.1
    refine v108_3mo _ _ _ _ _ _ _ (condD (fun hp => ?_) fun h => done p o h h1 hk)
    obtain ⟨n1, n2, n3⟩ := k_next (f := noB) ha hb hp rfl
    refine ASpec.call (next_spec a p ha _) (Les.refl _) ⟨_, rfl, rfl, ?_⟩
    refine ASpec.call (next_spec b p hb _) (Les.refl _) ⟨_, rfl, rfl, ?_⟩
    refine ASpec.call (has_spec a p ha _) (Les.refl _) ⟨_, rfl, rfl, ?_⟩
    refine ASpec.call (has_spec b p hb _) (Les.refl _) ⟨_, rfl, rfl, ?_⟩
    refine ASpec.call (no_spec _ _ _) (Les.refl _) ⟨_, rfl, rfl, ?_⟩
    generalize (if nextS b p < nextS a p then nextS b p else nextS a p) = to at n1 n2 n3 ⊢
    refine condB (fun hf => ?_) fun hf => ?_
    · have hk' := kept_put hk h0 n1 n2 (fun q hq1 hq2 => by rw [n3 q hq1 hq2]; exact hf)
      have nxt := ih to (addS o (p, to)) (by omega) (by omega) n2 hk'
      refine (add_mem o (p, to) (by omega)).mono fun r H' hh => .inr ?_
      rcases hh with ⟨e1, e2, e3⟩ | ⟨e1, e2⟩
      · subst e1 e2
        refine .inl ⟨addS o (p, to), by rw [e3], rfl, ?_⟩
        rw [e3] at nxt; exact nxt
      · subst e1 e2
        refine .inr ⟨addS o (p, to), rfl, rfl, ?_⟩
        exact AWP.shape [1] [(0, slS a), (1, slS b), (2, .fn 109 []), (7, .msl 2 0 0 (addS o (p, to)).length), (8, .int .i64 to)] [arS (addS o (p, to))] (Sel.one 1 rfl rfl)
          ⟨rfl, Le.refl _, rfl, Le.refl _, rfl, Le.refl _, rfl, Le.refl _, rfl, Le.refl _, trivial⟩ nxt
    · exact ih to o (by omega) (by omega) n2 (kept_skip hk (by omega) (fun q hq1 hq2 => by rw [n3 q hq1 hq2]; exact hf))

theorem kept3nN : ∀ (m : Nat) (p : Int), (1000000000 - p).toNat ≤ m → 0 ≤ p → p ≤ 1000000000 → Kept (kF noB a b) p [] →
    AWP Tryd.prog 34 0 c108_3 [(0, slS a), (1, slS b), (2, .fn 109 []), (7, .sl 0 (.raw []) .nil), (8, .int .i64 p)] [] (q108_2 0 (PA (slS (keptS noB a b)))) := by
  have done : ∀ (p : Int), ¬ p < 1000000000 → p ≤ 1000000000 → Kept (kF noB a b) p [] → AWP Tryd.prog 34 0 c108_8 [(7, .sl 0 (.raw []) .nil)] [] (q108_0 0 (PA (slS (keptS noB a b)))) := by
    intro p h1 h2 hk
    have : p = 1000000000 := by omega
    subst this
    refine v108_8n _ _ (pa ?_)
    rw [kept_eq hk]; exact leS0
  intro m
  induction m with
  | zero =>
    intro p hm h0 h1 hk
    exact v108_3no _ _ _ _ _ (condD (fun h => by omega) fun h => done p h h1 hk)
  | succ m ih =>
    intro p hm h0 h1 hk
    refine v108_3no _ _ _ _ _ (condD (fun hp => ?_) fun h => done p h h1 hk)
    obtain ⟨n1, n2, n3⟩ := k_next (f := noB) ha hb hp rfl
    refine ASpec.call (next_spec a p ha _) (Les.refl _) ⟨_, rfl, rfl, ?_⟩
    refine ASpec.call (next_spec b p hb _) (Les.refl _) ⟨_, rfl, rfl, ?_⟩
    refine ASpec.call (has_spec a p ha _) (Les.refl _) ⟨_, rfl, rfl, ?_⟩
    refine ASpec.call (has_spec b p hb _) (Les.refl _) ⟨_, rfl, rfl, ?_⟩
    refine ASpec.call (no_spec _ _ _) (Les.refl _) ⟨_, rfl, rfl, ?_⟩
    generalize (if nextS b p < nextS a p then nextS b p else nextS a p) = to at n1 n2 n3 ⊢
    refine condB (fun hf => ?_) fun hf => ?_
    · have hk' := kept_put hk h0 n1 n2 (fun q hq1 hq2 => by rw [n3 q hq1 hq2]; exact hf)
      have nxt := kept3mN ha hb m to (addS [] (p, to)) (by omega) (by omega) n2 hk'
      exact ASpec.call (add_nil (p, to) []) (Les.refl _) (.inl ⟨(p, to), rfl, rfl, nxt⟩)
    · exact ih to (by omega) (by omega) n2 (kept_skip hk (by omega) (fun q hq1 hq2 => by rw [n3 q hq1 hq2]; exact hf))

theorem union_spec (H : List AObj) : ASpec Tryd.prog 56 [slS a, slS b] H (fun r H' => r = slS (unionS a b) ∧ H' = H) := by
  have k : ASpec Tryd.prog 56 [slS a, slS b] [] (fun r H' => r = slS (unionS a b) ∧ H' = []) := by
    have k2 : ASpec Tryd.prog 108 [slS a, slS b, .fn 111 []] [] (fun r H' => r = slS (unionS a b) ∧ H' = []) :=
      ASpec.sel (s108u _ _ _ (kept3nU ha hb 1000000000 0 (by omega) (by omega) (by omega) (kept_nil _)))
    exact s56 _ _ _ (ASpec.call k2 (Les.refl _) ⟨_, rfl, rfl, rfl, rfl⟩)
  exact ASpec.pureH H k _ _ rfl rfl
end
theorem okNil : ok [] := rfl
theorem leNilS : Le (.sl 0 (.raw []) .nil) (slS []) := Le.sl rfl (.inr ⟨rfl, fun _ h => by cases h⟩) (.inr rfl)
theorem not_spec {a : List Span} (ha : ok a) (H : List AObj) : ASpec Tryd.prog 52 [slS a] H (fun r H' => r = slS (notS a) ∧ H' = H) := by
  have k : ASpec Tryd.prog 52 [slS a] [] (fun r H' => r = slS (notS a) ∧ H' = []) := by
    have k2 : ASpec Tryd.prog 108 [slS a, slS [], .fn 109 []] [] (fun r H' => r = slS (notS a) ∧ H' = []) :=
      ASpec.sel (s108o _ _ _ (kept3nN ha okNil 1000000000 0 (by omega) (by omega) (by omega) (kept_nil _)))
    exact s52 _ _ (ASpec.call k2 ⟨Le.refl _, leNilS, Le.refl _, trivial⟩ ⟨_, rfl, rfl, rfl, rfl⟩)
  exact ASpec.pureH H k _ _ rfl rfl
theorem not_has {a : List Span} (ha : ok a) (p : Int) : hasS (notS a) p = (decide (0 ≤ p ∧ p < 1000000000) && !hasS a p) := by
  rw [(kept_kept ha okNil).2.2]
end Tp
end

section
/- Terms: Not, Join, Meet, Full, Same, by the program and by the document. -/

set_option linter.unusedVariables false
set_option linter.unusedSimpArgs false
set_option linter.unusedSectionVars false
set_option maxRecDepth 100000
open Go Go.Ab Go.Proofs V S T C
open W (slS leNone cons_dec renS)
open Sp
namespace Tp
open Sg (ok ok_len meetS meet_spec meet_ok meet_has has_spec leS0 pa PA opF rdo_spec rmeet_spec same_spec subS subS_iff suc64 rhas_spec)
open Tm (okT agT meetT emptyT withinT hasT nameEq chkT)
open Tq

noncomputable def notT (t : Term) : Term := (t.1, notS t.2.1, !t.2.2)
noncomputable def joinT (a b : Term) : Term := if a.1 = b.1 then (a.1, unionS a.2.1 b.2.1, a.2.2 || b.2.2) else noT
def fullB (t : Term) : Bool := t.2.2 && decide (t.2.1 = [(0, 1000000000)])
theorem ok_not {t : Term} (h : okT t) : okT (notT t) := kept_ok h okNil
theorem ok_join {a b : Term} (ha : okT a) (hb : okT b) : okT (joinT a b) := by
  unfold joinT
  split
  · exact kept_ok ha hb
  · exact Tm.ok_noT

/-! ### how many -/
def countS : List Span → Int
  | [] => 0
  | x :: r => (x.2 - x.1) + countS r
theorem count_pos : ∀ (l : List Span), (∀ s ∈ l, s.1 ≤ s.2) → 0 ≤ countS l
  | [], _ => by simp [countS]
  | x :: r, h => by
    have h1 := h x (by simp)
    have h2 := count_pos r fun s hs => h s (by simp [hs])
    simp only [countS]; omega
theorem count_le : ∀ {l : List Span} {e : Int}, chkS e l = true → e ≤ 1000000000 → countS l ≤ 1000000000 - e ∧ (l ≠ [] → countS l ≤ 1000000000 - e - 1)
  | [], e, _, he => ⟨by simp [countS]; omega, fun h => (h rfl).elim⟩
  | x :: r, e, h, he => by
    obtain ⟨h1, h2, h3, h4⟩ := chkS_cons h
    have := (count_le h4 h3).1
    simp only [countS]
    exact ⟨by omega, fun _ => by omega⟩
theorem count_full {l : List Span} (h : ok l) : (countS l == 1000000000) = decide (l = [(0, 1000000000)]) := by
  rw [Bool.eq_iff_iff, beq_iff_eq, decide_eq_true_eq]
  constructor
  · intro hc
    cases l with
    | nil => simp [countS] at hc
    | cons x r =>
      obtain ⟨h1, h2, h3, h4⟩ := chkS_cons h
      have h5 := count_le h4 h3
      simp only [countS] at hc
      have hr : r = [] := by
        by_cases hr : r = []
        · exact hr
        · have := h5.2 hr; omega
      subst hr
      simp only [countS] at hc
      obtain ⟨a, b⟩ := x
      simp only at h1 h2 h3 hc
      rw [show a = 0 by omega, show b = 1000000000 by omega]
  · rintro rfl; rfl
theorem count3 {l : List Span} (h : ok l) : ∀ (m i : Nat) (c : Int), m + i = l.length → 0 ≤ c → c + countS (l.drop i) = countS l →
    AWP Tryd.prog 21 0 c55_3 [(3, .int .i64 c), (6, slS l), (7, .int .i64 l.length), (8, .int .i64 i)] [] (q55_2 0 (PA (.int .i64 (countS l)))) := by
  have hL := ok_len h
  have hT := (count_le h (by omega)).1
  intro m
  induction m with
  | zero =>
    intro i c hm h0 hc
    refine v55_3 _ _ _ _ _ _ (condD (fun hc => by omega) fun _ => pa ?_)
    rw [List.drop_eq_nil_of_le (by omega)] at hc
    simp only [countS] at hc
    rw [show c = countS l by omega]; exact Le.refl _
  | succ m ih =>
    intro i c hm h0 hc
    refine v55_3 _ _ _ _ _ _ (condD (fun _ => needJ ⟨by omega, by omega⟩ ?_) fun hc => by omega)
    obtain ⟨r1, r2, r3, _⟩ := chkS_rise h i (by omega)
    rw [dropD l (0, 0) i (by omega)] at hc
    rw [Int.toNat_natCast, suc64 (by omega)]
    generalize l.getD i (0, 0) = x at hc r1 r2 r3 ⊢
    simp only [countS] at hc
    have hp : 0 ≤ countS (l.drop (i + 1)) := count_pos _ fun s hs => by
      obtain ⟨j, hj, e⟩ := List.getElem_of_mem (List.mem_of_mem_drop hs)
      have := (chkS_rise h j hj).2.1
      rw [List.getD_eq_getElem?_getD, List.getElem?_eq_getElem hj, Option.getD_some, e] at this
      omega
    have e : IntKind.wrap .i64 (c + IntKind.wrap .i64 (x.2 - x.1)) = c + (x.2 - x.1) := by
      rw [wrap64 (x := x.2 - x.1) (by omega) (by omega), wrap64 (by omega) (by omega)]
    rw [e]
    exact AWP.shape [] [(3, .int .i64 (c + (x.2 - x.1))), (6, slS l), (7, .int .i64 l.length), (8, .int .i64 (i + 1 : Nat))] [] Sel.none ⟨rfl, Le.refl _, rfl, leNone renS, rfl, Le.refl _, rfl, Le.refl _, trivial⟩ (ih (i + 1) _ (by omega) (by omega) (by omega))
theorem count_spec {l : List Span} (h : ok l) (H : List AObj) : ASpec Tryd.prog 55 [slS l] H (fun r H' => r = .int .i64 (countS l) ∧ H' = H) := by
  have k : ASpec Tryd.prog 55 [slS l] [] (fun r H' => r = .int .i64 (countS l) ∧ H' = []) :=
    ASpec.sel (s55 _ _ (count3 h l.length 0 0 (by omega) (by omega) (by simp)))
  exact ASpec.pureH H k _ _ rfl rfl

/-! ### alike -/
theorem eqS4 {a b : List Span} {c : Bool} (hl : a.length ≤ 2000000000) (he : a.length = b.length) : ∀ (m i : Nat), m + i = a.length → decide (a.drop i = b.drop i) = c →
    AWP Tryd.prog 26 0 c112_4 [(0, slS a), (1, slS b), (12, .int .i64 a.length), (13, .int .i64 i)] [] (q112_2 0 (PA (.bool c))) := by
  intro m
  induction m with
  | zero =>
    intro i hm h
    refine v112_4 _ _ _ _ _ _ (condD (fun hc => by omega) fun _ => pa ?_)
    rw [List.drop_eq_nil_of_le (by omega), List.drop_eq_nil_of_le (by omega)] at h
    rw [← h]; simp; exact Le.refl _
  | succ m ih =>
    intro i hm h
    rw [dropD a (0, 0) i (by omega), dropD b (0, 0) i (by omega), cons_dec] at h
    refine v112_4 _ _ _ _ _ _ (condD (fun hc => needJ ⟨by omega, by omega⟩ (needJ ⟨by omega, by omega⟩ ?_)) fun hc => by omega)
    rw [Int.toNat_natCast]
    generalize a.getD i (0, 0) = x at h ⊢
    generalize b.getD i (0, 0) = y at h ⊢
    have e : (x.1 == y.1 && (x.2 == y.2 && true)) = decide (x = y) := by
      obtain ⟨x1, x2⟩ := x
      obtain ⟨y1, y2⟩ := y
      rw [Bool.eq_iff_iff]; simp
    rw [e]
    refine condBn (fun h1 => pa ?_) fun h1 => ?_
    · rw [h1, Bool.false_and] at h; rw [← h]; exact Le.refl _
    · rw [h1, Bool.true_and] at h
      rw [suc64 (by omega)]
      exact ih (i + 1) (by omega) h
theorem eqS_spec (a b : List Span) (hl : a.length ≤ 2000000000) (H : List AObj) : ASpec Tryd.prog 112 [slS a, slS b] H (fun r H' => r = .bool (decide (a = b)) ∧ H' = H) := by
  have k : ASpec Tryd.prog 112 [slS a, slS b] [] (fun r H' => r = .bool (decide (a = b)) ∧ H' = []) := by
    refine ASpec.sel (s112 _ _ _ (condNe (fun h => pa ?_) fun h => eqS4 hl (by omega) a.length 0 (by omega) rfl))
    rw [decide_eq_false (by rintro rfl; exact h rfl)]; exact Le.refl _
  exact ASpec.pureH H k _ _ rfl rfl
theorem sameS_spec (a b : List Span) (hl : a.length ≤ 2000000000) (H : List AObj) : ASpec Tryd.prog 57 [slS a, slS b] H (fun r H' => r = .bool (decide (a = b)) ∧ H' = H) := by
  have k : ASpec Tryd.prog 57 [slS a, slS b] [] (fun r H' => r = .bool (decide (a = b)) ∧ H' = []) :=
    s57 _ _ _ (ASpec.call (eqS_spec a b hl _) (Les.refl _) ⟨_, rfl, rfl, rfl, rfl⟩)
  exact ASpec.pureH H k _ _ rfl rfl
theorem sameT_spec (a b : Term) (ha : a.2.1.length ≤ 2000000000) (H : List AObj) : ASpec Tryd.prog 16 [agT a, agT b] H (fun r H' => r = .bool (decide (a = b)) ∧ H' = H) := by
  have k : ASpec Tryd.prog 16 [agT a, agT b] [] (fun r H' => r = .bool (decide (a = b)) ∧ H' = []) := by
    refine ASpec.sel (s16 _ _ _ (condB (fun h => Sg.condQ (fun h1 => ?_) fun h1 => pa ?_) fun h => pa ?_))
    · rw [nameEq] at h
      refine ASpec.call (sameS_spec _ _ ha _) (Les.refl _) ⟨_, rfl, rfl, pa ?_⟩
      have e : decide (a.2.1 = b.2.1) = decide (a = b) := by
        obtain ⟨a1, a2, a3⟩ := a
        obtain ⟨b1, b2, b3⟩ := b
        have h := of_decide_eq_true h
        simp only at h h1 ⊢
        subst h h1
        rw [decide_eq_decide]; simp
      rw [e]; exact Le.refl _
    · rw [decide_eq_false (by rintro rfl; exact h1 rfl)]; exact Le.refl _
    · rw [nameEq] at h
      rw [decide_eq_false (by rintro rfl; exact (of_decide_eq_false h) rfl)]; exact Le.refl _
  exact ASpec.pureH H k _ _ rfl rfl

/-! ### what terms come to, the program's -/
theorem notT_spec {a : Term} (ha : okT a) (H : List AObj) : ASpec Tryd.prog 11 [agT a] H (fun r H' => r = agT (notT a) ∧ H' = H) := by
  have k : ASpec Tryd.prog 11 [agT a] [] (fun r H' => r = agT (notT a) ∧ H' = []) := by
    refine ASpec.sel (s11 _ _ (ASpec.call (not_spec ha _) (Les.refl _) ⟨_, rfl, rfl, ?_⟩))
    repeat refine ⟨⟨rfl, rfl⟩, ?_⟩
    exact pa (Le.refl _)
  exact ASpec.pureH H k _ _ rfl rfl
theorem bothM_spec (a b : Term) (c : Bool) (ha : okT a) (hb : okT b) (H : List AObj) :
    ASpec Tryd.prog 53 [agT a, agT b, .fn (54 : FuncId) [], .bool c] H (fun r H' => r = agT (if a.1 = b.1 then (a.1, meetS a.2.1 b.2.1, c) else noT) ∧ H' = H) := by
  have k : ASpec Tryd.prog 53 [agT a, agT b, .fn (54 : FuncId) [], .bool c] [] (fun r H' => r = agT (if a.1 = b.1 then (a.1, meetS a.2.1 b.2.1, c) else noT) ∧ H' = []) := by
    refine ASpec.sel (s53m _ _ _ _ (condBn (fun h => ?_) fun h => ?_))
    · rw [nameEq] at h
      rw [if_neg (of_decide_eq_false h)]
      exact pa (Le.agg ⟨Le.refl _, leS0, Le.refl _, trivial⟩)
    · rw [nameEq] at h
      rw [if_pos (of_decide_eq_true h)]
      refine ASpec.call (meet_spec ha hb _) (Les.refl _) ⟨_, rfl, rfl, ?_⟩
      repeat refine ⟨⟨rfl, rfl⟩, ?_⟩
      exact pa (Le.refl _)
  exact ASpec.pureH H k _ _ rfl rfl
theorem bothJ_spec (a b : Term) (c : Bool) (ha : okT a) (hb : okT b) (H : List AObj) :
    ASpec Tryd.prog 53 [agT a, agT b, .fn (56 : FuncId) [], .bool c] H (fun r H' => r = agT (if a.1 = b.1 then (a.1, unionS a.2.1 b.2.1, c) else noT) ∧ H' = H) := by
  have k : ASpec Tryd.prog 53 [agT a, agT b, .fn (56 : FuncId) [], .bool c] [] (fun r H' => r = agT (if a.1 = b.1 then (a.1, unionS a.2.1 b.2.1, c) else noT) ∧ H' = []) := by
    refine ASpec.sel (s53j _ _ _ _ (condBn (fun h => ?_) fun h => ?_))
    · rw [nameEq] at h
      rw [if_neg (of_decide_eq_false h)]
      exact pa (Le.agg ⟨Le.refl _, leS0, Le.refl _, trivial⟩)
    · rw [nameEq] at h
      rw [if_pos (of_decide_eq_true h)]
      refine ASpec.call (union_spec ha hb _) (Les.refl _) ⟨_, rfl, rfl, ?_⟩
      repeat refine ⟨⟨rfl, rfl⟩, ?_⟩
      exact pa (Le.refl _)
  exact ASpec.pureH H k _ _ rfl rfl
theorem meetT_spec (a b : Term) (ha : okT a) (hb : okT b) (H : List AObj) : ASpec Tryd.prog 13 [agT a, agT b] H (fun r H' => r = agT (meetT a b) ∧ H' = H) := by
  have k : ASpec Tryd.prog 13 [agT a, agT b] [] (fun r H' => r = agT (meetT a b) ∧ H' = []) := by
    refine ASpec.sel (s13 _ _ _ (condB (fun h => ?_) fun h => ?_))
    · refine ASpec.call (bothM_spec a b b.2.2 ha hb _) (Les.refl _) ⟨_, rfl, rfl, pa ?_⟩
      rw [meetT, h, Bool.true_and]; exact Le.refl _
    · refine ASpec.call (bothM_spec a b false ha hb _) (Les.refl _) ⟨_, rfl, rfl, pa ?_⟩
      rw [meetT, h, Bool.false_and]; exact Le.refl _
  exact ASpec.pureH H k _ _ rfl rfl
theorem joinT_spec (a b : Term) (ha : okT a) (hb : okT b) (H : List AObj) : ASpec Tryd.prog 15 [agT a, agT b] H (fun r H' => r = agT (joinT a b) ∧ H' = H) := by
  have k : ASpec Tryd.prog 15 [agT a, agT b] [] (fun r H' => r = agT (joinT a b) ∧ H' = []) := by
    refine ASpec.sel (s15 _ _ _ (condB (fun h => ?_) fun h => ?_))
    · refine ASpec.call (bothJ_spec a b true ha hb _) (Les.refl _) ⟨_, rfl, rfl, pa ?_⟩
      rw [joinT, h, Bool.true_or]; exact Le.refl _
    · refine ASpec.call (bothJ_spec a b b.2.2 ha hb _) (Les.refl _) ⟨_, rfl, rfl, pa ?_⟩
      rw [joinT, h, Bool.false_or]; exact Le.refl _
  exact ASpec.pureH H k _ _ rfl rfl
theorem fullT_spec {a : Term} (ha : okT a) (H : List AObj) : ASpec Tryd.prog 14 [agT a] H (fun r H' => r = .bool (fullB a) ∧ H' = H) := by
  have k : ASpec Tryd.prog 14 [agT a] [] (fun r H' => r = .bool (fullB a) ∧ H' = []) := by
    refine ASpec.sel (s14 _ _ (condB (fun h => ?_) fun h => pa ?_))
    · refine ASpec.call (count_spec ha _) (Les.refl _) ⟨_, rfl, rfl, pa ?_⟩
      rw [fullB, h, Bool.true_and, count_full ha]; exact Le.refl _
    · rw [fullB, h, Bool.false_and]; exact Le.refl _
  exact ASpec.pureH H k _ _ rfl rfl

/-! ### the document's -/
theorem rall_spec (H : List AObj) : ASpec Tryd.prog 64 [] H (fun r H' => r = slS [(0, 1000000000)] ∧ H' = H) := by
  have k : ASpec Tryd.prog 64 [] [] (fun r H' => r = slS [(0, 1000000000)] ∧ H' = []) :=
    ASpec.sel (s64 _ (pa (Le.sl rfl (.inl rfl) (.inr rfl))))
  exact ASpec.pureH H k _ _ rfl rfl
theorem rfullT_spec (a : Term) (ha : a.2.1.length ≤ 2000000000) (H : List AObj) : ASpec Tryd.prog 22 [agT a] H (fun r H' => r = .bool (fullB a) ∧ H' = H) := by
  have k : ASpec Tryd.prog 22 [agT a] [] (fun r H' => r = .bool (fullB a) ∧ H' = []) := by
    refine ASpec.sel (s22 _ _ (condB (fun h => ?_) fun h => ⟨rfl, pa ?_⟩))
    · refine ASpec.call (rall_spec _) (Les.refl _) ⟨_, rfl, rfl, ?_⟩
      repeat refine ⟨⟨rfl, rfl⟩, ?_⟩
      refine ASpec.call (same_spec _ _ ha _) (Les.refl _) ⟨_, rfl, rfl, pa ?_⟩
      rw [fullB, h, Bool.true_and]; exact Le.refl _
    · rw [fullB, h, Bool.false_and]; exact Le.refl _
  exact ASpec.pureH H k _ _ rfl rfl
theorem op0 (a b : List Span) : opF 0 a b = kF orB a b := by funext p; simp [opF]
theorem op2 (a b : List Span) : opF 2 a b = kF noB a b := by funext p; simp [opF]
theorem runion_spec (a b : List Span) (ha : ok a) (hb : ok b) (H : List AObj) : ASpec Tryd.prog 69 [slS a, slS b] H (fun r H' => r = slS (unionS a b) ∧ H' = H) := by
  have k : ASpec Tryd.prog 69 [slS a, slS b] [] (fun r H' => r = slS (unionS a b) ∧ H' = []) :=
    s69 _ _ _ (ASpec.call (rdo_spec (op := 0) a b ha hb (fun o ho => (kept_eq (f := orB) (a := a) (b := b) (op0 a b ▸ ho)).symm) _) (Les.refl _) ⟨_, rfl, rfl, rfl, rfl⟩)
  exact ASpec.pureH H k _ _ rfl rfl
theorem rnot_spec (a : List Span) (ha : ok a) (H : List AObj) : ASpec Tryd.prog 65 [slS a] H (fun r H' => r = slS (notS a) ∧ H' = H) := by
  have k : ASpec Tryd.prog 65 [slS a] [] (fun r H' => r = slS (notS a) ∧ H' = []) :=
    s65 _ _ (ASpec.call (rdo_spec (op := 2) a [] ha okNil (fun o ho => (kept_eq (f := noB) (a := a) (b := []) (op2 a [] ▸ ho)).symm) _) ⟨Le.refl _, Le.refl _, leNilS, trivial⟩ ⟨_, rfl, rfl, rfl, rfl⟩)
  exact ASpec.pureH H k _ _ rfl rfl
theorem rnotT_spec {a : Term} (ha : okT a) (H : List AObj) : ASpec Tryd.prog 24 [agT a] H (fun r H' => r = agT (notT a) ∧ H' = H) := by
  have k : ASpec Tryd.prog 24 [agT a] [] (fun r H' => r = agT (notT a) ∧ H' = []) := by
    refine ASpec.sel (s24 _ _ (ASpec.call (rnot_spec _ ha _) (Les.refl _) ⟨_, rfl, rfl, ?_⟩))
    repeat refine ⟨⟨rfl, rfl⟩, ?_⟩
    exact pa (Le.refl _)
  exact ASpec.pureH H k _ _ rfl rfl
theorem rmeetT_spec (a b : Term) (ha : okT a) (hb : okT b) (H : List AObj) : ASpec Tryd.prog 27 [agT a, agT b] H (fun r H' => r = agT (meetT a b) ∧ H' = H) := by
  have k : ASpec Tryd.prog 27 [agT a, agT b] [] (fun r H' => r = agT (meetT a b) ∧ H' = []) := by
    refine ASpec.sel (s27 _ _ _ (condBn (fun h => ?_) fun h => ?_))
    · rw [nameEq] at h
      rw [meetT, if_neg (of_decide_eq_false h)]
      exact pa (Le.agg ⟨Le.refl _, leS0, Le.refl _, trivial⟩)
    · rw [nameEq] at h
      rw [meetT, if_pos (of_decide_eq_true h)]
      refine ASpec.call (rmeet_spec _ _ ha hb _) (Les.refl _) ⟨_, rfl, rfl, ?_⟩
      repeat refine ⟨⟨rfl, rfl⟩, ?_⟩
      refine condB (fun h2 => pa ?_) fun h2 => pa ?_
      · rw [h2, Bool.true_and]; exact Le.refl _
      · rw [h2, Bool.false_and]; exact Le.refl _
  exact ASpec.pureH H k _ _ rfl rfl
theorem rjoinT_spec (a b : Term) (ha : okT a) (hb : okT b) (H : List AObj) : ASpec Tryd.prog 28 [agT a, agT b] H (fun r H' => r = agT (joinT a b) ∧ H' = H) := by
  have k : ASpec Tryd.prog 28 [agT a, agT b] [] (fun r H' => r = agT (joinT a b) ∧ H' = []) := by
    refine ASpec.sel (s28 _ _ _ (condBn (fun h => ?_) fun h => ?_))
    · rw [nameEq] at h
      rw [joinT, if_neg (of_decide_eq_false h)]
      exact pa (Le.agg ⟨Le.refl _, leS0, Le.refl _, trivial⟩)
    · rw [nameEq] at h
      rw [joinT, if_pos (of_decide_eq_true h)]
      refine ASpec.call (runion_spec _ _ ha hb _) (Les.refl _) ⟨_, rfl, rfl, ?_⟩
      repeat refine ⟨⟨rfl, rfl⟩, ?_⟩
      refine condB (fun h2 => pa ?_) fun h2 => pa ?_
      · rw [h2, Bool.true_or]; exact Le.refl _
      · rw [h2, Bool.false_or]; exact Le.refl _
  exact ASpec.pureH H k _ _ rfl rfl
theorem rhasT_spec (t : Term) (v : Int) (c : Bool) (ht : okT t) (H : List AObj) : ASpec Tryd.prog 26 [agT t, .int .i64 v, .bool c] H (fun r H' => r = .bool (hasT t v c) ∧ H' = H) := by
  have k : ASpec Tryd.prog 26 [agT t, .int .i64 v, .bool c] [] (fun r H' => r = .bool (hasT t v c) ∧ H' = []) := by
    refine ASpec.sel (s26 _ _ _ _ (condB (fun h => ?_) fun h => pa ?_))
    · refine ASpec.call (rhas_spec _ v ht _) (Les.refl _) ⟨_, rfl, rfl, pa ?_⟩
      rw [hasT, if_pos h]; exact Le.refl _
    · rw [hasT, if_neg (by simp [h])]; exact Le.refl _
  exact ASpec.pureH H k _ _ rfl rfl
theorem rchkT_spec (t : Term) (h1 : t.1.length ≤ lim) (h2 : t.2.1.length ≤ lim) (H : List AObj) : ASpec Tryd.prog 18 [agT t] H (fun r H' => r = .bool (chkT t) ∧ H' = H) := by
  have k : ASpec Tryd.prog 18 [agT t] [] (fun r H' => r = .bool (chkT t) ∧ H' = []) := by
    refine ASpec.sel (s18 _ _ (ASpec.call (rfit_spec (l := t.1) (by unfold lim at h1; unfold big; omega) _) (Les.refl _) ⟨_, rfl, rfl, condB (fun h => ?_) fun h => pa ?_⟩))
    · refine ASpec.call (rspanCheck_spec _ h2 _) (Les.refl _) ⟨_, rfl, rfl, pa ?_⟩
      rw [chkT, h, Bool.true_and]; exact Le.refl _
    · rw [chkT, h, Bool.false_and]; exact Le.refl _
  exact ASpec.pureH H k _ _ rfl rfl
end Tp
end

section
/- Steps of a proof as cells. -/

open Go Go.Ab Go.Proofs
namespace T
/-- kind, name, version, the other name, two numbers -/
abbrev St := Int × List UInt8 × Int × List UInt8 × Int × Int
end T
end

section
/- A trail as an object; what is done to it. -/

open Go Go.Ab Go.Proofs V
namespace T
end T
end

section
/- Picks as cells. -/

open Go Go.Ab Go.Proofs
namespace T
/-- a name and a version -/
abbrev Pk := List UInt8 × Int
end T
end

section
/- Answers as cells. -/

open Go Go.Ab Go.Proofs
namespace T
end T
end

section
/- Printed: what the code of functions 40, 41, 42, 43, 44, 45, 87, 85, 88, 89, 134, 38, 39, 6, 82, 83, 46 asks for, by the framework's own reading of it; each line is checked against the code. -/

set_option linter.unusedVariables false
set_option maxRecDepth 100000
set_option maxHeartbeats 4000000
open Go Go.Ab Go.Proofs
namespace An
noncomputable section

noncomputable def retAn : List (Nat × Ret) := [
  (79, ⟨Bool, fun _ _ x => .bool x, fun _ H _ => H⟩),
  (31, ⟨Bool, fun _ _ x => .bool x, fun _ H _ => H⟩),
  (80, ⟨Bool, fun _ _ x => .bool x, fun _ H _ => H⟩),
  (81, ⟨Bool, fun _ _ x => .bool x, fun _ H _ => H⟩),
  (84, ⟨Bool, fun _ _ x => .bool x, fun _ H _ => H⟩),
  (78, ⟨Bool, fun _ _ x => .bool x, fun _ H _ => H⟩),
  (30, ⟨Bool, fun _ _ x => .bool x, fun _ H _ => H⟩),
  (37, ⟨Bool, fun _ _ x => .bool x, fun _ H _ => H⟩),
  (82, ⟨Bool, fun _ _ x => .bool x, fun _ H _ => H⟩),
  (83, ⟨Bool, fun _ _ x => .bool x, fun _ H _ => H⟩),
  (40, ⟨Bool, fun _ _ x => .bool x, fun _ H _ => H⟩),
  (41, ⟨Bool, fun _ _ x => .bool x, fun _ H _ => H⟩),
  (42, ⟨Bool, fun _ _ x => .bool x, fun _ H _ => H⟩),
  (43, ⟨Bool, fun _ _ x => .bool x, fun _ H _ => H⟩),
  (38, ⟨Bool, fun _ _ x => .bool x, fun _ H _ => H⟩),
  (71, ⟨Bool, fun _ _ x => .bool x, fun _ H _ => H⟩),
  (44, ⟨ByteArray, fun _ _ x => .str x, fun _ H _ => H⟩),
  (45, ⟨ByteArray, fun _ _ x => .str x, fun _ H _ => H⟩),
  (85, ⟨ByteArray, fun _ _ x => .str x, fun _ H _ => H⟩),
  (88, ⟨ByteArray, fun _ _ x => .str x, fun _ H _ => H⟩),
  (86, ⟨ByteArray, fun _ _ x => .str x, fun _ H _ => H⟩),
  (89, ⟨ByteArray, fun _ _ x => .str x, fun _ H _ => H⟩),
  (118, ⟨ByteArray, fun _ _ x => .str x, fun _ H _ => H⟩),
  (121, ⟨ByteArray, fun _ _ x => .str x, fun _ H _ => H⟩),
  (134, ⟨ByteArray, fun _ _ x => .str x, fun _ H _ => H⟩),
  (106, ⟨ByteArray, fun _ _ x => .str x, fun _ H _ => H⟩),
  (46, ⟨List UInt8, fun _ _ x => .sl 1 (.map encB 0 x) .none, fun _ H _ => H⟩),
  (90, ⟨List UInt8, fun _ _ x => .sl 1 (.map encB 0 x) .none, fun _ H _ => H⟩),
  (91, ⟨List UInt8, fun _ _ x => .sl 1 (.map encB 0 x) .none, fun _ H _ => H⟩),
  (92, ⟨List UInt8, fun _ _ x => .sl 1 (.map encB 0 x) .none, fun _ H _ => H⟩),
  (87, ⟨Unit, fun _ _ _ => .agg [.str ⟨#[]⟩, .str ⟨#[]⟩, .str ⟨#[]⟩, .str ⟨#[98, 97, 100]⟩, .str ⟨#[100, 101, 97, 100, 108, 105, 110, 101]⟩, .str ⟨#[114, 101, 106, 101, 99, 116, 101, 100]⟩], fun _ H _ => H⟩),
  (39, ⟨Unit, fun _ _ _ => .bool true, fun _ H _ => H⟩)]
noncomputable def rets : FuncId → List Ret := fun f => match lookupR retAn f with
  | [] => lookupR (C.retC ++ V.retL) f
  | l => l

-- 40
noncomputable def l40 : Nat → List Nat
  | _ => []
noncomputable def l89 : Nat → List Nat
  | _ => []
noncomputable def u89 : Nat → Bool
  | _ => false
noncomputable def m89 : Nat → Bool
  | _ => false
noncomputable def g89 : Cfg := { N := 18, live := l89, cut := u89, mu := m89, ret := rets }
theorem s89 : ∀ (n : Int) (Post : AV → List AObj → Prop),
  needP ((10 : Int) ≠ (0 : Int))
      (needP (allBytes (Seq.raw [[AV.int IntKind.u8 (IntKind.wrap IntKind.u8 (IntKind.wrap IntKind.i64 ((48 : Int) + Int.tmod n (10 : Int))))]]))
        (condP (decide (n < (10 : Int))) (Post (AV.str (bytesOf (Seq.raw [[AV.int IntKind.u8 (IntKind.wrap IntKind.u8 (IntKind.wrap IntKind.i64 ((48 : Int) + Int.tmod n (10 : Int))))]]))) [])
         (needP ((10 : Int) ≠ (0 : Int))
         (ASpec Tryd.prog 89 [AV.int IntKind.i64 (IntKind.wrap IntKind.i64 (Int.tdiv n (10 : Int)))] [] fun (r : AV) (H' : List AObj) =>
         ∃ (x : ByteArray),
         r = AV.str x ∧
         H' = [] ∧
         needP
         ((↑(ByteArray.size x + ByteArray.size (bytesOf (Seq.raw [[AV.int IntKind.u8 (IntKind.wrap IntKind.u8 (IntKind.wrap IntKind.i64 ((48 : Int) + Int.tmod n (10 : Int))))]]))) :
         Int) ≤
         (9223372036854775807 : Int))
         (Post (AV.str (x ++ bytesOf (Seq.raw [[AV.int IntKind.u8 (IntKind.wrap IntKind.u8 (IntKind.wrap IntKind.i64 ((48 : Int) + Int.tmod n (10 : Int))))]]))) []))))) →
    ASpec Tryd.prog 89 [AV.int IntKind.i64 n] [] Post := fun n Post h => Go.Ab.ASpec.of_vc g89 Go.Proofs.Tryd.func89 (by kernel_rfl) (by kernel_rfl) (by kernel_rfl) (Go.Ab.kc (by kernel_rfl) h)

-- 134
noncomputable def l134 : Nat → List Nat
  | _ => []
noncomputable def u134 : Nat → Bool
  | _ => false
noncomputable def m134 : Nat → Bool
  | _ => false
noncomputable def g134 : Cfg := { N := 20, live := l134, cut := u134, mu := m134, ret := rets }
theorem s134 : ∀ (n : Int) (Post : AV → List AObj → Prop),
  (ASpec Tryd.prog 71 [AV.int IntKind.i64 n] [] fun (r : AV) (H' : List AObj) =>
      ∃ (x : Bool),
        r = AV.bool x ∧
         H' = [] ∧
         condP (!x) (Post (AV.str { data := #[] }) [])
         (needP ((1000000 : Int) ≠ (0 : Int))
         (ASpec Tryd.prog 89 [AV.int IntKind.i64 (IntKind.wrap IntKind.i64 (Int.tdiv n (1000000 : Int)))] [] fun (r : AV) (H' : List AObj) =>
         ∃ (x : ByteArray),
         r = AV.str x ∧
         H' = [] ∧
         needP ((↑(ByteArray.size x + 1) : Int) ≤ (9223372036854775807 : Int))
         (needP ((1000 : Int) ≠ (0 : Int))
         (needP ((1000 : Int) ≠ (0 : Int))
         (ASpec Tryd.prog 89 [AV.int IntKind.i64 (Int.tmod (IntKind.wrap IntKind.i64 (Int.tdiv n (1000 : Int))) (1000 : Int))] [] fun (r : AV) (H' : List AObj) =>
         ∃ (x_1 : ByteArray),
         r = AV.str x_1 ∧
         H' = [] ∧
         needP ((↑(ByteArray.size (x ++ { data := #[(46 : UInt8)] }) + ByteArray.size x_1) : Int) ≤ (9223372036854775807 : Int))
         (needP ((↑(ByteArray.size (x ++ { data := #[(46 : UInt8)] } ++ x_1) + 1) : Int) ≤ (9223372036854775807 : Int))
         (needP ((1000 : Int) ≠ (0 : Int))
         (ASpec Tryd.prog 89 [AV.int IntKind.i64 (Int.tmod n (1000 : Int))] [] fun (r : AV) (H' : List AObj) =>
         ∃ (x_2 : ByteArray),
         r = AV.str x_2 ∧
         H' = [] ∧
         needP
         ((↑(ByteArray.size (x ++ { data := #[(46 : UInt8)] } ++ x_1 ++ { data := #[(46 : UInt8)] }) + ByteArray.size x_2) : Int) ≤
         (9223372036854775807 : Int))
         (Post (AV.str (x ++ { data := #[(46 : UInt8)] } ++ x_1 ++ { data := #[(46 : UInt8)] } ++ x_2)) [])))))))))) →
    ASpec Tryd.prog 134 [AV.int IntKind.i64 n] [] Post := fun n Post h => Go.Ab.ASpec.of_vc g134 Go.Proofs.Tryd.func134 (by kernel_rfl) (by kernel_rfl) (by kernel_rfl) (Go.Ab.kc (by kernel_rfl) h)

-- 38
end
end An
end

section
/- Printed: what the code of functions 129, 128, 76, 126 asks for, by the framework's own reading of it; each line is checked against the code. -/

set_option linter.unusedVariables false
set_option maxRecDepth 100000
set_option maxHeartbeats 4000000
open Go Go.Ab Go.Proofs
namespace In
noncomputable section

end
end In
end

section
/- Printed: what the code of functions 126, 129, 76 asks for, by the framework's own reading of it; each line is checked against the code. -/

set_option linter.unusedVariables false
set_option maxRecDepth 100000
set_option maxHeartbeats 4000000
open Go Go.Ab Go.Proofs
namespace Inn
noncomputable section

end
end Inn
end

section
/- Printed: what the code of functions 30, 130, 79, 31, 82, 124, 127, 148, 125, 75, 37, 85 asks for, by the framework's own reading of it; each line is checked against the code. -/

set_option linter.unusedVariables false
set_option maxRecDepth 100000
set_option maxHeartbeats 4000000
open Go Go.Ab Go.Proofs
namespace Dk
noncomputable section

end
end Dk
end

section
/- Events as cells. -/

open Go Go.Ab Go.Proofs
namespace T
/-- kind, needs, ticks, ticket, body -/
abbrev Ev := Int × List Need × Int × Int × List UInt8
end T
end

section
/- Printed: what the code of functions 57, 112 asks for, by the framework's own reading of it; each line is checked against the code. -/

set_option linter.unusedVariables false
set_option maxRecDepth 100000
set_option maxHeartbeats 4000000
open Go Go.Ab Go.Proofs
namespace E
noncomputable section

end
end E
end

section
/- Printed: what the code of functions  asks for, by the framework's own reading of it; each line is checked against the code. -/

set_option linter.unusedVariables false
set_option maxRecDepth 100000
set_option maxHeartbeats 4000000
open Go Go.Ab Go.Proofs
namespace EB
noncomputable section

end
end EB
end

section
/- Events: which may be, and which are alike. -/

set_option linter.unusedVariables false
set_option linter.unusedSimpArgs false
set_option maxRecDepth 100000
open Go Go.Ab Go.Proofs V S T C
open W (slS cons_dec)
namespace E

/-! ### alike -/

/-! ### which may be -/

/-- of a kind, the needs' number, the ticks, the ticket, the body's length -/
def evP (k : Int) (A : Nat) (t n : Int) (B : Nat) : Prop := (0 ≤ t ∧ t ≤ 1099511627776) ∧ (k ≠ 1 → A = 0 ∧ t = 0) ∧ ((k = 3 ∨ k = 4) → 1 ≤ n ∧ n ≤ 1099511627776 ∧ B ≤ 9000 ∧ (k = 3 ∨ B = 0)) ∧ (¬ (k = 3 ∨ k = 4) → n = 0 ∧ B = 0 ∧ (k = 1 ∨ k = 2))
instance (k : Int) (A : Nat) (t n : Int) (B : Nat) : Decidable (evP k A t n B) := by unfold evP; infer_instance
section
variable {e : Ev}
end

/-! ### are they large? -/

/-! ### the example -/

end E
end

section
/- What was put of a manifest is read; what is read is put so. -/

set_option linter.unusedVariables false
set_option linter.unusedSimpArgs false
set_option maxRecDepth 100000
open Go Go.Ab Go.Proofs V S T C
namespace W

/-! ### what was put is read -/

/-! ### what is read is put so -/

/-! ### the law -/

section
variable {Post : AV → List AObj → Prop}

end
end W
end

section
/- Events out of bytes: what the code reads. -/

set_option linter.unusedVariables false
set_option linter.unusedSimpArgs false
set_option maxRecDepth 100000
open Go Go.Ab Go.Proofs V S T C
open W (slS cons_dec leNone renS leAppT)
namespace E

/-! ### the model -/

/-! ### needs -/

section
variable {bs : List UInt8} {p : Nat} {e : Int} {Post : AV → List AObj → Prop}

/-! ### one event -/

end
end E
end

section
/- Events as bytes and back: plain laws. -/

set_option linter.unusedVariables false
set_option linter.unusedSimpArgs false
set_option maxRecDepth 100000
open Go Go.Ab Go.Proofs V S T C
open W (text)
namespace E

end E
end

section
/- Events out of bytes: the document's reader. -/

set_option linter.unusedVariables false
set_option linter.unusedSimpArgs false
set_option maxRecDepth 100000
open Go Go.Ab Go.Proofs V S T C
open W (slS leNone)
namespace E

/-! ### the document's model -/

/-! ### the walk -/

section
variable {Post : AV → List AObj → Prop}

end
end E
end

section
/- EventBytes: the bytes of any events, and the events of any bytes, or what is wrong first, are the document's: the law's function returns true. -/

set_option linter.unusedVariables false
set_option linter.unusedSimpArgs false
set_option maxRecDepth 100000
open Go Go.Ab Go.Proofs V S T C
open W (slS text cons_dec leNone)
namespace E

section
variable {Post : AV → List AObj → Prop}

/-! ### what is put -/

/-! ### what is read -/

end
end E
end

section
/- The library of earlier texts: events and manifests out of bytes. -/
end

section
/- A pick put among picks: what the library's Insert computes. -/

set_option linter.unusedVariables false
set_option linter.unusedSimpArgs false
set_option maxRecDepth 100000
open Go Go.Ab Go.Proofs V S T C
open In
namespace Pc

section
variable {s : List Pk} {p : Pk} {i : Nat} (hi : i ≤ s.length) (hl : s.length ≤ 1000000)
include hi hl

end

end Pc
end

section
/- Where a pick stands, or would stand: what the code computes. -/

set_option linter.unusedVariables false
set_option linter.unusedSimpArgs false
set_option maxRecDepth 100000
open Go Go.Ab Go.Proofs V S T C
open In
open Go.Proofs
namespace Pc

end Pc
end

section
/- pick.Put: what the code computes, of some picks. -/

set_option linter.unusedVariables false
set_option linter.unusedSimpArgs false
set_option maxRecDepth 100000
open Go Go.Ab Go.Proofs V S T C
open In
namespace Pc

end Pc
end

section
/- pick.Put: what the code computes, of any picks. -/

set_option linter.unusedVariables false
set_option linter.unusedSimpArgs false
set_option maxRecDepth 100000
open Go Go.Ab Go.Proofs V S T C
namespace Pc

end Pc
end

section
/- The order of names, and looking for one by halves: plain laws. -/

set_option linter.unusedVariables false
set_option linter.unusedSimpArgs false
open Go Go.Ab Go.Proofs V S T C
namespace Dp

/-! ### entries that may be -/

end Dp
end

section
/- Picks that rise: the place of a name, what is put, got, dropped: plain laws. -/

set_option linter.unusedVariables false
set_option linter.unusedSimpArgs false
open Go Go.Ab Go.Proofs V S T C
namespace Pc
end Pc
end

section
/- Picks: what the program's and the document's functions compute. -/

set_option linter.unusedVariables false
set_option linter.unusedSimpArgs false
set_option maxRecDepth 100000
open Go Go.Ab Go.Proofs V S T C
namespace Dk
abbrev Nm := List UInt8
/-! ### Drop -/
/-! ### Put -/
/-! ### are picks alike? -/
/-! ### Large -/
/-! ### Check -/
noncomputable def fitP (p : Pk) : Bool := fitM p.1 && decide (0 ≤ p.2 ∧ p.2 < 1000000000)
noncomputable def chkF : Option Nm → List Pk → Bool
  | _, [] => true
  | o, p :: r => if fitP p = false then false else match o with
    | none => chkF (some p.1) r
    | some q => if (Op.bytesLess p.1 q || p.1 == q) = true then false else chkF (some p.1) r
section
variable {s : List Pk} (hl : s.length ≤ 100000) (hn : ∀ p ∈ s, p.1.length ≤ 10 * big)
include hl hn
end
section
variable {s : List Pk} (hl : s.length ≤ 100000)
include hl
end
/-! ### Same -/
/-! ### Get -/
end Dk
end

section
/- Picks: one is taken out, by the program. -/

set_option linter.unusedVariables false
set_option linter.unusedSimpArgs false
set_option maxRecDepth 100000
open Go Go.Ab Go.Proofs V S T C
namespace Dk
/-! ### where -/
/-! ### what stays -/
end Dk
end

section
/- Printed: what the code of functions 156, 155, 146, 121 asks for, by the framework's own reading of it; each line is checked against the code. -/

set_option linter.unusedVariables false
set_option maxRecDepth 100000
set_option maxHeartbeats 4000000
open Go Go.Ab Go.Proofs
namespace D
noncomputable section

noncomputable def retL : List (Nat × Ret) := [
  (146, ⟨(Int × Int × Int) × Bool, fun _ _ x => .tup [.agg [.int .i64 x.1.1, .int .i64 x.1.2.1, .int .i64 x.1.2.2], .bool x.2], fun _ H _ => H⟩),
  (121, ⟨ByteArray, fun _ _ x => .str x, fun _ H _ => H⟩),
  (156, ⟨Unit, fun _ _ x => .agg [.int .i64 1000000, .int .i64 1000, .int .i64 1], fun _ H _ => H⟩),
  (155, ⟨Bool, fun _ _ x => .bool x, fun _ H _ => H⟩),
  (9070, ⟨Int × Bool, fun _ _ x => .tup [.int .i64 x.1, .bool x.2], fun _ H _ => H⟩),
  (9053, ⟨Int × Bool, fun _ _ x => .tup [.int .i64 x.1, .bool x.2], fun _ H _ => H⟩),
  (86, ⟨ByteArray, fun _ _ x => .str x, fun _ H _ => H⟩)]
noncomputable def rets : FuncId → List Ret := lookupR retL

-- 156
noncomputable def l156 : Nat → List Nat
  | _ => []
noncomputable def u156 : Nat → Bool
  | _ => false
noncomputable def m156 : Nat → Bool
  | _ => false
noncomputable def g156 : Cfg := { N := 2, live := l156, cut := u156, mu := m156, ret := rets }
theorem s156 : ∀ (Post : AV → List AObj → Prop),
  Post (AV.agg [AV.int IntKind.i64 (1000000 : Int), AV.int IntKind.i64 (1000 : Int), AV.int IntKind.i64 (1 : Int)])
      [AObj.cells [AV.int IntKind.i64 (1000000 : Int), AV.int IntKind.i64 (1000 : Int), AV.int IntKind.i64 (1 : Int)]] →
    ASpec Tryd.prog 156 [] [] Post := fun Post h => Go.Ab.ASpec.of_vc g156 Go.Proofs.Tryd.func156 (by kernel_rfl) (by kernel_rfl) (by kernel_rfl) (Go.Ab.kc (by kernel_rfl) h)

-- 155
noncomputable def l155 : Nat → List Nat
  | _ => []
noncomputable def u155 : Nat → Bool
  | _ => false
noncomputable def m155 : Nat → Bool
  | _ => false
noncomputable def g155 : Cfg := { N := 9, live := l155, cut := u155, mu := m155, ret := rets }
theorem s155 : ∀ (p : Int) (Post : AV → List AObj → Prop),
  condP (decide (p ≥ (0 : Int))) (Post (AV.bool (decide (p < (1000000000 : Int)))) []) (Post (AV.bool false) []) → ASpec Tryd.prog 155 [AV.int IntKind.i64 p] [] Post := fun p Post h => Go.Ab.ASpec.of_vc g155 Go.Proofs.Tryd.func155 (by kernel_rfl) (by kernel_rfl) (by kernel_rfl) (Go.Ab.kc (by kernel_rfl) h)

-- 146
noncomputable def l146 : Nat → List Nat
  | 5 => [0, 2, 4, 12, 13]
  | _ => []
noncomputable def u146 : Nat → Bool
  | _ => false
noncomputable def m146 : Nat → Bool
  | _ => false
noncomputable def g146 : Cfg := { N := 25, live := l146, cut := u146, mu := m146, ret := rets }
noncomputable def c146 : Go.Code := Go.Ab.bodyOf Go.Proofs.Tryd.f146
noncomputable def q146_0 : Nat → (AV → List AObj → Prop) → AQ := fun (n : Nat) (Post : AV → List AObj → Prop) => endQ Tryd.prog (resultsOf Tryd.f146) Post
noncomputable def q146_1 : Nat → (AV → List AObj → Prop) → AQ := fun (n : Nat) (Post : AV → List AObj → Prop) => seqQ (fun (s' : Slots) (H' : List AObj) => awp Tryd.prog g146 n (codeSnd (codeSnd (codeSnd (codeSnd c146)))) s' H' (q146_0 n Post)) (q146_0 n Post)
noncomputable def q146_2 : Nat → (AV → List AObj → Prop) → AQ := fun (n : Nat) (Post : AV → List AObj → Prop) => blockQ 0 (q146_1 n Post)
noncomputable def c146_5 : Go.Code := codeFst (codeSnd (codeFst (codeSnd (codeSnd (codeSnd c146)))))
theorem s146 : ∀ (p : Int) (Post : AV → List AObj → Prop),
  (ASpec Tryd.prog 155 [AV.int IntKind.i64 p]
      [AObj.cells [AV.int IntKind.i64 (0 : Int), AV.int IntKind.i64 (0 : Int), AV.int IntKind.i64 (0 : Int)],
        AObj.cells [AV.int IntKind.i64 (0 : Int), AV.int IntKind.i64 (0 : Int), AV.int IntKind.i64 (0 : Int)]]
      fun (r : AV) (H' : List AObj) =>
      ∃ (x : Bool),
        r = AV.bool x ∧
         H' =
         [AObj.cells [AV.int IntKind.i64 (0 : Int), AV.int IntKind.i64 (0 : Int), AV.int IntKind.i64 (0 : Int)],
         AObj.cells [AV.int IntKind.i64 (0 : Int), AV.int IntKind.i64 (0 : Int), AV.int IntKind.i64 (0 : Int)]] ∧
         condP (!x)
         (Post (AV.tup [AV.agg [AV.int IntKind.i64 (0 : Int), AV.int IntKind.i64 (0 : Int), AV.int IntKind.i64 (0 : Int)], AV.bool false])
         [AObj.cells [AV.int IntKind.i64 (0 : Int), AV.int IntKind.i64 (0 : Int), AV.int IntKind.i64 (0 : Int)],
         AObj.cells [AV.int IntKind.i64 (0 : Int), AV.int IntKind.i64 (0 : Int), AV.int IntKind.i64 (0 : Int)]])
         (ASpec Tryd.prog 156 []
         [AObj.cells [AV.int IntKind.i64 (0 : Int), AV.int IntKind.i64 (0 : Int), AV.int IntKind.i64 (0 : Int)],
         AObj.cells [AV.int IntKind.i64 (0 : Int), AV.int IntKind.i64 (0 : Int), AV.int IntKind.i64 (0 : Int)]]
         fun (r : AV) (H' : List AObj) =>
         ∃ (x : Unit),
         r = AV.agg [AV.int IntKind.i64 (1000000 : Int), AV.int IntKind.i64 (1000 : Int), AV.int IntKind.i64 (1 : Int)] ∧
         H' =
         [AObj.cells [AV.int IntKind.i64 (0 : Int), AV.int IntKind.i64 (0 : Int), AV.int IntKind.i64 (0 : Int)],
         AObj.cells [AV.int IntKind.i64 (0 : Int), AV.int IntKind.i64 (0 : Int), AV.int IntKind.i64 (0 : Int)]] ∧
         AWP Tryd.prog 25 0 c146_5
         [(0, AV.int IntKind.i64 p), (2, AV.ptr 0 0), (4, AV.ptr 1 0),
         (12, AV.agg [AV.int IntKind.i64 (1000000 : Int), AV.int IntKind.i64 (1000 : Int), AV.int IntKind.i64 (1 : Int)]), (13, AV.int IntKind.i64 (0 : Int))]
         [AObj.cells [AV.int IntKind.i64 (0 : Int), AV.int IntKind.i64 (0 : Int), AV.int IntKind.i64 (0 : Int)],
         AObj.cells [AV.int IntKind.i64 (0 : Int), AV.int IntKind.i64 (0 : Int), AV.int IntKind.i64 (0 : Int)]]
         (q146_2 0 Post))) →
    ASpec Tryd.prog 146 [AV.int IntKind.i64 p] [] Post := fun p Post h => Go.Ab.ASpec.of_vc g146 Go.Proofs.Tryd.func146 (by kernel_rfl) (by kernel_rfl) (by kernel_rfl) (Go.Ab.kc (by kernel_rfl) h)
theorem v146_5a : ∀ (p x y z : Int) (n : Nat) (Post : AV → List AObj → Prop),
  needP ((0 : Int) ≤ (0 : Int) ∧ (0 : Int) < (3 : Int))
      (needP ((1000000 : Int) ≠ (0 : Int))
        (needP ((1000 : Int) ≠ (0 : Int))
         (needP ((0 : Int) ≤ (0 : Int) ∧ (0 : Int) < (3 : Int))
         (AWP Tryd.prog 25 n c146_5
         [(0, AV.int IntKind.i64 p), (2, AV.ptr 0 0), (4, AV.ptr 1 0),
         (12, AV.agg [AV.int IntKind.i64 (1000000 : Int), AV.int IntKind.i64 (1000 : Int), AV.int IntKind.i64 (1 : Int)]), (13, AV.int IntKind.i64 (1 : Int))]
         [AObj.cells [AV.int IntKind.i64 (0 : Int), AV.int IntKind.i64 (0 : Int), AV.int IntKind.i64 (0 : Int)],
         AObj.cells [AV.int IntKind.i64 (Int.tmod (IntKind.wrap IntKind.i64 (Int.tdiv p (1000000 : Int))) (1000 : Int)), AV.int IntKind.i64 y, AV.int IntKind.i64 z]]
         (q146_2 n Post))))) →
    AWP Tryd.prog 25 n c146_5
      [(0, AV.int IntKind.i64 p), (2, AV.ptr 0 0), (4, AV.ptr 1 0),
        (12, AV.agg [AV.int IntKind.i64 (1000000 : Int), AV.int IntKind.i64 (1000 : Int), AV.int IntKind.i64 (1 : Int)]), (13, AV.int IntKind.i64 (0 : Int))]
      [AObj.cells [AV.int IntKind.i64 (0 : Int), AV.int IntKind.i64 (0 : Int), AV.int IntKind.i64 (0 : Int)], AObj.cells [AV.int IntKind.i64 x, AV.int IntKind.i64 y, AV.int IntKind.i64 z]]
      (q146_2 n Post) := fun p x y z n Post h => Go.Ab.AWP.loop' g146 (Cfg.live g146) c146_5 (by kernel_rfl) (by kernel_rfl) (Go.Ab.kc (by kernel_rfl) h)
theorem v146_5b : ∀ (p x y z : Int) (n : Nat) (Post : AV → List AObj → Prop),
  needP ((0 : Int) ≤ (1 : Int) ∧ (1 : Int) < (3 : Int))
      (needP ((1000 : Int) ≠ (0 : Int))
        (needP ((1000 : Int) ≠ (0 : Int))
         (needP ((0 : Int) ≤ (1 : Int) ∧ (1 : Int) < (3 : Int))
         (AWP Tryd.prog 25 n c146_5
         [(0, AV.int IntKind.i64 p), (2, AV.ptr 0 0), (4, AV.ptr 1 0),
         (12, AV.agg [AV.int IntKind.i64 (1000000 : Int), AV.int IntKind.i64 (1000 : Int), AV.int IntKind.i64 (1 : Int)]), (13, AV.int IntKind.i64 (2 : Int))]
         [AObj.cells [AV.int IntKind.i64 (0 : Int), AV.int IntKind.i64 (0 : Int), AV.int IntKind.i64 (0 : Int)],
         AObj.cells [AV.int IntKind.i64 x, AV.int IntKind.i64 (Int.tmod (IntKind.wrap IntKind.i64 (Int.tdiv p (1000 : Int))) (1000 : Int)), AV.int IntKind.i64 z]]
         (q146_2 n Post))))) →
    AWP Tryd.prog 25 n c146_5
      [(0, AV.int IntKind.i64 p), (2, AV.ptr 0 0), (4, AV.ptr 1 0),
        (12, AV.agg [AV.int IntKind.i64 (1000000 : Int), AV.int IntKind.i64 (1000 : Int), AV.int IntKind.i64 (1 : Int)]), (13, AV.int IntKind.i64 (1 : Int))]
      [AObj.cells [AV.int IntKind.i64 (0 : Int), AV.int IntKind.i64 (0 : Int), AV.int IntKind.i64 (0 : Int)], AObj.cells [AV.int IntKind.i64 x, AV.int IntKind.i64 y, AV.int IntKind.i64 z]]
      (q146_2 n Post) := fun p x y z n Post h => Go.Ab.AWP.loop' g146 (Cfg.live g146) c146_5 (by kernel_rfl) (by kernel_rfl) (Go.Ab.kc (by kernel_rfl) h)
theorem v146_5c : ∀ (p x y z : Int) (n : Nat) (Post : AV → List AObj → Prop),
  needP ((0 : Int) ≤ (2 : Int) ∧ (2 : Int) < (3 : Int))
      (needP ((1 : Int) ≠ (0 : Int))
        (needP ((1000 : Int) ≠ (0 : Int))
         (needP ((0 : Int) ≤ (2 : Int) ∧ (2 : Int) < (3 : Int))
         (AWP Tryd.prog 25 n c146_5
         [(0, AV.int IntKind.i64 p), (2, AV.ptr 0 0), (4, AV.ptr 1 0),
         (12, AV.agg [AV.int IntKind.i64 (1000000 : Int), AV.int IntKind.i64 (1000 : Int), AV.int IntKind.i64 (1 : Int)]), (13, AV.int IntKind.i64 (3 : Int))]
         [AObj.cells [AV.int IntKind.i64 (0 : Int), AV.int IntKind.i64 (0 : Int), AV.int IntKind.i64 (0 : Int)],
         AObj.cells [AV.int IntKind.i64 x, AV.int IntKind.i64 y, AV.int IntKind.i64 (Int.tmod (IntKind.wrap IntKind.i64 (Int.tdiv p (1 : Int))) (1000 : Int))]]
         (q146_2 n Post))))) →
    AWP Tryd.prog 25 n c146_5
      [(0, AV.int IntKind.i64 p), (2, AV.ptr 0 0), (4, AV.ptr 1 0),
        (12, AV.agg [AV.int IntKind.i64 (1000000 : Int), AV.int IntKind.i64 (1000 : Int), AV.int IntKind.i64 (1 : Int)]), (13, AV.int IntKind.i64 (2 : Int))]
      [AObj.cells [AV.int IntKind.i64 (0 : Int), AV.int IntKind.i64 (0 : Int), AV.int IntKind.i64 (0 : Int)], AObj.cells [AV.int IntKind.i64 x, AV.int IntKind.i64 y, AV.int IntKind.i64 z]]
      (q146_2 n Post) := fun p x y z n Post h => Go.Ab.AWP.loop' g146 (Cfg.live g146) c146_5 (by kernel_rfl) (by kernel_rfl) (Go.Ab.kc (by kernel_rfl) h)
theorem v146_5d : ∀ (p x y z : Int) (n : Nat) (Post : AV → List AObj → Prop),
  Post (AV.tup [AV.agg [AV.int IntKind.i64 x, AV.int IntKind.i64 y, AV.int IntKind.i64 z], AV.bool true])
      [AObj.cells [AV.int IntKind.i64 x, AV.int IntKind.i64 y, AV.int IntKind.i64 z], AObj.cells [AV.int IntKind.i64 x, AV.int IntKind.i64 y, AV.int IntKind.i64 z]] →
    AWP Tryd.prog 25 n c146_5
      [(0, AV.int IntKind.i64 p), (2, AV.ptr 0 0), (4, AV.ptr 1 0),
        (12, AV.agg [AV.int IntKind.i64 (1000000 : Int), AV.int IntKind.i64 (1000 : Int), AV.int IntKind.i64 (1 : Int)]), (13, AV.int IntKind.i64 (3 : Int))]
      [AObj.cells [AV.int IntKind.i64 (0 : Int), AV.int IntKind.i64 (0 : Int), AV.int IntKind.i64 (0 : Int)], AObj.cells [AV.int IntKind.i64 x, AV.int IntKind.i64 y, AV.int IntKind.i64 z]]
      (q146_2 n Post) := fun p x y z n Post h => Go.Ab.AWP.loop' g146 (Cfg.live g146) c146_5 (by kernel_rfl) (by kernel_rfl) (Go.Ab.kc (by kernel_rfl) h)

-- 121
noncomputable def l121 : Nat → List Nat
  | _ => []
noncomputable def u121 : Nat → Bool
  | _ => false
noncomputable def m121 : Nat → Bool
  | _ => false
noncomputable def g121 : Cfg := { N := 25, live := l121, cut := u121, mu := m121, ret := rets }
theorem s121 : ∀ (p : Int) (Post : AV → List AObj → Prop),
  (ASpec Tryd.prog 146 [AV.int IntKind.i64 p] [] fun (r : AV) (H' : List AObj) =>
      ∃ (x : (Int × Int × Int) × Bool),
        r =
         AV.tup
         [AV.agg [AV.int IntKind.i64 (Prod.fst (Prod.fst x)), AV.int IntKind.i64 (Prod.fst (Prod.snd (Prod.fst x))), AV.int IntKind.i64 (Prod.snd (Prod.snd (Prod.fst x)))],
         AV.bool (Prod.snd x)] ∧
         H' = [] ∧
         condP (!Prod.snd x)
         (Post (AV.str { data := #[] })
         [AObj.cells [AV.int IntKind.i64 (Prod.fst (Prod.fst x)), AV.int IntKind.i64 (Prod.fst (Prod.snd (Prod.fst x))), AV.int IntKind.i64 (Prod.snd (Prod.snd (Prod.fst x)))]])
         (needP ((0 : Int) ≤ (0 : Int) ∧ (0 : Int) < (3 : Int))
         (needP ((0 : Int) ≤ (1 : Int) ∧ (1 : Int) < (3 : Int))
         (needP ((0 : Int) ≤ (2 : Int) ∧ (2 : Int) < (3 : Int))
         (ASpec Tryd.prog 86 [AV.int IntKind.i64 (Prod.fst (Prod.fst x))]
         [AObj.cells [AV.int IntKind.i64 (Prod.fst (Prod.fst x)), AV.int IntKind.i64 (Prod.fst (Prod.snd (Prod.fst x))), AV.int IntKind.i64 (Prod.snd (Prod.snd (Prod.fst x)))]]
         fun (r : AV) (H' : List AObj) =>
         ∃ (x_1 : ByteArray),
         r = AV.str x_1 ∧
         H' = [AObj.cells [AV.int IntKind.i64 (Prod.fst (Prod.fst x)), AV.int IntKind.i64 (Prod.fst (Prod.snd (Prod.fst x))), AV.int IntKind.i64 (Prod.snd (Prod.snd (Prod.fst x)))]] ∧
         (AV.int IntKind.i64 (Prod.snd (Prod.snd (Prod.fst x))) = AV.int IntKind.i64 (Prod.snd (Prod.snd (Prod.fst x))) ∧
         [AObj.cells
         [AV.int IntKind.i64 (Prod.fst (Prod.fst x)), AV.int IntKind.i64 (Prod.fst (Prod.snd (Prod.fst x))), AV.int IntKind.i64 (Prod.snd (Prod.snd (Prod.fst x)))]] =
         [AObj.cells
         [AV.int IntKind.i64 (Prod.fst (Prod.fst x)), AV.int IntKind.i64 (Prod.fst (Prod.snd (Prod.fst x))), AV.int IntKind.i64 (Prod.snd (Prod.snd (Prod.fst x)))]]) ∧
         (AV.int IntKind.i64 (Prod.fst (Prod.snd (Prod.fst x))) = AV.int IntKind.i64 (Prod.fst (Prod.snd (Prod.fst x))) ∧
         [AObj.cells
         [AV.int IntKind.i64 (Prod.fst (Prod.fst x)), AV.int IntKind.i64 (Prod.fst (Prod.snd (Prod.fst x))), AV.int IntKind.i64 (Prod.snd (Prod.snd (Prod.fst x)))]] =
         [AObj.cells
         [AV.int IntKind.i64 (Prod.fst (Prod.fst x)), AV.int IntKind.i64 (Prod.fst (Prod.snd (Prod.fst x))), AV.int IntKind.i64 (Prod.snd (Prod.snd (Prod.fst x)))]]) ∧
         needP ((↑(ByteArray.size x_1 + 1) : Int) ≤ (9223372036854775807 : Int))
         (ASpec Tryd.prog 86 [AV.int IntKind.i64 (Prod.fst (Prod.snd (Prod.fst x)))]
         [AObj.cells
         [AV.int IntKind.i64 (Prod.fst (Prod.fst x)), AV.int IntKind.i64 (Prod.fst (Prod.snd (Prod.fst x))), AV.int IntKind.i64 (Prod.snd (Prod.snd (Prod.fst x)))]]
         fun (r : AV) (H' : List AObj) =>
         ∃ (x_2 : ByteArray),
         r = AV.str x_2 ∧
         H' =
         [AObj.cells
         [AV.int IntKind.i64 (Prod.fst (Prod.fst x)), AV.int IntKind.i64 (Prod.fst (Prod.snd (Prod.fst x))),
         AV.int IntKind.i64 (Prod.snd (Prod.snd (Prod.fst x)))]] ∧
         (AV.int IntKind.i64 (Prod.snd (Prod.snd (Prod.fst x))) = AV.int IntKind.i64 (Prod.snd (Prod.snd (Prod.fst x))) ∧
         [AObj.cells
         [AV.int IntKind.i64 (Prod.fst (Prod.fst x)), AV.int IntKind.i64 (Prod.fst (Prod.snd (Prod.fst x))),
         AV.int IntKind.i64 (Prod.snd (Prod.snd (Prod.fst x)))]] =
         [AObj.cells
         [AV.int IntKind.i64 (Prod.fst (Prod.fst x)), AV.int IntKind.i64 (Prod.fst (Prod.snd (Prod.fst x))),
         AV.int IntKind.i64 (Prod.snd (Prod.snd (Prod.fst x)))]]) ∧
         needP ((↑(ByteArray.size (x_1 ++ { data := #[(46 : UInt8)] }) + ByteArray.size x_2) : Int) ≤ (9223372036854775807 : Int))
         (needP ((↑(ByteArray.size (x_1 ++ { data := #[(46 : UInt8)] } ++ x_2) + 1) : Int) ≤ (9223372036854775807 : Int))
         (ASpec Tryd.prog 86 [AV.int IntKind.i64 (Prod.snd (Prod.snd (Prod.fst x)))]
         [AObj.cells
         [AV.int IntKind.i64 (Prod.fst (Prod.fst x)), AV.int IntKind.i64 (Prod.fst (Prod.snd (Prod.fst x))),
         AV.int IntKind.i64 (Prod.snd (Prod.snd (Prod.fst x)))]]
         fun (r : AV) (H' : List AObj) =>
         ∃ (x_3 : ByteArray),
         r = AV.str x_3 ∧
         H' =
         [AObj.cells
         [AV.int IntKind.i64 (Prod.fst (Prod.fst x)), AV.int IntKind.i64 (Prod.fst (Prod.snd (Prod.fst x))),
         AV.int IntKind.i64 (Prod.snd (Prod.snd (Prod.fst x)))]] ∧
         needP
         ((↑(ByteArray.size (x_1 ++ { data := #[(46 : UInt8)] } ++ x_2 ++ { data := #[(46 : UInt8)] }) + ByteArray.size x_3) : Int) ≤
         (9223372036854775807 : Int))
         (Post (AV.str (x_1 ++ { data := #[(46 : UInt8)] } ++ x_2 ++ { data := #[(46 : UInt8)] } ++ x_3))
         [AObj.cells
         [AV.int IntKind.i64 (Prod.fst (Prod.fst x)), AV.int IntKind.i64 (Prod.fst (Prod.snd (Prod.fst x))),
         AV.int IntKind.i64 (Prod.snd (Prod.snd (Prod.fst x)))]]))))))))) →
    ASpec Tryd.prog 121 [AV.int IntKind.i64 p] [] Post := fun p Post h => Go.Ab.ASpec.of_vc g121 Go.Proofs.Tryd.func121 (by kernel_rfl) (by kernel_rfl) (by kernel_rfl) (Go.Ab.kc (by kernel_rfl) h)

end
end D
end

section
/- The plain law of versions and their texts. -/

set_option linter.unusedVariables false
set_option linter.unusedSimpArgs false
namespace Ve

/-- a part's digits -/
def dg (n : Nat) : List UInt8 :=
  if n < 10 then [UInt8.ofNat (48 + n)] else if n < 100 then [UInt8.ofNat (48 + n / 10), UInt8.ofNat (48 + n % 10)] else [UInt8.ofNat (48 + n / 100), UInt8.ofNat (48 + n / 10 % 10), UInt8.ofNat (48 + n % 10)]

def text3 (a b c : Nat) : List UInt8 := dg a ++ 46 :: (dg b ++ 46 :: dg c)
def textM (p : Int) : List UInt8 := if 0 ≤ p ∧ p < 1000000000 then text3 (p / 1000000).toNat (p / 1000 % 1000).toNat (p % 1000).toNat else []

theorem dg_len (n : Nat) : 1 ≤ (dg n).length ∧ (dg n).length ≤ 3 := by
  unfold dg; split
  · simp
  · split <;> simp

theorem text3_len (a b c : Nat) : 5 ≤ (text3 a b c).length ∧ (text3 a b c).length ≤ 11 := by
  have h1 := dg_len a
  have h2 := dg_len b
  have h3 := dg_len c
  simp only [text3, List.length_append, List.length_cons]; omega

end Ve
end

section
/- Bytes and runes: plain facts. -/

set_option linter.unusedVariables false
set_option linter.unusedSimpArgs false
set_option maxRecDepth 100000
open Go Go.Ab
namespace D

abbrev B (l : List UInt8) : ByteArray := ⟨l.toArray⟩

theorem B_size (l : List UInt8) : (B l).size = l.length := by simp [ByteArray.size]
theorem B_append (a b : List UInt8) : B a ++ B b = B (a ++ b) := by
  apply ByteArray.ext
  simp
/-! ### the rune at a place -/

end D
end

section
/- Printed: what the code of functions 131, 80, 132, 81, 84, 78, 92, 106, 97, 102 asks for, by the framework's own reading of it; each line is checked against the code. -/

set_option linter.unusedVariables false
set_option maxRecDepth 100000
set_option maxHeartbeats 4000000
open Go Go.Ab Go.Proofs
namespace Pf
noncomputable section

end
end Pf
end

section
/- Steps of a proof: which may be. -/

set_option linter.unusedVariables false
set_option linter.unusedSimpArgs false
set_option maxRecDepth 100000
open Go Go.Ab Go.Proofs V S T C
namespace Pr

instance decSt : DecidableEq St := fun a b => instDecidableEqProd a b
/-- may a step be, of a number? -/
def mayM (x : St) (i : Int) : Bool := fitM x.2.1 &&
  (if x.1 = 1 ∨ x.1 = 2 then decide (x.2.2.2.1 = [] ∧ x.2.2.1 = 0 ∧ x.2.2.2.2.1 = 0 ∧ x.2.2.2.2.2 = 0)
   else if x.1 = 3 then fitM x.2.2.2.1 && decide (0 ≤ x.2.2.1 ∧ x.2.2.1 < 1000000000 ∧ x.2.2.2.2.1 = 0 ∧ x.2.2.2.2.2 = 0)
   else if x.1 = 4 then decide (x.2.2.2.1 = [] ∧ x.2.2.1 = 0 ∧ 0 ≤ x.2.2.2.2.1 ∧ x.2.2.2.2.1 < i ∧ 0 ≤ x.2.2.2.2.2 ∧ x.2.2.2.2.2 < i) else false)

/-- may each step be, of its number? -/
def chkF (i : Nat) : List St → Bool
  | [] => true
  | x :: r => mayM x i && chkF (i + 1) r
/-! ### how much is looked at -/

end Pr
end

section
/- PickPuts: what was put is there, what was dropped is not: plain laws. -/

set_option linter.unusedVariables false
set_option linter.unusedSimpArgs false
open Go Go.Ab Go.Proofs V S T C
namespace Dk
end Dk
end

section
/- What was put together is taken apart: plain laws of texts of picks. -/

set_option linter.unusedVariables false
set_option linter.unusedSimpArgs false
open Go Go.Lib
namespace Dk
abbrev sepP : List UInt8 := [44, 32]
theorem join_cons (p q : List UInt8) (r : List (List UInt8)) : Lib.join (p :: q :: r) sepP = p ++ 44 :: 32 :: Lib.join (q :: r) sepP := by
  simp [Lib.join, List.intercalate, List.intersperse]
end Dk
end

section
/- The codecs of this seat's plain arguments. -/

open Go Go.Ab Go.Proofs
namespace Go.Ab

noncomputable def cInt : Codec Tryd.prog 3 Int := Codec.int .i64 Tryd.underlying3
noncomputable def cStr : Codec Tryd.prog 9 ByteArray := Codec.str Tryd.underlying9
end Go.Ab
end

section
/- The codecs of manifests. -/

open Go Go.Ab Go.Proofs
namespace Go.Ab

noncomputable def cName : Codec Tryd.prog 9 (List UInt8) := cStr.iso (fun s => s.data.toList) (fun l => [.str ⟨l.toArray⟩]) (fun _ => True) (fun _ => rfl) (fun _ _ => trivial)
end Go.Ab
end
