/- Q6: several of this proof's own texts, one behind the other: what each proves stands at its head. -/
import Derived.Test.YtbacghbkaapncaaGreatProg
import Derived.Test.YtbacghbkaapncaaGreatQ5
import Derived.Test.YtbacghbkaapncaaGreatA3
section
/- Printed: what the code of functions 76, 142, 141, 102, 78, 44, 65, 34, 35, 36, 37, 38, 67, 68, 70, 71, 69, 99, 66, 98, 12, 14, 42, 17, 9 asks for, by the framework's own reading of it; each line is checked against the code. -/

set_option linter.unusedVariables false
set_option maxRecDepth 100000
set_option maxHeartbeats 4000000
open Go Go.Ab Go.Proofs
namespace Ft
noncomputable section

noncomputable def retFt : List (Nat × Ret) := [
  (65, ⟨Bool, fun _ _ x => .bool x, fun _ H _ => H⟩),
  (67, ⟨Bool, fun _ _ x => .bool x, fun _ H _ => H⟩),
  (68, ⟨Bool, fun _ _ x => .bool x, fun _ H _ => H⟩),
  (69, ⟨Bool, fun _ _ x => .bool x, fun _ H _ => H⟩),
  (70, ⟨Bool, fun _ _ x => .bool x, fun _ H _ => H⟩),
  (71, ⟨Bool, fun _ _ x => .bool x, fun _ H _ => H⟩),
  (98, ⟨Int, fun _ _ x => .int .i64 x, fun _ H _ => H⟩),
  (99, ⟨Int, fun _ _ x => .int .i64 x, fun _ H _ => H⟩),
  (34, ⟨ByteArray × Bool, fun _ _ x => .tup [.str x.1, .bool x.2], fun _ H _ => H⟩),
  (35, ⟨ByteArray × Bool, fun _ _ x => .tup [.str x.1, .bool x.2], fun _ H _ => H⟩),
  (36, ⟨ByteArray × Bool, fun _ _ x => .tup [.str x.1, .bool x.2], fun _ H _ => H⟩),
  (37, ⟨ByteArray × Bool, fun _ _ x => .tup [.str x.1, .bool x.2], fun _ H _ => H⟩),
  (38, ⟨ByteArray × Bool, fun _ _ x => .tup [.str x.1, .bool x.2], fun _ H _ => H⟩),
  (66, ⟨ByteArray × Bool, fun _ _ x => .tup [.str x.1, .bool x.2], fun _ H _ => H⟩),
  (44, ⟨T.Rel × Bool, fun _ _ x => .tup [.agg (T.encR x.1), .bool x.2], fun _ H _ => H⟩),
  (78, ⟨T.Rel × Bool, fun _ _ x => .tup [.agg (T.encR x.1), .bool x.2], fun _ H _ => H⟩),
  (43, ⟨Int × Bool, fun _ _ x => .tup [.int .i64 x.1, .bool x.2], fun _ H _ => H⟩),
  (76, ⟨Int, fun _ _ x => .int .i64 x, fun _ H _ => H⟩),
  (64, ⟨Bool, fun _ _ x => .bool x, fun _ H _ => H⟩),
  (96, ⟨Bool, fun _ _ x => .bool x, fun _ H _ => H⟩),
  (102, ⟨Int × Bool, fun _ _ x => .tup [.int .i64 x.1, .bool x.2], fun _ H _ => H⟩),
  (142, ⟨Int, fun _ _ x => .int .i64 x, fun _ H _ => H⟩),
  (97, ⟨Bool, fun _ _ x => .bool x, fun _ H _ => H⟩),
  (14, ⟨Bool, fun _ _ x => .bool x, fun _ H _ => H⟩),
  (17, ⟨List (List UInt8), fun _ _ x => .sl 1 (.map T.encL [] x) .none, fun _ H _ => H⟩),
  (9034, ⟨List T.Pk, fun _ _ x => .sl 2 (.map T.encPk T.noPk x) .none, fun _ H _ => H⟩),
  (8, ⟨Bool, fun _ _ x => .bool x, fun _ H _ => H⟩),
  (141, ⟨Int × Bool, fun _ _ x => .tup [.int .i64 x.1, .bool x.2], fun _ H _ => H⟩),
  (12, ⟨Int × ByteArray, fun _ _ x => .tup [.int .i64 x.1, .str x.2], fun _ H _ => H⟩),
  (42, ⟨List (List UInt8), fun _ _ _ => .tup [], fun _ H x => H.set 5 (.mp (.typed T.EB (T.seenM x)))⟩),
  (103, ⟨T.Rel, fun _ _ x => .agg (T.encR x), fun _ H _ => H⟩),
  (9, ⟨Unit, fun _ _ _ => .bool true, fun _ H _ => H⟩)]
noncomputable def rets : FuncId → List Ret := fun f => match lookupR retFt f with
  | [] => (match Wn.rets f with | [] => Rc.rets f | l => l)
  | l => l

-- 76
noncomputable def l76 : Nat → List Nat
  | 2 => [0, 1, 5, 6]
  | _ => []
noncomputable def m76 : Nat → Bool
  | _ => false
noncomputable def l142 : Nat → List Nat
  | _ => []
noncomputable def u142 : Nat → Bool
  | _ => false
noncomputable def m142 : Nat → Bool
  | _ => false
noncomputable def g142 : Cfg := { N := 9, live := l142, cut := u142, mu := m142, ret := rets }
theorem s142 : ∀ (x : T.Rel) (v : Int) (Post : AV → List AObj → Prop),
  Post (.int .i64 (IntKind.wrap .i64 (Prod.fst x - v))) [AObj.cells [.int .i64 (Prod.fst x), .sl 2 (.map T.encN ([], []) (Prod.snd x)) .none]] →
    ASpec Tryz.prog 142 [.agg (T.encR x), .int .i64 v] [] Post := fun x v Post h => Go.Ab.ASpec.of_vc g142 Go.Proofs.Tryz.func142 (by kernel_rfl) (by kernel_rfl) (by kernel_rfl) (Go.Ab.kc (by kernel_rfl) h)

-- 141
noncomputable def l141 : Nat → List Nat
  | 3 => [0, 1, 2, 8, 9, 10]
  | _ => []
noncomputable def u141 : Nat → Bool
  | _ => false
noncomputable def m141 : Nat → Bool
  | _ => false
noncomputable def g141 : Cfg := { N := 49, live := l141, cut := u141, mu := m141, ret := rets }
noncomputable def c141 : Go.Code := Go.Ab.bodyOf Go.Proofs.Tryz.f141
noncomputable def q141_0 : Nat → (AV → List AObj → Prop) → AQ := fun (n : Nat) (Post : AV → List AObj → Prop) => endQ Tryz.prog (resultsOf Tryz.f141) Post
noncomputable def q141_1 : Nat → (AV → List AObj → Prop) → AQ := fun (n : Nat) (Post : AV → List AObj → Prop) => seqQ (fun (s' : Slots) (H' : List AObj) => awp Tryz.prog g141 n (codeSnd (codeSnd (codeSnd (codeSnd c141)))) s' H' (q141_0 n Post)) (q141_0 n Post)
noncomputable def q141_2 : Nat → (AV → List AObj → Prop) → AQ := fun (n : Nat) (Post : AV → List AObj → Prop) => blockQ 0 (q141_1 n Post)
noncomputable def c141_3 : Go.Code := codeFst (codeFst (codeSnd (codeSnd (codeSnd c141))))
theorem s141 : ∀ (rs : List T.Rel) (v : Int) (Post : AV → List AObj → Prop),
  AWP Tryz.prog 49 0 c141_3
      [(0, .sl 2 (.map T.encR ((0 : Int), []) rs) .none), (1, .int .i64 v), (2, .fn (142 : FuncId) []),
        (8, .int .i64 (↑(List.length rs) : Int)), (9, .int .i64 (0 : Int)), (10, .int .i64 (↑(List.length rs) : Int))]
      [] (q141_2 0 Post) →
    ASpec Tryz.prog 141 [AV.sl 2 (.map T.encR ((0 : Int), []) rs) .none, .int .i64 v, AV.fn (142 : FuncId) []] [] Post := fun rs v Post h => Go.Ab.ASpec.of_vc g141 Go.Proofs.Tryz.func141 (by kernel_rfl) (by kernel_rfl) (by kernel_rfl) (Go.Ab.kc (by kernel_rfl) h)
theorem v141_3 : ∀ (rs : List T.Rel) (v n i j : Int) (n_1 : Nat) (Post : AV → List AObj → Prop),
  condP (decide (i < j))
      (needP ((0 : Int) ≤ (1 : Int))
        (needP
         ((0 : Int) ≤ IntKind.wrap .i64 (Int.fdiv (IntKind.wrap .u64 (IntKind.wrap .i64 (i + j))) (2 : Int)) ∧
         IntKind.wrap .i64 (Int.fdiv (IntKind.wrap .u64 (IntKind.wrap .i64 (i + j))) (2 : Int)) < (↑(List.length rs) : Int))
         (ASpec Tryz.prog 142
         [AV.agg
         [.int .i64 (Prod.fst (List.getD rs (Int.toNat (IntKind.wrap .i64 (Int.fdiv (IntKind.wrap .u64 (IntKind.wrap .i64 (i + j))) (2 : Int)))) ((0 : Int), []))),
         AV.sl 2
         (.map T.encN ([], [])
         (Prod.snd (List.getD rs (Int.toNat (IntKind.wrap .i64 (Int.fdiv (IntKind.wrap .u64 (IntKind.wrap .i64 (i + j))) (2 : Int)))) ((0 : Int), []))))
         .none],
         AV.int .i64 v]
         [] fun (r : AV) (H' : List AObj) =>
         ∃ (x : Int),
         r = AV.int .i64 x ∧
         H' = [] ∧
         condP (decide (x < (0 : Int)))
         (AWP Tryz.prog 49 n_1 c141_3
         [(0, .sl 2 (.map T.encR ((0 : Int), []) rs) .none), (1, .int .i64 v), (2, .fn (142 : FuncId) []),
         (8, .int .i64 n),
         (9,
         AV.int .i64 (IntKind.wrap .i64 (IntKind.wrap .i64 (Int.fdiv (IntKind.wrap .u64 (IntKind.wrap .i64 (i + j))) (2 : Int)) + (1 : Int)))),
         (10, .int .i64 j)]
         [] (q141_2 n_1 Post))
         (AWP Tryz.prog 49 n_1 c141_3
         [(0, .sl 2 (.map T.encR ((0 : Int), []) rs) .none), (1, .int .i64 v), (2, .fn (142 : FuncId) []),
         (8, .int .i64 n), (9, .int .i64 i),
         (10, .int .i64 (IntKind.wrap .i64 (Int.fdiv (IntKind.wrap .u64 (IntKind.wrap .i64 (i + j))) (2 : Int))))]
         [] (q141_2 n_1 Post)))))
      (condP (decide (i < n))
        (needP ((0 : Int) ≤ i ∧ i < (↑(List.length rs) : Int))
         (ASpec Tryz.prog 142
         [AV.agg
         [.int .i64 (Prod.fst (List.getD rs (Int.toNat i) ((0 : Int), []))),
         AV.sl 2 (.map T.encN ([], []) (Prod.snd (List.getD rs (Int.toNat i) ((0 : Int), [])))) .none],
         AV.int .i64 v]
         [] fun (r : AV) (H' : List AObj) => ∃ (x : Int), r = AV.int .i64 x ∧ H' = [] ∧ Post (.tup [.int .i64 i, AV.bool (x == (0 : Int))]) []))
        (Post (.tup [.int .i64 i, AV.bool false]) [])) →
    AWP Tryz.prog 49 n_1 c141_3
      [(0, .sl 2 (.map T.encR ((0 : Int), []) rs) .none), (1, .int .i64 v), (2, .fn (142 : FuncId) []), (8, .int .i64 n),
        (9, .int .i64 i), (10, .int .i64 j)]
      [] (q141_2 n_1 Post) := fun rs v n i j n Post h => Go.Ab.AWP.loop' g141 (Cfg.live g141) c141_3 (by kernel_rfl) (by kernel_rfl) (Go.Ab.kc (by kernel_rfl) h)

-- 102
noncomputable def l102 : Nat → List Nat
  | _ => []
noncomputable def u102 : Nat → Bool
  | _ => false
noncomputable def m102 : Nat → Bool
  | _ => false
noncomputable def g102 : Cfg := { N := 12, live := l102, cut := u102, mu := m102, ret := rets }
theorem s102 : ∀ (m : T.Mani) (v : Int) (Post : AV → List AObj → Prop),
  (ASpec Tryz.prog 141 [.sl 2 (.map T.encR ((0 : Int), []) (Prod.snd m)) .none, .int .i64 v, AV.fn 142 []]
      [AObj.cells [.str { data := List.toArray (Prod.fst m) }, AV.sl 2 (.map T.encR ((0 : Int), []) (Prod.snd m)) .none]] fun (r : AV) (H' : List AObj) =>
      ∃ (x : Int × Bool),
        r = AV.tup [.int .i64 (Prod.fst x), .bool (Prod.snd x)] ∧
         H' = [AObj.cells [.str { data := List.toArray (Prod.fst m) }, AV.sl 2 (.map T.encR ((0 : Int), []) (Prod.snd m)) .none]] ∧
         Post (.tup [.int .i64 (Prod.fst x), .bool (Prod.snd x)])
         [AObj.cells [.str { data := List.toArray (Prod.fst m) }, AV.sl 2 (.map T.encR ((0 : Int), []) (Prod.snd m)) .none]]) →
    ASpec Tryz.prog 102 [.agg (T.encM m), .int .i64 v] [] Post := fun m v Post h => Go.Ab.ASpec.of_vc g102 Go.Proofs.Tryz.func102 (by kernel_rfl) (by kernel_rfl) (by kernel_rfl) (Go.Ab.kc (by kernel_rfl) h)

-- 78
noncomputable def l78 : Nat → List Nat
  | _ => []
noncomputable def u78 : Nat → Bool
  | _ => false
noncomputable def m78 : Nat → Bool
  | _ => false
noncomputable def g78 : Cfg := { N := 30, live := l78, cut := u78, mu := m78, ret := rets }
theorem s78 : ∀ (m : T.Mani) (v : Int) (Post : AV → List AObj → Prop),
  condP (decide (v < (0 : Int)))
      (Post (.tup [.agg [.int .i64 (0 : Int), .sl 0 (.raw []) .nil], .bool false])
        [AObj.cells [.str { data := List.toArray (Prod.fst m) }, AV.sl 2 (.map T.encR ((0 : Int), []) (Prod.snd m)) .none],
         AObj.cells [.int .i64 (0 : Int), .sl 0 (.raw []) .nil]])
      (condP (decide (v ≥ (1000000000 : Int)))
        (Post (.tup [.agg [.int .i64 (0 : Int), .sl 0 (.raw []) .nil], .bool false])
         [AObj.cells [.str { data := List.toArray (Prod.fst m) }, AV.sl 2 (.map T.encR ((0 : Int), []) (Prod.snd m)) .none],
         AObj.cells [.int .i64 (0 : Int), .sl 0 (.raw []) .nil]])
        (ASpec Tryz.prog 102 [.agg [.str { data := List.toArray (Prod.fst m) }, AV.sl 2 (.map T.encR ((0 : Int), []) (Prod.snd m)) .none], .int .i64 v]
         [AObj.cells [.str { data := List.toArray (Prod.fst m) }, AV.sl 2 (.map T.encR ((0 : Int), []) (Prod.snd m)) .none],
         AObj.cells [.int .i64 (0 : Int), .sl 0 (.raw []) .nil]]
         fun (r : AV) (H' : List AObj) =>
         ∃ (x : Int × Bool),
         r = AV.tup [.int .i64 (Prod.fst x), .bool (Prod.snd x)] ∧
         H' =
         [AObj.cells [.str { data := List.toArray (Prod.fst m) }, AV.sl 2 (.map T.encR ((0 : Int), []) (Prod.snd m)) .none],
         AObj.cells [.int .i64 (0 : Int), .sl 0 (.raw []) .nil]] ∧
         condP (!Prod.snd x)
         (Post (.tup [.agg [.int .i64 (0 : Int), .sl 0 (.raw []) .nil], .bool false])
         [AObj.cells [.str { data := List.toArray (Prod.fst m) }, AV.sl 2 (.map T.encR ((0 : Int), []) (Prod.snd m)) .none],
         AObj.cells [.int .i64 (0 : Int), .sl 0 (.raw []) .nil]])
         (needP ((0 : Int) ≤ Prod.fst x ∧ Prod.fst x < (↑(List.length (Prod.snd m)) : Int))
         (ASpec Tryz.prog 103
         [AV.agg
         [.int .i64 (Prod.fst (List.getD (Prod.snd m) (Int.toNat (Prod.fst x)) ((0 : Int), []))),
         AV.sl 2 (.map T.encN ([], []) (Prod.snd (List.getD (Prod.snd m) (Int.toNat (Prod.fst x)) ((0 : Int), [])))) .none]]
         [AObj.cells [.str { data := List.toArray (Prod.fst m) }, AV.sl 2 (.map T.encR ((0 : Int), []) (Prod.snd m)) .none],
         AObj.cells [.int .i64 (0 : Int), .sl 0 (.raw []) .nil]]
         fun (r : AV) (H' : List AObj) =>
         ∃ (x : Int × List T.Need),
         r = AV.agg [.int .i64 (Prod.fst x), .sl 2 (.map T.encN ([], []) (Prod.snd x)) .none] ∧
         H' =
         [AObj.cells [.str { data := List.toArray (Prod.fst m) }, AV.sl 2 (.map T.encR ((0 : Int), []) (Prod.snd m)) .none],
         AObj.cells [.int .i64 (0 : Int), .sl 0 (.raw []) .nil]] ∧
         Post (.tup [.agg [.int .i64 (Prod.fst x), .sl 2 (.map T.encN ([], []) (Prod.snd x)) .none], .bool true])
         [AObj.cells [.str { data := List.toArray (Prod.fst m) }, AV.sl 2 (.map T.encR ((0 : Int), []) (Prod.snd m)) .none],
         AObj.cells [.int .i64 (Prod.fst x), .sl 2 (.map T.encN ([], []) (Prod.snd x)) .none]])))) →
    ASpec Tryz.prog 78 [.agg (T.encM m), .int .i64 v] [] Post := fun m v Post h => Go.Ab.ASpec.of_vc g78 Go.Proofs.Tryz.func78 (by kernel_rfl) (by kernel_rfl) (by kernel_rfl) (Go.Ab.kc (by kernel_rfl) h)

-- 44
noncomputable def l44 : Nat → List Nat
  | _ => []
noncomputable def u44 : Nat → Bool
  | _ => false
noncomputable def m44 : Nat → Bool
  | _ => false
noncomputable def g44 : Cfg := { N := 24, live := l44, cut := u44, mu := m44, ret := rets }
theorem s44 : ∀ (es : T.Kn) (root : List T.Need) (l : List T.Pk) (p : T.Pk) (Post : AV → List AObj → Prop),
  (ASpec Tryz.prog 77 [.ptr 1 0, .str { data := List.toArray (Prod.fst p) }]
      [AObj.mp (MM.typed T.EK es), AObj.cells [AV.map 0],
        AObj.cells [.ptr 1 0, .sl 2 (.map T.encN ([], []) root) .none, .sl 2 (.map T.encPk T.noPk l) .none],
        AObj.cells [.str { data := List.toArray (Prod.fst p) }, AV.int .i64 (Prod.snd p)], AObj.cells [AV.int .i64 (0 : Int), .sl 0 (.raw []) .nil]]
      fun (r : AV) (H' : List AObj) =>
      ∃ (x : T.Mani × Bool),
        r = AV.tup [.agg [.str { data := List.toArray (Prod.fst (Prod.fst x)) }, AV.sl 2 (.map T.encR ((0 : Int), []) (Prod.snd (Prod.fst x))) .none], .bool (Prod.snd x)] ∧
         H' =
         [AObj.mp (MM.typed T.EK es), AObj.cells [.map 0],
         AObj.cells [.ptr 1 0, .sl 2 (.map T.encN ([], []) root) .none, .sl 2 (.map T.encPk T.noPk l) .none],
         AObj.cells [.str { data := List.toArray (Prod.fst p) }, AV.int .i64 (Prod.snd p)], AObj.cells [AV.int .i64 (0 : Int), .sl 0 (.raw []) .nil]] ∧
         (AV.str { data := List.toArray (Prod.fst p) } = AV.str { data := List.toArray (Prod.fst p) } ∧
         [AObj.mp (MM.typed T.EK es), AObj.cells [AV.map 0],
         AObj.cells [.ptr 1 0, .sl 2 (.map T.encN ([], []) root) .none, .sl 2 (.map T.encPk T.noPk l) .none],
         AObj.cells [.str { data := List.toArray (Prod.fst p) }, AV.int .i64 (Prod.snd p)], AObj.cells [AV.int .i64 (0 : Int), .sl 0 (.raw []) .nil],
         AObj.cells [.str { data := #[] }, AV.sl 0 (.raw []) .nil]] =
         [AObj.mp (MM.typed T.EK es), AObj.cells [.map 0],
         AObj.cells [.ptr 1 0, .sl 2 (.map T.encN ([], []) root) .none, .sl 2 (.map T.encPk T.noPk l) .none],
         AObj.cells [.str { data := List.toArray (Prod.fst p) }, AV.int .i64 (Prod.snd p)], AObj.cells [AV.int .i64 (0 : Int), .sl 0 (.raw []) .nil],
         AObj.cells [.str { data := #[] }, AV.sl 0 (.raw []) .nil]]) ∧
         (AV.ptr 1 0 = AV.ptr 1 0 ∧
         [AObj.mp (MM.typed T.EK es), AObj.cells [.map 0],
         AObj.cells [.ptr 1 0, .sl 2 (.map T.encN ([], []) root) .none, .sl 2 (.map T.encPk T.noPk l) .none],
         AObj.cells [.str { data := List.toArray (Prod.fst p) }, AV.int .i64 (Prod.snd p)], AObj.cells [AV.int .i64 (0 : Int), .sl 0 (.raw []) .nil],
         AObj.cells [.str { data := #[] }, AV.sl 0 (.raw []) .nil]] =
         [AObj.mp (MM.typed T.EK es), AObj.cells [.map 0],
         AObj.cells [.ptr 1 0, .sl 2 (.map T.encN ([], []) root) .none, .sl 2 (.map T.encPk T.noPk l) .none],
         AObj.cells [.str { data := List.toArray (Prod.fst p) }, AV.int .i64 (Prod.snd p)], AObj.cells [AV.int .i64 (0 : Int), .sl 0 (.raw []) .nil],
         AObj.cells [.str { data := #[] }, AV.sl 0 (.raw []) .nil]]) ∧
         ASpec Tryz.prog 78
         [.agg [.str { data := List.toArray (Prod.fst (Prod.fst x)) }, AV.sl 2 (.map T.encR ((0 : Int), []) (Prod.snd (Prod.fst x))) .none], .int .i64 (Prod.snd p)]
         [AObj.mp (MM.typed T.EK es), AObj.cells [.map 0],
         AObj.cells [.ptr 1 0, .sl 2 (.map T.encN ([], []) root) .none, .sl 2 (.map T.encPk T.noPk l) .none],
         AObj.cells [.str { data := List.toArray (Prod.fst p) }, AV.int .i64 (Prod.snd p)], AObj.cells [AV.int .i64 (0 : Int), .sl 0 (.raw []) .nil],
         AObj.cells [.str { data := List.toArray (Prod.fst (Prod.fst x)) }, AV.sl 2 (.map T.encR ((0 : Int), []) (Prod.snd (Prod.fst x))) .none]]
         fun (r : AV) (H' : List AObj) =>
         ∃ (x_1 : T.Rel × Bool),
         r = AV.tup [.agg [.int .i64 (Prod.fst (Prod.fst x_1)), .sl 2 (.map T.encN ([], []) (Prod.snd (Prod.fst x_1))) .none], .bool (Prod.snd x_1)] ∧
         H' =
         [AObj.mp (MM.typed T.EK es), AObj.cells [.map 0],
         AObj.cells [.ptr 1 0, .sl 2 (.map T.encN ([], []) root) .none, .sl 2 (.map T.encPk T.noPk l) .none],
         AObj.cells [.str { data := List.toArray (Prod.fst p) }, AV.int .i64 (Prod.snd p)], AObj.cells [AV.int .i64 (0 : Int), .sl 0 (.raw []) .nil],
         AObj.cells [.str { data := List.toArray (Prod.fst (Prod.fst x)) }, AV.sl 2 (.map T.encR ((0 : Int), []) (Prod.snd (Prod.fst x))) .none]] ∧
         Post (.tup [.agg [.int .i64 (Prod.fst (Prod.fst x_1)), .sl 2 (.map T.encN ([], []) (Prod.snd (Prod.fst x_1))) .none], .bool (Prod.snd x_1)])
         [AObj.mp (MM.typed T.EK es), AObj.cells [.map 0],
         AObj.cells [.ptr 1 0, .sl 2 (.map T.encN ([], []) root) .none, .sl 2 (.map T.encPk T.noPk l) .none],
         AObj.cells [.str { data := List.toArray (Prod.fst p) }, AV.int .i64 (Prod.snd p)],
         AObj.cells [AV.int .i64 (Prod.fst (Prod.fst x_1)), .sl 2 (.map T.encN ([], []) (Prod.snd (Prod.fst x_1))) .none],
         AObj.cells [.str { data := List.toArray (Prod.fst (Prod.fst x)) }, AV.sl 2 (.map T.encR ((0 : Int), []) (Prod.snd (Prod.fst x))) .none]]) →
    ASpec Tryz.prog 44 [.ptr 2 0, .agg (T.encPk p)] (T.HF es root l) Post := fun es root l p Post h => Go.Ab.ASpec.of_vc g44 Go.Proofs.Tryz.func44 (by kernel_rfl) (by kernel_rfl) (by kernel_rfl) (Go.Ab.kc (by kernel_rfl) h)

-- 65
noncomputable def l65 : Nat → List Nat
  | _ => []
noncomputable def u65 : Nat → Bool
  | _ => false
noncomputable def m65 : Nat → Bool
  | _ => false
noncomputable def g65 : Cfg := { N := 24, live := l65, cut := u65, mu := m65, ret := rets }
theorem s65 : ∀ (es : T.Kn) (root : List T.Need) (l : List T.Pk) (n : T.Need) (Post : AV → List AObj → Prop),
  (ASpec Tryz.prog 43 [.sl 2 (.map T.encPk T.noPk l) .none, .str { data := List.toArray (Prod.fst n) }]
      [AObj.mp (MM.typed T.EK es), AObj.cells [AV.map 0],
        AObj.cells [.ptr 1 0, .sl 2 (.map T.encN ([], []) root) .none, .sl 2 (.map T.encPk T.noPk l) .none],
        AObj.cells [.str { data := List.toArray (Prod.fst n) }, AV.sl 2 (.map T.encS ((0 : Int), (0 : Int)) (Prod.snd n)) .none]]
      fun (r : AV) (H' : List AObj) =>
      ∃ (x : Int × Bool),
        r = AV.tup [.int .i64 (Prod.fst x), .bool (Prod.snd x)] ∧
         H' =
         [AObj.mp (MM.typed T.EK es), AObj.cells [.map 0],
         AObj.cells [.ptr 1 0, .sl 2 (.map T.encN ([], []) root) .none, .sl 2 (.map T.encPk T.noPk l) .none],
         AObj.cells [.str { data := List.toArray (Prod.fst n) }, AV.sl 2 (.map T.encS ((0 : Int), (0 : Int)) (Prod.snd n)) .none]] ∧
         condP (Prod.snd x)
         (ASpec Tryz.prog 97 [.sl 2 (.map T.encS ((0 : Int), (0 : Int)) (Prod.snd n)) .none, .int .i64 (Prod.fst x)]
         [AObj.mp (MM.typed T.EK es), AObj.cells [.map 0],
         AObj.cells [.ptr 1 0, .sl 2 (.map T.encN ([], []) root) .none, .sl 2 (.map T.encPk T.noPk l) .none],
         AObj.cells [.str { data := List.toArray (Prod.fst n) }, AV.sl 2 (.map T.encS ((0 : Int), (0 : Int)) (Prod.snd n)) .none]]
         fun (r : AV) (H' : List AObj) =>
         ∃ (x : Bool),
         r = AV.bool x ∧
         H' =
         [AObj.mp (MM.typed T.EK es), AObj.cells [.map 0],
         AObj.cells [.ptr 1 0, .sl 2 (.map T.encN ([], []) root) .none, .sl 2 (.map T.encPk T.noPk l) .none],
         AObj.cells [.str { data := List.toArray (Prod.fst n) }, AV.sl 2 (.map T.encS ((0 : Int), (0 : Int)) (Prod.snd n)) .none]] ∧
         Post (.bool x)
         [AObj.mp (MM.typed T.EK es), AObj.cells [.map 0],
         AObj.cells [.ptr 1 0, .sl 2 (.map T.encN ([], []) root) .none, .sl 2 (.map T.encPk T.noPk l) .none],
         AObj.cells [.str { data := List.toArray (Prod.fst n) }, AV.sl 2 (.map T.encS ((0 : Int), (0 : Int)) (Prod.snd n)) .none]])
         (Post (.bool false)
         [AObj.mp (MM.typed T.EK es), AObj.cells [.map 0],
         AObj.cells [.ptr 1 0, .sl 2 (.map T.encN ([], []) root) .none, .sl 2 (.map T.encPk T.noPk l) .none],
         AObj.cells [.str { data := List.toArray (Prod.fst n) }, AV.sl 2 (.map T.encS ((0 : Int), (0 : Int)) (Prod.snd n)) .none]])) →
    ASpec Tryz.prog 65 [.ptr 2 0, .agg (T.encN n)] (T.HF es root l) Post := fun es root l n Post h => Go.Ab.ASpec.of_vc g65 Go.Proofs.Tryz.func65 (by kernel_rfl) (by kernel_rfl) (by kernel_rfl) (Go.Ab.kc (by kernel_rfl) h)

-- 34
noncomputable def l34 : Nat → List Nat
  | _ => []
noncomputable def u34 : Nat → Bool
  | _ => false
noncomputable def m34 : Nat → Bool
  | _ => false
noncomputable def g34 : Cfg := { N := 10, live := l34, cut := u34, mu := m34, ret := rets }
theorem s34 : ∀ (es : T.Kn) (root : List T.Need) (l : List T.Pk) (Post : AV → List AObj → Prop),
  (ASpec Tryz.prog 64 [.sl 2 (.map T.encPk T.noPk l) .none]
      [AObj.mp (MM.typed T.EK es), AObj.cells [.map 0],
        AObj.cells [.ptr 1 0, .sl 2 (.map T.encN ([], []) root) .none, .sl 2 (.map T.encPk T.noPk l) .none]]
      fun (r : AV) (H' : List AObj) =>
      ∃ (x : Bool),
        r = AV.bool x ∧
         H' =
         [AObj.mp (MM.typed T.EK es), AObj.cells [.map 0],
         AObj.cells [.ptr 1 0, .sl 2 (.map T.encN ([], []) root) .none, .sl 2 (.map T.encPk T.noPk l) .none]] ∧
         Post (.tup [.str { data := #[] }, AV.bool !x])
         [AObj.mp (MM.typed T.EK es), AObj.cells [.map 0],
         AObj.cells [.ptr 1 0, .sl 2 (.map T.encN ([], []) root) .none, .sl 2 (.map T.encPk T.noPk l) .none]]) →
    ASpec Tryz.prog 34 [.ptr 2 0] (T.HF es root l) Post := fun es root l Post h => Go.Ab.ASpec.of_vc g34 Go.Proofs.Tryz.func34 (by kernel_rfl) (by kernel_rfl) (by kernel_rfl) (Go.Ab.kc (by kernel_rfl) h)

-- 35
noncomputable def l35 : Nat → List Nat
  | 2 => [0, 9, 10, 11]
  | _ => []
noncomputable def u35 : Nat → Bool
  | _ => false
noncomputable def m35 : Nat → Bool
  | _ => false
noncomputable def g35 : Cfg := { N := 22, live := l35, cut := u35, mu := m35, ret := rets }
noncomputable def c35 : Go.Code := Go.Ab.bodyOf Go.Proofs.Tryz.f35
noncomputable def q35_0 : Nat → (AV → List AObj → Prop) → AQ := fun (n : Nat) (Post : AV → List AObj → Prop) => endQ Tryz.prog (resultsOf Tryz.f35) Post
noncomputable def q35_1 : Nat → (AV → List AObj → Prop) → AQ := fun (n : Nat) (Post : AV → List AObj → Prop) => seqQ (fun (s' : Slots) (H' : List AObj) => awp Tryz.prog g35 n (codeSnd (codeSnd c35)) s' H' (q35_0 n Post)) (q35_0 n Post)
noncomputable def q35_2 : Nat → (AV → List AObj → Prop) → AQ := fun (n : Nat) (Post : AV → List AObj → Prop) => blockQ 0 (q35_1 n Post)
noncomputable def c35_2 : Go.Code := codeFst (codeSnd (codeFst (codeSnd c35)))
theorem s35 : ∀ (es : T.Kn) (root : List T.Need) (l : List T.Pk) (Post : AV → List AObj → Prop),
  AWP Tryz.prog 22 3 c35_2
      [(0, .ptr 2 0), (9, .sl 2 (.map T.encN ([], []) root) .none), (10, .int .i64 (↑(List.length root) : Int)),
        (11, .int .i64 (0 : Int))]
      [AObj.mp (MM.typed T.EK es), AObj.cells [.map 0],
        AObj.cells [.ptr 1 0, .sl 2 (.map T.encN ([], []) root) .none, .sl 2 (.map T.encPk T.noPk l) .none]]
      (q35_2 3 Post) →
    ASpec Tryz.prog 35 [.ptr 2 0] (T.HF es root l) Post := fun es root l Post h => Go.Ab.ASpec.of_vc g35 Go.Proofs.Tryz.func35 (by kernel_rfl) (by kernel_rfl) (by kernel_rfl) (Go.Ab.kc (by kernel_rfl) h)
theorem v35_2 : ∀ (es : T.Kn) (root : List T.Need) (l : List T.Pk) (n i : Int) (n_1 : Nat) (Post : AV → List AObj → Prop),
  condP (decide (i < n))
      (needP ((0 : Int) ≤ i ∧ i < (↑(List.length root) : Int))
        (ASpec Tryz.prog 65
         [AV.ptr 2 0,
         AV.agg
         [.str { data := List.toArray (Prod.fst (List.getD root (Int.toNat i) ([], []))) },
         AV.sl 2 (.map T.encS ((0 : Int), (0 : Int)) (Prod.snd (List.getD root (Int.toNat i) ([], [])))) .none]]
         [AObj.mp (MM.typed T.EK es), AObj.cells [.map 0],
         AObj.cells [.ptr 1 0, .sl 2 (.map T.encN ([], []) root) .none, .sl 2 (.map T.encPk T.noPk l) .none],
         AObj.cells
         [.str { data := List.toArray (Prod.fst (List.getD root (Int.toNat i) ([], []))) },
         AV.sl 2 (.map T.encS ((0 : Int), (0 : Int)) (Prod.snd (List.getD root (Int.toNat i) ([], [])))) .none]]
         fun (r : AV) (H' : List AObj) =>
         ∃ (x : Bool),
         r = AV.bool x ∧
         H' =
         [AObj.mp (MM.typed T.EK es), AObj.cells [.map 0],
         AObj.cells [.ptr 1 0, .sl 2 (.map T.encN ([], []) root) .none, .sl 2 (.map T.encPk T.noPk l) .none],
         AObj.cells
         [.str { data := List.toArray (Prod.fst (List.getD root (Int.toNat i) ([], []))) },
         AV.sl 2 (.map T.encS ((0 : Int), (0 : Int)) (Prod.snd (List.getD root (Int.toNat i) ([], [])))) .none]] ∧
         condP (!x)
         (Post (.tup [.str { data := List.toArray (Prod.fst (List.getD root (Int.toNat i) ([], []))) }, AV.bool true])
         [AObj.mp (MM.typed T.EK es), AObj.cells [.map 0],
         AObj.cells [.ptr 1 0, .sl 2 (.map T.encN ([], []) root) .none, .sl 2 (.map T.encPk T.noPk l) .none],
         AObj.cells
         [.str { data := List.toArray (Prod.fst (List.getD root (Int.toNat i) ([], []))) },
         AV.sl 2 (.map T.encS ((0 : Int), (0 : Int)) (Prod.snd (List.getD root (Int.toNat i) ([], [])))) .none]])
         (AWP Tryz.prog 22 n_1 c35_2
         [(0, .ptr 2 0), (9, .sl 2 (.map T.encN ([], []) root) .none), (10, .int .i64 n),
         (11, .int .i64 (IntKind.wrap .i64 (i + (1 : Int))))]
         [AObj.mp (MM.typed T.EK es), AObj.cells [.map 0],
         AObj.cells [.ptr 1 0, .sl 2 (.map T.encN ([], []) root) .none, .sl 2 (.map T.encPk T.noPk l) .none],
         AObj.cells
         [.str { data := List.toArray (Prod.fst (List.getD root (Int.toNat i) ([], []))) },
         AV.sl 2 (.map T.encS ((0 : Int), (0 : Int)) (Prod.snd (List.getD root (Int.toNat i) ([], [])))) .none]]
         (q35_2 n_1 Post))))
      (Post (.tup [.str { data := #[] }, AV.bool false])
        [AObj.mp (MM.typed T.EK es), AObj.cells [.map 0],
         AObj.cells [.ptr 1 0, .sl 2 (.map T.encN ([], []) root) .none, .sl 2 (.map T.encPk T.noPk l) .none]]) →
    AWP Tryz.prog 22 n_1 c35_2
      [(0, .ptr 2 0), (9, .sl 2 (.map T.encN ([], []) root) .none), (10, .int .i64 n), (11, .int .i64 i)]
      (T.HF es root l) (q35_2 n_1 Post) := fun es root l n i n Post h => Go.Ab.AWP.loop' g35 (Cfg.live g35) c35_2 (by kernel_rfl) (by kernel_rfl) (Go.Ab.kc (by kernel_rfl) h)

-- 36
noncomputable def l36 : Nat → List Nat
  | _ => []
noncomputable def u36 : Nat → Bool
  | _ => false
noncomputable def m36 : Nat → Bool
  | _ => false
noncomputable def g36 : Cfg := { N := 9, live := l36, cut := u36, mu := m36, ret := rets }
theorem s36 : ∀ (es : T.Kn) (root : List T.Need) (l : List T.Pk) (Post : AV → List AObj → Prop),
  (ASpec Tryz.prog 66 [.ptr 2 0, .fn 67 [.ptr 3 0]]
      [AObj.mp (MM.typed T.EK es), AObj.cells [.map 0],
        AObj.cells [.ptr 1 0, .sl 2 (.map T.encN ([], []) root) .none, .sl 2 (.map T.encPk T.noPk l) .none], AObj.cells [.ptr 2 0]]
      fun (r : AV) (H' : List AObj) =>
      ∃ (x : ByteArray × Bool),
        r = AV.tup [.str (Prod.fst x), .bool (Prod.snd x)] ∧
         H' =
         [AObj.mp (MM.typed T.EK es), AObj.cells [.map 0],
         AObj.cells [.ptr 1 0, .sl 2 (.map T.encN ([], []) root) .none, .sl 2 (.map T.encPk T.noPk l) .none],
         AObj.cells [.ptr 2 0]] ∧
         Post (.tup [.str (Prod.fst x), .bool (Prod.snd x)])
         [AObj.mp (MM.typed T.EK es), AObj.cells [.map 0],
         AObj.cells [.ptr 1 0, .sl 2 (.map T.encN ([], []) root) .none, .sl 2 (.map T.encPk T.noPk l) .none],
         AObj.cells [.ptr 2 0]]) →
    ASpec Tryz.prog 36 [.ptr 2 0] (T.HF es root l) Post := fun es root l Post h => Go.Ab.ASpec.of_vc g36 Go.Proofs.Tryz.func36 (by kernel_rfl) (by kernel_rfl) (by kernel_rfl) (Go.Ab.kc (by kernel_rfl) h)

-- 37
noncomputable def l37 : Nat → List Nat
  | _ => []
noncomputable def u37 : Nat → Bool
  | _ => false
noncomputable def m37 : Nat → Bool
  | _ => false
noncomputable def g37 : Cfg := { N := 9, live := l37, cut := u37, mu := m37, ret := rets }
theorem s37 : ∀ (es : T.Kn) (root : List T.Need) (l : List T.Pk) (Post : AV → List AObj → Prop),
  (ASpec Tryz.prog 66 [.ptr 2 0, .fn 68 [.ptr 3 0]]
      [AObj.mp (MM.typed T.EK es), AObj.cells [.map 0],
        AObj.cells [.ptr 1 0, .sl 2 (.map T.encN ([], []) root) .none, .sl 2 (.map T.encPk T.noPk l) .none], AObj.cells [.ptr 2 0]]
      fun (r : AV) (H' : List AObj) =>
      ∃ (x : ByteArray × Bool),
        r = AV.tup [.str (Prod.fst x), .bool (Prod.snd x)] ∧
         H' =
         [AObj.mp (MM.typed T.EK es), AObj.cells [.map 0],
         AObj.cells [.ptr 1 0, .sl 2 (.map T.encN ([], []) root) .none, .sl 2 (.map T.encPk T.noPk l) .none],
         AObj.cells [.ptr 2 0]] ∧
         Post (.tup [.str (Prod.fst x), .bool (Prod.snd x)])
         [AObj.mp (MM.typed T.EK es), AObj.cells [.map 0],
         AObj.cells [.ptr 1 0, .sl 2 (.map T.encN ([], []) root) .none, .sl 2 (.map T.encPk T.noPk l) .none],
         AObj.cells [.ptr 2 0]]) →
    ASpec Tryz.prog 37 [.ptr 2 0] (T.HF es root l) Post := fun es root l Post h => Go.Ab.ASpec.of_vc g37 Go.Proofs.Tryz.func37 (by kernel_rfl) (by kernel_rfl) (by kernel_rfl) (Go.Ab.kc (by kernel_rfl) h)

-- 38
noncomputable def l38 : Nat → List Nat
  | _ => []
noncomputable def u38 : Nat → Bool
  | _ => false
noncomputable def m38 : Nat → Bool
  | _ => false
noncomputable def g38 : Cfg := { N := 23, live := l38, cut := u38, mu := m38, ret := rets }
theorem s38 : ∀ (es : T.Kn) (root : List T.Need) (l : List T.Pk) (Post : AV → List AObj → Prop),
  (ASpec Tryz.prog 17 [.ptr 1 0, .sl 2 (.map T.encN ([], []) root) .none, .sl 2 (.map T.encPk T.noPk l) .none]
      [AObj.mp (MM.typed T.EK es), AObj.cells [.map 0],
        AObj.cells [.ptr 1 0, .sl 2 (.map T.encN ([], []) root) .none, .sl 2 (.map T.encPk T.noPk l) .none]]
      fun (r : AV) (H' : List AObj) =>
      ∃ (x : List (List UInt8)),
        r = AV.sl 1 (.map T.encL [] x) .none ∧
         H' =
         [AObj.mp (MM.typed T.EK es), AObj.cells [.map 0],
         AObj.cells [.ptr 1 0, .sl 2 (.map T.encN ([], []) root) .none, .sl 2 (.map T.encPk T.noPk l) .none]] ∧
         (AV.sl 2 (.map T.encPk T.noPk l) .none = AV.sl 2 (.map T.encPk T.noPk l) .none ∧
         [AObj.mp (MM.typed T.EK es), AObj.cells [.map 0],
         AObj.cells [.ptr 1 0, .sl 2 (.map T.encN ([], []) root) .none, .sl 2 (.map T.encPk T.noPk l) .none],
         AObj.cells [.sl 0 (.raw []) .nil]] =
         [AObj.mp (MM.typed T.EK es), AObj.cells [.map 0],
         AObj.cells [.ptr 1 0, .sl 2 (.map T.encN ([], []) root) .none, .sl 2 (.map T.encPk T.noPk l) .none],
         AObj.cells [.sl 0 (.raw []) .nil]]) ∧
         (AV.sl 2 (.map T.encN ([], []) root) .none = AV.sl 2 (.map T.encN ([], []) root) .none ∧
         [AObj.mp (MM.typed T.EK es), AObj.cells [.map 0],
         AObj.cells [.ptr 1 0, .sl 2 (.map T.encN ([], []) root) .none, .sl 2 (.map T.encPk T.noPk l) .none],
         AObj.cells [.sl 0 (.raw []) .nil]] =
         [AObj.mp (MM.typed T.EK es), AObj.cells [.map 0],
         AObj.cells [.ptr 1 0, .sl 2 (.map T.encN ([], []) root) .none, .sl 2 (.map T.encPk T.noPk l) .none],
         AObj.cells [.sl 0 (.raw []) .nil]]) ∧
         (AV.ptr 1 0 = AV.ptr 1 0 ∧
         [AObj.mp (MM.typed T.EK es), AObj.cells [.map 0],
         AObj.cells [.ptr 1 0, .sl 2 (.map T.encN ([], []) root) .none, .sl 2 (.map T.encPk T.noPk l) .none],
         AObj.cells [.sl 0 (.raw []) .nil]] =
         [AObj.mp (MM.typed T.EK es), AObj.cells [.map 0],
         AObj.cells [.ptr 1 0, .sl 2 (.map T.encN ([], []) root) .none, .sl 2 (.map T.encPk T.noPk l) .none],
         AObj.cells [.sl 0 (.raw []) .nil]]) ∧
         ASpec Tryz.prog 66 [.ptr 2 0, .fn 71 [.ptr 3 0]]
         [AObj.mp (MM.typed T.EK es), AObj.cells [.map 0],
         AObj.cells [.ptr 1 0, .sl 2 (.map T.encN ([], []) root) .none, .sl 2 (.map T.encPk T.noPk l) .none],
         AObj.cells [.sl 1 (.map T.encL [] x) .none]]
         fun (r : AV) (H' : List AObj) =>
         ∃ (x_1 : ByteArray × Bool),
         r = AV.tup [.str (Prod.fst x_1), .bool (Prod.snd x_1)] ∧
         H' =
         [AObj.mp (MM.typed T.EK es), AObj.cells [.map 0],
         AObj.cells [.ptr 1 0, .sl 2 (.map T.encN ([], []) root) .none, .sl 2 (.map T.encPk T.noPk l) .none],
         AObj.cells [.sl 1 (.map T.encL [] x) .none]] ∧
         Post (.tup [.str (Prod.fst x_1), .bool (Prod.snd x_1)])
         [AObj.mp (MM.typed T.EK es), AObj.cells [.map 0],
         AObj.cells [.ptr 1 0, .sl 2 (.map T.encN ([], []) root) .none, .sl 2 (.map T.encPk T.noPk l) .none],
         AObj.cells [.sl 1 (.map T.encL [] x) .none]]) →
    ASpec Tryz.prog 38 [.ptr 2 0] (T.HF es root l) Post := fun es root l Post h => Go.Ab.ASpec.of_vc g38 Go.Proofs.Tryz.func38 (by kernel_rfl) (by kernel_rfl) (by kernel_rfl) (Go.Ab.kc (by kernel_rfl) h)

-- 67
noncomputable def l67 : Nat → List Nat
  | _ => []
noncomputable def u67 : Nat → Bool
  | _ => false
noncomputable def m67 : Nat → Bool
  | _ => false
noncomputable def g67 : Cfg := { N := 14, live := l67, cut := u67, mu := m67, ret := rets }
theorem s67 : ∀ (es : T.Kn) (root : List T.Need) (l : List T.Pk) (p : T.Pk) (Post : AV → List AObj → Prop),
  (ASpec Tryz.prog 44 [.ptr 2 0, .agg [.str { data := List.toArray (Prod.fst p) }, AV.int .i64 (Prod.snd p)]]
      [AObj.mp (MM.typed T.EK es), AObj.cells [.map 0],
        AObj.cells [.ptr 1 0, .sl 2 (.map T.encN ([], []) root) .none, .sl 2 (.map T.encPk T.noPk l) .none], AObj.cells [.ptr 2 0],
        AObj.cells [.str { data := List.toArray (Prod.fst p) }, AV.int .i64 (Prod.snd p)]]
      fun (r : AV) (H' : List AObj) =>
      ∃ (x : T.Rel × Bool),
        r = AV.tup [.agg [.int .i64 (Prod.fst (Prod.fst x)), .sl 2 (.map T.encN ([], []) (Prod.snd (Prod.fst x))) .none], .bool (Prod.snd x)] ∧
         H' =
         [AObj.mp (MM.typed T.EK es), AObj.cells [.map 0],
         AObj.cells [.ptr 1 0, .sl 2 (.map T.encN ([], []) root) .none, .sl 2 (.map T.encPk T.noPk l) .none],
         AObj.cells [.ptr 2 0], AObj.cells [.str { data := List.toArray (Prod.fst p) }, AV.int .i64 (Prod.snd p)]] ∧
         Post (.bool !Prod.snd x)
         [AObj.mp (MM.typed T.EK es), AObj.cells [.map 0],
         AObj.cells [.ptr 1 0, .sl 2 (.map T.encN ([], []) root) .none, .sl 2 (.map T.encPk T.noPk l) .none],
         AObj.cells [.ptr 2 0], AObj.cells [.str { data := List.toArray (Prod.fst p) }, AV.int .i64 (Prod.snd p)],
         AObj.cells [AV.int .i64 (Prod.fst (Prod.fst x)), .sl 2 (.map T.encN ([], []) (Prod.snd (Prod.fst x))) .none]]) →
    ASpec Tryz.prog 67 [.agg (T.encPk p), .ptr 3 0] (T.HF es root l ++ [AObj.cells [.ptr 2 0]]) Post := fun es root l p Post h => Go.Ab.ASpec.of_vc g67 Go.Proofs.Tryz.func67 (by kernel_rfl) (by kernel_rfl) (by kernel_rfl) (Go.Ab.kc (by kernel_rfl) h)

-- 68
noncomputable def l68 : Nat → List Nat
  | _ => []
noncomputable def u68 : Nat → Bool
  | _ => false
noncomputable def m68 : Nat → Bool
  | _ => false
noncomputable def g68 : Cfg := { N := 16, live := l68, cut := u68, mu := m68, ret := rets }
theorem s68 : ∀ (es : T.Kn) (root : List T.Need) (l : List T.Pk) (p : T.Pk) (Post : AV → List AObj → Prop),
  (ASpec Tryz.prog 44 [.ptr 2 0, .agg [.str { data := List.toArray (Prod.fst p) }, AV.int .i64 (Prod.snd p)]]
      [AObj.mp (MM.typed T.EK es), AObj.cells [.map 0],
        AObj.cells [.ptr 1 0, .sl 2 (.map T.encN ([], []) root) .none, .sl 2 (.map T.encPk T.noPk l) .none], AObj.cells [.ptr 2 0],
        AObj.cells [.str { data := List.toArray (Prod.fst p) }, AV.int .i64 (Prod.snd p)]]
      fun (r : AV) (H' : List AObj) =>
      ∃ (x : T.Rel × Bool),
        r = AV.tup [.agg [.int .i64 (Prod.fst (Prod.fst x)), .sl 2 (.map T.encN ([], []) (Prod.snd (Prod.fst x))) .none], .bool (Prod.snd x)] ∧
         H' =
         [AObj.mp (MM.typed T.EK es), AObj.cells [.map 0],
         AObj.cells [.ptr 1 0, .sl 2 (.map T.encN ([], []) root) .none, .sl 2 (.map T.encPk T.noPk l) .none],
         AObj.cells [.ptr 2 0], AObj.cells [.str { data := List.toArray (Prod.fst p) }, AV.int .i64 (Prod.snd p)]] ∧
         ASpec Tryz.prog 69 [.sl 2 (.map T.encN ([], []) (Prod.snd (Prod.fst x))) .none, .fn 70 [.ptr 3 0]]
         [AObj.mp (MM.typed T.EK es), AObj.cells [.map 0],
         AObj.cells [.ptr 1 0, .sl 2 (.map T.encN ([], []) root) .none, .sl 2 (.map T.encPk T.noPk l) .none],
         AObj.cells [.ptr 2 0], AObj.cells [.str { data := List.toArray (Prod.fst p) }, AV.int .i64 (Prod.snd p)],
         AObj.cells [AV.int .i64 (Prod.fst (Prod.fst x)), .sl 2 (.map T.encN ([], []) (Prod.snd (Prod.fst x))) .none]]
         fun (r : AV) (H' : List AObj) =>
         ∃ (x_1 : Bool),
         r = AV.bool x_1 ∧
         H' =
         [AObj.mp (MM.typed T.EK es), AObj.cells [.map 0],
         AObj.cells [.ptr 1 0, .sl 2 (.map T.encN ([], []) root) .none, .sl 2 (.map T.encPk T.noPk l) .none],
         AObj.cells [.ptr 2 0], AObj.cells [.str { data := List.toArray (Prod.fst p) }, AV.int .i64 (Prod.snd p)],
         AObj.cells [AV.int .i64 (Prod.fst (Prod.fst x)), .sl 2 (.map T.encN ([], []) (Prod.snd (Prod.fst x))) .none]] ∧
         Post (.bool x_1)
         [AObj.mp (MM.typed T.EK es), AObj.cells [.map 0],
         AObj.cells [.ptr 1 0, .sl 2 (.map T.encN ([], []) root) .none, .sl 2 (.map T.encPk T.noPk l) .none],
         AObj.cells [.ptr 2 0], AObj.cells [.str { data := List.toArray (Prod.fst p) }, AV.int .i64 (Prod.snd p)],
         AObj.cells [AV.int .i64 (Prod.fst (Prod.fst x)), .sl 2 (.map T.encN ([], []) (Prod.snd (Prod.fst x))) .none]]) →
    ASpec Tryz.prog 68 [.agg (T.encPk p), .ptr 3 0] (T.HF es root l ++ [AObj.cells [.ptr 2 0]]) Post := fun es root l p Post h => Go.Ab.ASpec.of_vc g68 Go.Proofs.Tryz.func68 (by kernel_rfl) (by kernel_rfl) (by kernel_rfl) (Go.Ab.kc (by kernel_rfl) h)

-- 70
noncomputable def l70 : Nat → List Nat
  | _ => []
noncomputable def u70 : Nat → Bool
  | _ => false
noncomputable def m70 : Nat → Bool
  | _ => false
noncomputable def g70 : Cfg := { N := 8, live := l70, cut := u70, mu := m70, ret := rets }
theorem s70 : ∀ (es : T.Kn) (root : List T.Need) (l : List T.Pk) (n : T.Need) (Post : AV → List AObj → Prop),
  (ASpec Tryz.prog 65 [.ptr 2 0, .agg [.str { data := List.toArray (Prod.fst n) }, AV.sl 2 (.map T.encS ((0 : Int), (0 : Int)) (Prod.snd n)) .none]]
      [AObj.mp (MM.typed T.EK es), AObj.cells [.map 0],
        AObj.cells [.ptr 1 0, .sl 2 (.map T.encN ([], []) root) .none, .sl 2 (.map T.encPk T.noPk l) .none], AObj.cells [.ptr 2 0],
        AObj.cells [.str { data := List.toArray (Prod.fst n) }, AV.sl 2 (.map T.encS ((0 : Int), (0 : Int)) (Prod.snd n)) .none]]
      fun (r : AV) (H' : List AObj) =>
      ∃ (x : Bool),
        r = AV.bool x ∧
         H' =
         [AObj.mp (MM.typed T.EK es), AObj.cells [.map 0],
         AObj.cells [.ptr 1 0, .sl 2 (.map T.encN ([], []) root) .none, .sl 2 (.map T.encPk T.noPk l) .none],
         AObj.cells [.ptr 2 0], AObj.cells [.str { data := List.toArray (Prod.fst n) }, AV.sl 2 (.map T.encS ((0 : Int), (0 : Int)) (Prod.snd n)) .none]] ∧
         Post (.bool !x)
         [AObj.mp (MM.typed T.EK es), AObj.cells [.map 0],
         AObj.cells [.ptr 1 0, .sl 2 (.map T.encN ([], []) root) .none, .sl 2 (.map T.encPk T.noPk l) .none],
         AObj.cells [.ptr 2 0], AObj.cells [.str { data := List.toArray (Prod.fst n) }, AV.sl 2 (.map T.encS ((0 : Int), (0 : Int)) (Prod.snd n)) .none]]) →
    ASpec Tryz.prog 70 [.agg (T.encN n), .ptr 3 0] (T.HF es root l ++ [AObj.cells [.ptr 2 0]]) Post := fun es root l n Post h => Go.Ab.ASpec.of_vc g70 Go.Proofs.Tryz.func70 (by kernel_rfl) (by kernel_rfl) (by kernel_rfl) (Go.Ab.kc (by kernel_rfl) h)

-- 71
noncomputable def l71 : Nat → List Nat
  | _ => []
noncomputable def u71 : Nat → Bool
  | _ => false
noncomputable def m71 : Nat → Bool
  | _ => false
noncomputable def g71 : Cfg := { N := 9, live := l71, cut := u71, mu := m71, ret := rets }
theorem s71 : ∀ (es : T.Kn) (root : List T.Need) (l : List T.Pk) (q : List (List UInt8)) (p : T.Pk) (Post : AV → List AObj → Prop),
  (ASpec Tryz.prog 72 [.sl 1 (.map T.encL [] q) .none, .str { data := List.toArray (Prod.fst p) }]
      [AObj.mp (MM.typed T.EK es), AObj.cells [AV.map 0],
        AObj.cells [.ptr 1 0, .sl 2 (.map T.encN ([], []) root) .none, .sl 2 (.map T.encPk T.noPk l) .none],
        AObj.cells [.sl 1 (.map T.encL [] q) .none], AObj.cells [.str { data := List.toArray (Prod.fst p) }, AV.int .i64 (Prod.snd p)]]
      fun (r : AV) (H' : List AObj) =>
      ∃ (x : Bool),
        r = AV.bool x ∧
         H' =
         [AObj.mp (MM.typed T.EK es), AObj.cells [.map 0],
         AObj.cells [.ptr 1 0, .sl 2 (.map T.encN ([], []) root) .none, .sl 2 (.map T.encPk T.noPk l) .none],
         AObj.cells [.sl 1 (.map T.encL [] q) .none], AObj.cells [.str { data := List.toArray (Prod.fst p) }, AV.int .i64 (Prod.snd p)]] ∧
         Post (.bool !x)
         [AObj.mp (MM.typed T.EK es), AObj.cells [.map 0],
         AObj.cells [.ptr 1 0, .sl 2 (.map T.encN ([], []) root) .none, .sl 2 (.map T.encPk T.noPk l) .none],
         AObj.cells [.sl 1 (.map T.encL [] q) .none], AObj.cells [.str { data := List.toArray (Prod.fst p) }, AV.int .i64 (Prod.snd p)]]) →
    ASpec Tryz.prog 71 [.agg (T.encPk p), .ptr 3 0] (T.HF es root l ++ [AObj.cells [.sl 1 (.map T.encL [] q) .none]]) Post := fun es root l q p Post h => Go.Ab.ASpec.of_vc g71 Go.Proofs.Tryz.func71 (by kernel_rfl) (by kernel_rfl) (by kernel_rfl) (Go.Ab.kc (by kernel_rfl) h)

-- 69
noncomputable def l69 : Nat → List Nat
  | _ => []
noncomputable def u69 : Nat → Bool
  | _ => false
noncomputable def m69 : Nat → Bool
  | _ => false
noncomputable def g69 : Cfg := { N := 9, live := l69, cut := u69, mu := m69, ret := rets }
theorem s69 : ∀ (es : T.Kn) (root : List T.Need) (l : List T.Pk) (ns : List T.Need) (Post : AV → List AObj → Prop),
  (ASpec Tryz.prog 99 [.sl 2 (.map T.encN ([], []) ns) .none, .fn (70 : FuncId) [.ptr 3 0]]
      [AObj.mp (MM.typed T.EK es), AObj.cells [.map 0],
        AObj.cells [.ptr 1 0, .sl 2 (.map T.encN ([], []) root) .none, .sl 2 (.map T.encPk T.noPk l) .none], AObj.cells [.ptr 2 0]]
      fun (r : AV) (H' : List AObj) =>
      ∃ (x : Int),
        r = AV.int .i64 x ∧
         H' =
         [AObj.mp (MM.typed T.EK es), AObj.cells [.map 0],
         AObj.cells [.ptr 1 0, .sl 2 (.map T.encN ([], []) root) .none, .sl 2 (.map T.encPk T.noPk l) .none],
         AObj.cells [.ptr 2 0]] ∧
         Post (.bool (decide (x ≥ (0 : Int))))
         [AObj.mp (MM.typed T.EK es), AObj.cells [.map 0],
         AObj.cells [.ptr 1 0, .sl 2 (.map T.encN ([], []) root) .none, .sl 2 (.map T.encPk T.noPk l) .none],
         AObj.cells [.ptr 2 0]]) →
    ASpec Tryz.prog 69 [.sl 2 (.map T.encN ([], []) ns) .none, .fn (70 : FuncId) [.ptr 3 0]] (T.HF es root l ++ [AObj.cells [.ptr 2 0]])
      Post := fun es root l ns Post h => Go.Ab.ASpec.of_vc g69 Go.Proofs.Tryz.func69 (by kernel_rfl) (by kernel_rfl) (by kernel_rfl) (Go.Ab.kc (by kernel_rfl) h)

-- 99
noncomputable def l99 : Nat → List Nat
  | 2 => [0, 1, 7, 8]
  | _ => []
noncomputable def u99 : Nat → Bool
  | _ => false
noncomputable def m99 : Nat → Bool
  | _ => false
noncomputable def g99 : Cfg := { N := 19, live := l99, cut := u99, mu := m99, ret := rets }
noncomputable def c99 : Go.Code := Go.Ab.bodyOf Go.Proofs.Tryz.f99
noncomputable def q99_0 : Nat → (AV → List AObj → Prop) → AQ := fun (n : Nat) (Post : AV → List AObj → Prop) => endQ Tryz.prog (resultsOf Tryz.f99) Post
noncomputable def q99_1 : Nat → (AV → List AObj → Prop) → AQ := fun (n : Nat) (Post : AV → List AObj → Prop) => seqQ (fun (s' : Slots) (H' : List AObj) => awp Tryz.prog g99 n (codeSnd (codeSnd c99)) s' H' (q99_0 n Post)) (q99_0 n Post)
noncomputable def q99_2 : Nat → (AV → List AObj → Prop) → AQ := fun (n : Nat) (Post : AV → List AObj → Prop) => blockQ 0 (q99_1 n Post)
noncomputable def c99_2 : Go.Code := codeFst (codeSnd (codeFst (codeSnd c99)))
theorem s99 : ∀ (es : T.Kn) (root : List T.Need) (l : List T.Pk) (ns : List T.Need) (Post : AV → List AObj → Prop),
  AWP Tryz.prog 19 4 c99_2
      [(0, .sl 2 (.map T.encN ([], []) ns) .none), (1, .fn (70 : FuncId) [.ptr 3 0]), (7, .int .i64 (↑(List.length ns) : Int)),
        (8, .int .i64 (0 : Int))]
      [AObj.mp (MM.typed T.EK es), AObj.cells [.map 0],
        AObj.cells [.ptr 1 0, .sl 2 (.map T.encN ([], []) root) .none, .sl 2 (.map T.encPk T.noPk l) .none], AObj.cells [.ptr 2 0]]
      (q99_2 4 Post) →
    ASpec Tryz.prog 99 [.sl 2 (.map T.encN ([], []) ns) .none, .fn (70 : FuncId) [.ptr 3 0]] (T.HF es root l ++ [AObj.cells [.ptr 2 0]])
      Post := fun es root l ns Post h => Go.Ab.ASpec.of_vc g99 Go.Proofs.Tryz.func99 (by kernel_rfl) (by kernel_rfl) (by kernel_rfl) (Go.Ab.kc (by kernel_rfl) h)
theorem v99_2 : ∀ (es : T.Kn) (root : List T.Need) (l : List T.Pk) (ns : List T.Need) (n i : Int) (n_1 : Nat) (Post : AV → List AObj → Prop),
  condP (decide (i < n))
      (needP ((0 : Int) ≤ i ∧ i < (↑(List.length ns) : Int))
        (ASpec Tryz.prog 70
         [AV.agg
         [AV.str { data := List.toArray (Prod.fst (List.getD ns (Int.toNat i) ([], []))) },
         AV.sl 2 (.map T.encS ((0 : Int), (0 : Int)) (Prod.snd (List.getD ns (Int.toNat i) ([], [])))) .none],
         AV.ptr 3 0]
         [AObj.mp (MM.typed T.EK es), AObj.cells [.map 0],
         AObj.cells [.ptr 1 0, .sl 2 (.map T.encN ([], []) root) .none, .sl 2 (.map T.encPk T.noPk l) .none],
         AObj.cells [.ptr 2 0]]
         fun (r : AV) (H' : List AObj) =>
         ∃ (x : Bool),
         r = AV.bool x ∧
         H' =
         [AObj.mp (MM.typed T.EK es), AObj.cells [.map 0],
         AObj.cells [.ptr 1 0, .sl 2 (.map T.encN ([], []) root) .none, .sl 2 (.map T.encPk T.noPk l) .none],
         AObj.cells [.ptr 2 0]] ∧
         condP x
         (Post (.int .i64 i)
         [AObj.mp (MM.typed T.EK es), AObj.cells [.map 0],
         AObj.cells [.ptr 1 0, .sl 2 (.map T.encN ([], []) root) .none, .sl 2 (.map T.encPk T.noPk l) .none],
         AObj.cells [.ptr 2 0]])
         (AWP Tryz.prog 19 n_1 c99_2
         [(0, .sl 2 (.map T.encN ([], []) ns) .none), (1, .fn (70 : FuncId) [.ptr 3 0]), (7, .int .i64 n),
         (8, .int .i64 (IntKind.wrap .i64 (i + (1 : Int))))]
         [AObj.mp (MM.typed T.EK es), AObj.cells [.map 0],
         AObj.cells [.ptr 1 0, .sl 2 (.map T.encN ([], []) root) .none, .sl 2 (.map T.encPk T.noPk l) .none],
         AObj.cells [.ptr 2 0]]
         (q99_2 n_1 Post))))
      (Post (.int .i64 (-1 : Int))
        [AObj.mp (MM.typed T.EK es), AObj.cells [.map 0],
         AObj.cells [.ptr 1 0, .sl 2 (.map T.encN ([], []) root) .none, .sl 2 (.map T.encPk T.noPk l) .none],
         AObj.cells [.ptr 2 0]]) →
    AWP Tryz.prog 19 n_1 c99_2
      [(0, .sl 2 (.map T.encN ([], []) ns) .none), (1, .fn (70 : FuncId) [.ptr 3 0]), (7, .int .i64 n),
        (8, .int .i64 i)]
      (T.HF es root l ++ [AObj.cells [.ptr 2 0]]) (q99_2 n_1 Post) := fun es root l ns n i n Post h => Go.Ab.AWP.loop' g99 (Cfg.live g99) c99_2 (by kernel_rfl) (by kernel_rfl) (Go.Ab.kc (by kernel_rfl) h)

-- 66
noncomputable def l66 : Nat → List Nat
  | _ => []
noncomputable def u66 : Nat → Bool
  | _ => false
noncomputable def m66 : Nat → Bool
  | _ => false
noncomputable def g66 : Cfg := { N := 23, live := l66, cut := u66, mu := m66, ret := rets }
theorem s66a : ∀ (es : T.Kn) (root : List T.Need) (l : List T.Pk) (Post : AV → List AObj → Prop),
  (ASpec Tryz.prog 98 [.sl 2 (.map T.encPk T.noPk l) .none, .fn (67 : FuncId) [.ptr 3 0]]
      [AObj.mp (MM.typed T.EK es), AObj.cells [.map 0],
        AObj.cells [.ptr 1 0, .sl 2 (.map T.encN ([], []) root) .none, .sl 2 (.map T.encPk T.noPk l) .none], AObj.cells [.ptr 2 0]]
      fun (r : AV) (H' : List AObj) =>
      ∃ (x : Int),
        r = AV.int .i64 x ∧
         H' =
         [AObj.mp (MM.typed T.EK es), AObj.cells [.map 0],
         AObj.cells [.ptr 1 0, .sl 2 (.map T.encN ([], []) root) .none, .sl 2 (.map T.encPk T.noPk l) .none],
         AObj.cells [.ptr 2 0]] ∧
         condP (decide (x < (0 : Int)))
         (Post (.tup [.str { data := #[] }, AV.bool false])
         [AObj.mp (MM.typed T.EK es), AObj.cells [.map 0],
         AObj.cells [.ptr 1 0, .sl 2 (.map T.encN ([], []) root) .none, .sl 2 (.map T.encPk T.noPk l) .none],
         AObj.cells [.ptr 2 0]])
         (needP ((0 : Int) ≤ x ∧ x < (↑(List.length l) : Int))
         (Post (.tup [AV.str { data := List.toArray (Prod.fst (List.getD l (Int.toNat x) T.noPk)) }, AV.bool true])
         [AObj.mp (MM.typed T.EK es), AObj.cells [.map 0],
         AObj.cells [.ptr 1 0, .sl 2 (.map T.encN ([], []) root) .none, .sl 2 (.map T.encPk T.noPk l) .none],
         AObj.cells [.ptr 2 0]]))) →
    ASpec Tryz.prog 66 [.ptr 2 0, .fn (67 : FuncId) [.ptr 3 0]] (T.HF es root l ++ [AObj.cells [.ptr 2 0]]) Post := fun es root l Post h => Go.Ab.ASpec.of_vc g66 Go.Proofs.Tryz.func66 (by kernel_rfl) (by kernel_rfl) (by kernel_rfl) (Go.Ab.kc (by kernel_rfl) h)
theorem s66l : ∀ (es : T.Kn) (root : List T.Need) (l : List T.Pk) (Post : AV → List AObj → Prop),
  (ASpec Tryz.prog 98 [.sl 2 (.map T.encPk T.noPk l) .none, .fn (68 : FuncId) [.ptr 3 0]]
      [AObj.mp (MM.typed T.EK es), AObj.cells [.map 0],
        AObj.cells [.ptr 1 0, .sl 2 (.map T.encN ([], []) root) .none, .sl 2 (.map T.encPk T.noPk l) .none], AObj.cells [.ptr 2 0]]
      fun (r : AV) (H' : List AObj) =>
      ∃ (x : Int),
        r = AV.int .i64 x ∧
         H' =
         [AObj.mp (MM.typed T.EK es), AObj.cells [.map 0],
         AObj.cells [.ptr 1 0, .sl 2 (.map T.encN ([], []) root) .none, .sl 2 (.map T.encPk T.noPk l) .none],
         AObj.cells [.ptr 2 0]] ∧
         condP (decide (x < (0 : Int)))
         (Post (.tup [.str { data := #[] }, AV.bool false])
         [AObj.mp (MM.typed T.EK es), AObj.cells [.map 0],
         AObj.cells [.ptr 1 0, .sl 2 (.map T.encN ([], []) root) .none, .sl 2 (.map T.encPk T.noPk l) .none],
         AObj.cells [.ptr 2 0]])
         (needP ((0 : Int) ≤ x ∧ x < (↑(List.length l) : Int))
         (Post (.tup [AV.str { data := List.toArray (Prod.fst (List.getD l (Int.toNat x) T.noPk)) }, AV.bool true])
         [AObj.mp (MM.typed T.EK es), AObj.cells [.map 0],
         AObj.cells [.ptr 1 0, .sl 2 (.map T.encN ([], []) root) .none, .sl 2 (.map T.encPk T.noPk l) .none],
         AObj.cells [.ptr 2 0]]))) →
    ASpec Tryz.prog 66 [.ptr 2 0, .fn (68 : FuncId) [.ptr 3 0]] (T.HF es root l ++ [AObj.cells [.ptr 2 0]]) Post := fun es root l Post h => Go.Ab.ASpec.of_vc g66 Go.Proofs.Tryz.func66 (by kernel_rfl) (by kernel_rfl) (by kernel_rfl) (Go.Ab.kc (by kernel_rfl) h)
theorem s66i : ∀ (es : T.Kn) (root : List T.Need) (l : List T.Pk) (q : List (List UInt8)) (Post : AV → List AObj → Prop),
  (ASpec Tryz.prog 98 [.sl 2 (.map T.encPk T.noPk l) .none, .fn (71 : FuncId) [.ptr 3 0]]
      [AObj.mp (MM.typed T.EK es), AObj.cells [.map 0],
        AObj.cells [.ptr 1 0, .sl 2 (.map T.encN ([], []) root) .none, .sl 2 (.map T.encPk T.noPk l) .none],
        AObj.cells [.sl 1 (.map T.encL [] q) .none]]
      fun (r : AV) (H' : List AObj) =>
      ∃ (x : Int),
        r = AV.int .i64 x ∧
         H' =
         [AObj.mp (MM.typed T.EK es), AObj.cells [.map 0],
         AObj.cells [.ptr 1 0, .sl 2 (.map T.encN ([], []) root) .none, .sl 2 (.map T.encPk T.noPk l) .none],
         AObj.cells [.sl 1 (.map T.encL [] q) .none]] ∧
         condP (decide (x < (0 : Int)))
         (Post (.tup [.str { data := #[] }, AV.bool false])
         [AObj.mp (MM.typed T.EK es), AObj.cells [.map 0],
         AObj.cells [.ptr 1 0, .sl 2 (.map T.encN ([], []) root) .none, .sl 2 (.map T.encPk T.noPk l) .none],
         AObj.cells [.sl 1 (.map T.encL [] q) .none]])
         (needP ((0 : Int) ≤ x ∧ x < (↑(List.length l) : Int))
         (Post (.tup [AV.str { data := List.toArray (Prod.fst (List.getD l (Int.toNat x) T.noPk)) }, AV.bool true])
         [AObj.mp (MM.typed T.EK es), AObj.cells [.map 0],
         AObj.cells [.ptr 1 0, .sl 2 (.map T.encN ([], []) root) .none, .sl 2 (.map T.encPk T.noPk l) .none],
         AObj.cells [.sl 1 (.map T.encL [] q) .none]]))) →
    ASpec Tryz.prog 66 [.ptr 2 0, .fn (71 : FuncId) [.ptr 3 0]] (T.HF es root l ++ [AObj.cells [.sl 1 (.map T.encL [] q) .none]]) Post := fun es root l q Post h => Go.Ab.ASpec.of_vc g66 Go.Proofs.Tryz.func66 (by kernel_rfl) (by kernel_rfl) (by kernel_rfl) (Go.Ab.kc (by kernel_rfl) h)

-- 98
noncomputable def l98 : Nat → List Nat
  | 2 => [0, 1, 7, 8]
  | _ => []
noncomputable def u98 : Nat → Bool
  | _ => false
noncomputable def m98 : Nat → Bool
  | _ => false
noncomputable def g98 : Cfg := { N := 19, live := l98, cut := u98, mu := m98, ret := rets }
noncomputable def c98 : Go.Code := Go.Ab.bodyOf Go.Proofs.Tryz.f98
noncomputable def q98_0 : Nat → (AV → List AObj → Prop) → AQ := fun (n : Nat) (Post : AV → List AObj → Prop) => endQ Tryz.prog (resultsOf Tryz.f98) Post
noncomputable def q98_1 : Nat → (AV → List AObj → Prop) → AQ := fun (n : Nat) (Post : AV → List AObj → Prop) => seqQ (fun (s' : Slots) (H' : List AObj) => awp Tryz.prog g98 n (codeSnd (codeSnd c98)) s' H' (q98_0 n Post)) (q98_0 n Post)
noncomputable def q98_2 : Nat → (AV → List AObj → Prop) → AQ := fun (n : Nat) (Post : AV → List AObj → Prop) => blockQ 0 (q98_1 n Post)
noncomputable def c98_2 : Go.Code := codeFst (codeSnd (codeFst (codeSnd c98)))
theorem s98a : ∀ (es : T.Kn) (root : List T.Need) (l : List T.Pk) (Post : AV → List AObj → Prop),
  AWP Tryz.prog 19 4 c98_2
      [(0, .sl 2 (.map T.encPk T.noPk l) .none), (1, .fn (67 : FuncId) [.ptr 3 0]), (7, .int .i64 (↑(List.length l) : Int)),
        (8, .int .i64 (0 : Int))]
      [AObj.mp (MM.typed T.EK es), AObj.cells [.map 0],
        AObj.cells [.ptr 1 0, .sl 2 (.map T.encN ([], []) root) .none, .sl 2 (.map T.encPk T.noPk l) .none], AObj.cells [.ptr 2 0]]
      (q98_2 4 Post) →
    ASpec Tryz.prog 98 [.sl 2 (.map T.encPk T.noPk l) .none, .fn (67 : FuncId) [.ptr 3 0]] (T.HF es root l ++ [AObj.cells [.ptr 2 0]])
      Post := fun es root l Post h => Go.Ab.ASpec.of_vc g98 Go.Proofs.Tryz.func98 (by kernel_rfl) (by kernel_rfl) (by kernel_rfl) (Go.Ab.kc (by kernel_rfl) h)
theorem s98l : ∀ (es : T.Kn) (root : List T.Need) (l : List T.Pk) (Post : AV → List AObj → Prop),
  AWP Tryz.prog 19 4 c98_2
      [(0, .sl 2 (.map T.encPk T.noPk l) .none), (1, .fn (68 : FuncId) [.ptr 3 0]), (7, .int .i64 (↑(List.length l) : Int)),
        (8, .int .i64 (0 : Int))]
      [AObj.mp (MM.typed T.EK es), AObj.cells [.map 0],
        AObj.cells [.ptr 1 0, .sl 2 (.map T.encN ([], []) root) .none, .sl 2 (.map T.encPk T.noPk l) .none], AObj.cells [.ptr 2 0]]
      (q98_2 4 Post) →
    ASpec Tryz.prog 98 [.sl 2 (.map T.encPk T.noPk l) .none, .fn (68 : FuncId) [.ptr 3 0]] (T.HF es root l ++ [AObj.cells [.ptr 2 0]])
      Post := fun es root l Post h => Go.Ab.ASpec.of_vc g98 Go.Proofs.Tryz.func98 (by kernel_rfl) (by kernel_rfl) (by kernel_rfl) (Go.Ab.kc (by kernel_rfl) h)
theorem s98i : ∀ (es : T.Kn) (root : List T.Need) (l : List T.Pk) (q : List (List UInt8)) (Post : AV → List AObj → Prop),
  AWP Tryz.prog 19 4 c98_2
      [(0, .sl 2 (.map T.encPk T.noPk l) .none), (1, .fn (71 : FuncId) [.ptr 3 0]), (7, .int .i64 (↑(List.length l) : Int)),
        (8, .int .i64 (0 : Int))]
      [AObj.mp (MM.typed T.EK es), AObj.cells [.map 0],
        AObj.cells [.ptr 1 0, .sl 2 (.map T.encN ([], []) root) .none, .sl 2 (.map T.encPk T.noPk l) .none],
        AObj.cells [.sl 1 (.map T.encL [] q) .none]]
      (q98_2 4 Post) →
    ASpec Tryz.prog 98 [.sl 2 (.map T.encPk T.noPk l) .none, .fn (71 : FuncId) [.ptr 3 0]]
      (T.HF es root l ++ [AObj.cells [.sl 1 (.map T.encL [] q) .none]]) Post := fun es root l q Post h => Go.Ab.ASpec.of_vc g98 Go.Proofs.Tryz.func98 (by kernel_rfl) (by kernel_rfl) (by kernel_rfl) (Go.Ab.kc (by kernel_rfl) h)
theorem v98_2a : ∀ (es : T.Kn) (root : List T.Need) (l : List T.Pk) (n i : Int) (n_1 : Nat) (Post : AV → List AObj → Prop),
  condP (decide (i < n))
      (needP ((0 : Int) ≤ i ∧ i < (↑(List.length l) : Int))
        (ASpec Tryz.prog 67
         [AV.agg [AV.str { data := List.toArray (Prod.fst (List.getD l (Int.toNat i) T.noPk)) }, AV.int .i64 (Prod.snd (List.getD l (Int.toNat i) T.noPk))], .ptr 3 0]
         [AObj.mp (MM.typed T.EK es), AObj.cells [.map 0],
         AObj.cells [.ptr 1 0, .sl 2 (.map T.encN ([], []) root) .none, .sl 2 (.map T.encPk T.noPk l) .none],
         AObj.cells [.ptr 2 0]]
         fun (r : AV) (H' : List AObj) =>
         ∃ (x : Bool),
         r = AV.bool x ∧
         H' =
         [AObj.mp (MM.typed T.EK es), AObj.cells [.map 0],
         AObj.cells [.ptr 1 0, .sl 2 (.map T.encN ([], []) root) .none, .sl 2 (.map T.encPk T.noPk l) .none],
         AObj.cells [.ptr 2 0]] ∧
         condP x
         (Post (.int .i64 i)
         [AObj.mp (MM.typed T.EK es), AObj.cells [.map 0],
         AObj.cells [.ptr 1 0, .sl 2 (.map T.encN ([], []) root) .none, .sl 2 (.map T.encPk T.noPk l) .none],
         AObj.cells [.ptr 2 0]])
         (AWP Tryz.prog 19 n_1 c98_2
         [(0, .sl 2 (.map T.encPk T.noPk l) .none), (1, .fn (67 : FuncId) [.ptr 3 0]), (7, .int .i64 n),
         (8, .int .i64 (IntKind.wrap .i64 (i + (1 : Int))))]
         [AObj.mp (MM.typed T.EK es), AObj.cells [.map 0],
         AObj.cells [.ptr 1 0, .sl 2 (.map T.encN ([], []) root) .none, .sl 2 (.map T.encPk T.noPk l) .none],
         AObj.cells [.ptr 2 0]]
         (q98_2 n_1 Post))))
      (Post (.int .i64 (-1 : Int))
        [AObj.mp (MM.typed T.EK es), AObj.cells [.map 0],
         AObj.cells [.ptr 1 0, .sl 2 (.map T.encN ([], []) root) .none, .sl 2 (.map T.encPk T.noPk l) .none],
         AObj.cells [.ptr 2 0]]) →
    AWP Tryz.prog 19 n_1 c98_2
      [(0, .sl 2 (.map T.encPk T.noPk l) .none), (1, .fn (67 : FuncId) [.ptr 3 0]), (7, .int .i64 n),
        (8, .int .i64 i)]
      (T.HF es root l ++ [AObj.cells [.ptr 2 0]]) (q98_2 n_1 Post) := fun es root l n i n Post h => Go.Ab.AWP.loop' g98 (Cfg.live g98) c98_2 (by kernel_rfl) (by kernel_rfl) (Go.Ab.kc (by kernel_rfl) h)
theorem v98_2l : ∀ (es : T.Kn) (root : List T.Need) (l : List T.Pk) (n i : Int) (n_1 : Nat) (Post : AV → List AObj → Prop),
  condP (decide (i < n))
      (needP ((0 : Int) ≤ i ∧ i < (↑(List.length l) : Int))
        (ASpec Tryz.prog 68
         [AV.agg [AV.str { data := List.toArray (Prod.fst (List.getD l (Int.toNat i) T.noPk)) }, AV.int .i64 (Prod.snd (List.getD l (Int.toNat i) T.noPk))], .ptr 3 0]
         [AObj.mp (MM.typed T.EK es), AObj.cells [.map 0],
         AObj.cells [.ptr 1 0, .sl 2 (.map T.encN ([], []) root) .none, .sl 2 (.map T.encPk T.noPk l) .none],
         AObj.cells [.ptr 2 0]]
         fun (r : AV) (H' : List AObj) =>
         ∃ (x : Bool),
         r = AV.bool x ∧
         H' =
         [AObj.mp (MM.typed T.EK es), AObj.cells [.map 0],
         AObj.cells [.ptr 1 0, .sl 2 (.map T.encN ([], []) root) .none, .sl 2 (.map T.encPk T.noPk l) .none],
         AObj.cells [.ptr 2 0]] ∧
         condP x
         (Post (.int .i64 i)
         [AObj.mp (MM.typed T.EK es), AObj.cells [.map 0],
         AObj.cells [.ptr 1 0, .sl 2 (.map T.encN ([], []) root) .none, .sl 2 (.map T.encPk T.noPk l) .none],
         AObj.cells [.ptr 2 0]])
         (AWP Tryz.prog 19 n_1 c98_2
         [(0, .sl 2 (.map T.encPk T.noPk l) .none), (1, .fn (68 : FuncId) [.ptr 3 0]), (7, .int .i64 n),
         (8, .int .i64 (IntKind.wrap .i64 (i + (1 : Int))))]
         [AObj.mp (MM.typed T.EK es), AObj.cells [.map 0],
         AObj.cells [.ptr 1 0, .sl 2 (.map T.encN ([], []) root) .none, .sl 2 (.map T.encPk T.noPk l) .none],
         AObj.cells [.ptr 2 0]]
         (q98_2 n_1 Post))))
      (Post (.int .i64 (-1 : Int))
        [AObj.mp (MM.typed T.EK es), AObj.cells [.map 0],
         AObj.cells [.ptr 1 0, .sl 2 (.map T.encN ([], []) root) .none, .sl 2 (.map T.encPk T.noPk l) .none],
         AObj.cells [.ptr 2 0]]) →
    AWP Tryz.prog 19 n_1 c98_2
      [(0, .sl 2 (.map T.encPk T.noPk l) .none), (1, .fn (68 : FuncId) [.ptr 3 0]), (7, .int .i64 n),
        (8, .int .i64 i)]
      (T.HF es root l ++ [AObj.cells [.ptr 2 0]]) (q98_2 n_1 Post) := fun es root l n i n Post h => Go.Ab.AWP.loop' g98 (Cfg.live g98) c98_2 (by kernel_rfl) (by kernel_rfl) (Go.Ab.kc (by kernel_rfl) h)
theorem v98_2i : ∀ (es : T.Kn) (root : List T.Need) (l : List T.Pk) (q : List (List UInt8)) (n i : Int) (n_1 : Nat) (Post : AV → List AObj → Prop),
  condP (decide (i < n))
      (needP ((0 : Int) ≤ i ∧ i < (↑(List.length l) : Int))
        (ASpec Tryz.prog 71
         [AV.agg [AV.str { data := List.toArray (Prod.fst (List.getD l (Int.toNat i) T.noPk)) }, AV.int .i64 (Prod.snd (List.getD l (Int.toNat i) T.noPk))], .ptr 3 0]
         [AObj.mp (MM.typed T.EK es), AObj.cells [.map 0],
         AObj.cells [.ptr 1 0, .sl 2 (.map T.encN ([], []) root) .none, .sl 2 (.map T.encPk T.noPk l) .none],
         AObj.cells [.sl 1 (.map T.encL [] q) .none]]
         fun (r : AV) (H' : List AObj) =>
         ∃ (x : Bool),
         r = AV.bool x ∧
         H' =
         [AObj.mp (MM.typed T.EK es), AObj.cells [.map 0],
         AObj.cells [.ptr 1 0, .sl 2 (.map T.encN ([], []) root) .none, .sl 2 (.map T.encPk T.noPk l) .none],
         AObj.cells [.sl 1 (.map T.encL [] q) .none]] ∧
         condP x
         (Post (.int .i64 i)
         [AObj.mp (MM.typed T.EK es), AObj.cells [.map 0],
         AObj.cells [.ptr 1 0, .sl 2 (.map T.encN ([], []) root) .none, .sl 2 (.map T.encPk T.noPk l) .none],
         AObj.cells [.sl 1 (.map T.encL [] q) .none]])
         (AWP Tryz.prog 19 n_1 c98_2
         [(0, .sl 2 (.map T.encPk T.noPk l) .none), (1, .fn (71 : FuncId) [.ptr 3 0]), (7, .int .i64 n),
         (8, .int .i64 (IntKind.wrap .i64 (i + (1 : Int))))]
         [AObj.mp (MM.typed T.EK es), AObj.cells [.map 0],
         AObj.cells [.ptr 1 0, .sl 2 (.map T.encN ([], []) root) .none, .sl 2 (.map T.encPk T.noPk l) .none],
         AObj.cells [.sl 1 (.map T.encL [] q) .none]]
         (q98_2 n_1 Post))))
      (Post (.int .i64 (-1 : Int))
        [AObj.mp (MM.typed T.EK es), AObj.cells [.map 0],
         AObj.cells [.ptr 1 0, .sl 2 (.map T.encN ([], []) root) .none, .sl 2 (.map T.encPk T.noPk l) .none],
         AObj.cells [.sl 1 (.map T.encL [] q) .none]]) →
    AWP Tryz.prog 19 n_1 c98_2
      [(0, .sl 2 (.map T.encPk T.noPk l) .none), (1, .fn (71 : FuncId) [.ptr 3 0]), (7, .int .i64 n),
        (8, .int .i64 i)]
      (T.HF es root l ++ [AObj.cells [.sl 1 (.map T.encL [] q) .none]]) (q98_2 n_1 Post) := fun es root l q n i n Post h => Go.Ab.AWP.loop' g98 (Cfg.live g98) c98_2 (by kernel_rfl) (by kernel_rfl) (Go.Ab.kc (by kernel_rfl) h)

-- 12
noncomputable def l12 : Nat → List Nat
  | 4 => [30, 31]
  | _ => []
noncomputable def u12 : Nat → Bool
  | _ => false
noncomputable def m12 : Nat → Bool
  | _ => false
noncomputable def g12 : Cfg := { N := 45, live := l12, cut := u12, mu := m12, ret := rets }
noncomputable def c12 : Go.Code := Go.Ab.bodyOf Go.Proofs.Tryz.f12
noncomputable def q12_0 : Nat → (AV → List AObj → Prop) → AQ := fun (n : Nat) (Post : AV → List AObj → Prop) => endQ Tryz.prog (resultsOf Tryz.f12) Post
noncomputable def q12_1 : Nat → (AV → List AObj → Prop) → AQ := fun (n : Nat) (Post : AV → List AObj → Prop) => seqQ (fun (s' : Slots) (H' : List AObj) => awp Tryz.prog g12 n (codeSnd (codeSnd (codeSnd (codeSnd c12)))) s' H' (q12_0 n Post)) (q12_0 n Post)
noncomputable def q12_2 : Nat → (AV → List AObj → Prop) → AQ := fun (n : Nat) (Post : AV → List AObj → Prop) => blockQ 0 (q12_1 n Post)
noncomputable def c12_4 : Go.Code := codeFst (codeSnd (codeFst (codeSnd (codeSnd (codeSnd c12)))))
theorem s12 : ∀ (es : T.Kn) (root : List T.Need) (l : List T.Pk) (Post : AV → List AObj → Prop),
  AWP Tryz.prog 45 2 c12_4
      [(30,
         AV.agg
         [.bfn 34 [.ptr 2 0], .bfn 35 [.ptr 2 0], .bfn 36 [.ptr 2 0],
         AV.bfn 37 [.ptr 2 0], .bfn 38 [.ptr 2 0]]),
        (31, .int .i64 (0 : Int))]
      [AObj.mp (MM.typed T.EK es), AObj.cells [.map 0],
        AObj.cells [.ptr 1 0, .sl 2 (.map T.encN ([], []) root) .none, .sl 2 (.map T.encPk T.noPk l) .none],
        AObj.cells
         [.bfn 34 [.ptr 2 0], .bfn 35 [.ptr 2 0], .bfn 36 [.ptr 2 0],
         AV.bfn 37 [.ptr 2 0], .bfn 38 [.ptr 2 0]]]
      (q12_2 2 Post) →
    ASpec Tryz.prog 12 [.ptr 1 0, .sl 2 (.map T.encN ([], []) root) .none, .sl 2 (.map T.encPk T.noPk l) .none] (T.HX es) Post := fun es root l Post h => Go.Ab.ASpec.of_vc g12 Go.Proofs.Tryz.func12 (by kernel_rfl) (by kernel_rfl) (by kernel_rfl) (Go.Ab.kc (by kernel_rfl) h)
theorem v12_4a : ∀ (es : T.Kn) (root : List T.Need) (l : List T.Pk) (n : Nat) (Post : AV → List AObj → Prop),
  needP ((0 : Int) ≤ (0 : Int) ∧ (0 : Int) < (5 : Int))
      (ASpec Tryz.prog 34 [.ptr 2 0]
        [AObj.mp (MM.typed T.EK es), AObj.cells [.map 0],
         AObj.cells [.ptr 1 0, .sl 2 (.map T.encN ([], []) root) .none, .sl 2 (.map T.encPk T.noPk l) .none]]
        fun (r : AV) (H' : List AObj) =>
        ∃ (x : ByteArray × Bool),
         r = AV.tup [.str (Prod.fst x), .bool (Prod.snd x)] ∧
         H' =
         [AObj.mp (MM.typed T.EK es), AObj.cells [.map 0],
         AObj.cells [.ptr 1 0, .sl 2 (.map T.encN ([], []) root) .none, .sl 2 (.map T.encPk T.noPk l) .none]] ∧
         condP (Prod.snd x)
         (Post (.tup [.int .i64 (1 : Int), .str (Prod.fst x)])
         [AObj.mp (MM.typed T.EK es), AObj.cells [.map 0],
         AObj.cells [.ptr 1 0, .sl 2 (.map T.encN ([], []) root) .none, .sl 2 (.map T.encPk T.noPk l) .none]])
         (AWP Tryz.prog 45 n c12_4
         [(30,
         AV.agg
         [.bfn (34 : FuncId) [.ptr 2 0], .bfn (35 : FuncId) [.ptr 2 0], .bfn (36 : FuncId) [.ptr 2 0],
         AV.bfn (37 : FuncId) [.ptr 2 0], .bfn (38 : FuncId) [.ptr 2 0]]),
         (31, .int .i64 (1 : Int))]
         [AObj.mp (MM.typed T.EK es), AObj.cells [.map 0],
         AObj.cells [.ptr 1 0, .sl 2 (.map T.encN ([], []) root) .none, .sl 2 (.map T.encPk T.noPk l) .none]]
         (q12_2 n Post))) →
    AWP Tryz.prog 45 n c12_4
      [(30,
         AV.agg
         [.bfn (34 : FuncId) [.ptr 2 0], .bfn (35 : FuncId) [.ptr 2 0], .bfn (36 : FuncId) [.ptr 2 0],
         AV.bfn (37 : FuncId) [.ptr 2 0], .bfn (38 : FuncId) [.ptr 2 0]]),
        (31, .int .i64 (0 : Int))]
      (T.HF es root l) (q12_2 n Post) := fun es root l n Post h => Go.Ab.AWP.loop' g12 (Cfg.live g12) c12_4 (by kernel_rfl) (by kernel_rfl) (Go.Ab.kc (by kernel_rfl) h)
theorem v12_4b : ∀ (es : T.Kn) (root : List T.Need) (l : List T.Pk) (n : Nat) (Post : AV → List AObj → Prop),
  needP ((0 : Int) ≤ (1 : Int) ∧ (1 : Int) < (5 : Int))
      (ASpec Tryz.prog 35 [.ptr 2 0]
        [AObj.mp (MM.typed T.EK es), AObj.cells [.map 0],
         AObj.cells [.ptr 1 0, .sl 2 (.map T.encN ([], []) root) .none, .sl 2 (.map T.encPk T.noPk l) .none]]
        fun (r : AV) (H' : List AObj) =>
        ∃ (x : ByteArray × Bool),
         r = AV.tup [.str (Prod.fst x), .bool (Prod.snd x)] ∧
         H' =
         [AObj.mp (MM.typed T.EK es), AObj.cells [.map 0],
         AObj.cells [.ptr 1 0, .sl 2 (.map T.encN ([], []) root) .none, .sl 2 (.map T.encPk T.noPk l) .none]] ∧
         condP (Prod.snd x)
         (Post (.tup [.int .i64 (2 : Int), .str (Prod.fst x)])
         [AObj.mp (MM.typed T.EK es), AObj.cells [.map 0],
         AObj.cells [.ptr 1 0, .sl 2 (.map T.encN ([], []) root) .none, .sl 2 (.map T.encPk T.noPk l) .none]])
         (AWP Tryz.prog 45 n c12_4
         [(30,
         AV.agg
         [.bfn (34 : FuncId) [.ptr 2 0], .bfn (35 : FuncId) [.ptr 2 0], .bfn (36 : FuncId) [.ptr 2 0],
         AV.bfn (37 : FuncId) [.ptr 2 0], .bfn (38 : FuncId) [.ptr 2 0]]),
         (31, .int .i64 (2 : Int))]
         [AObj.mp (MM.typed T.EK es), AObj.cells [.map 0],
         AObj.cells [.ptr 1 0, .sl 2 (.map T.encN ([], []) root) .none, .sl 2 (.map T.encPk T.noPk l) .none]]
         (q12_2 n Post))) →
    AWP Tryz.prog 45 n c12_4
      [(30,
         AV.agg
         [.bfn (34 : FuncId) [.ptr 2 0], .bfn (35 : FuncId) [.ptr 2 0], .bfn (36 : FuncId) [.ptr 2 0],
         AV.bfn (37 : FuncId) [.ptr 2 0], .bfn (38 : FuncId) [.ptr 2 0]]),
        (31, .int .i64 (1 : Int))]
      (T.HF es root l) (q12_2 n Post) := fun es root l n Post h => Go.Ab.AWP.loop' g12 (Cfg.live g12) c12_4 (by kernel_rfl) (by kernel_rfl) (Go.Ab.kc (by kernel_rfl) h)
theorem v12_4c : ∀ (es : T.Kn) (root : List T.Need) (l : List T.Pk) (n : Nat) (Post : AV → List AObj → Prop),
  needP ((0 : Int) ≤ (2 : Int) ∧ (2 : Int) < (5 : Int))
      (ASpec Tryz.prog 36 [.ptr 2 0]
        [AObj.mp (MM.typed T.EK es), AObj.cells [.map 0],
         AObj.cells [.ptr 1 0, .sl 2 (.map T.encN ([], []) root) .none, .sl 2 (.map T.encPk T.noPk l) .none]]
        fun (r : AV) (H' : List AObj) =>
        ∃ (x : ByteArray × Bool),
         r = AV.tup [.str (Prod.fst x), .bool (Prod.snd x)] ∧
         H' =
         [AObj.mp (MM.typed T.EK es), AObj.cells [.map 0],
         AObj.cells [.ptr 1 0, .sl 2 (.map T.encN ([], []) root) .none, .sl 2 (.map T.encPk T.noPk l) .none]] ∧
         condP (Prod.snd x)
         (Post (.tup [.int .i64 (3 : Int), .str (Prod.fst x)])
         [AObj.mp (MM.typed T.EK es), AObj.cells [.map 0],
         AObj.cells [.ptr 1 0, .sl 2 (.map T.encN ([], []) root) .none, .sl 2 (.map T.encPk T.noPk l) .none]])
         (AWP Tryz.prog 45 n c12_4
         [(30,
         AV.agg
         [.bfn (34 : FuncId) [.ptr 2 0], .bfn (35 : FuncId) [.ptr 2 0], .bfn (36 : FuncId) [.ptr 2 0],
         AV.bfn (37 : FuncId) [.ptr 2 0], .bfn (38 : FuncId) [.ptr 2 0]]),
         (31, .int .i64 (3 : Int))]
         [AObj.mp (MM.typed T.EK es), AObj.cells [.map 0],
         AObj.cells [.ptr 1 0, .sl 2 (.map T.encN ([], []) root) .none, .sl 2 (.map T.encPk T.noPk l) .none]]
         (q12_2 n Post))) →
    AWP Tryz.prog 45 n c12_4
      [(30,
         AV.agg
         [.bfn (34 : FuncId) [.ptr 2 0], .bfn (35 : FuncId) [.ptr 2 0], .bfn (36 : FuncId) [.ptr 2 0],
         AV.bfn (37 : FuncId) [.ptr 2 0], .bfn (38 : FuncId) [.ptr 2 0]]),
        (31, .int .i64 (2 : Int))]
      (T.HF es root l) (q12_2 n Post) := fun es root l n Post h => Go.Ab.AWP.loop' g12 (Cfg.live g12) c12_4 (by kernel_rfl) (by kernel_rfl) (Go.Ab.kc (by kernel_rfl) h)
theorem v12_4d : ∀ (es : T.Kn) (root : List T.Need) (l : List T.Pk) (n : Nat) (Post : AV → List AObj → Prop),
  needP ((0 : Int) ≤ (3 : Int) ∧ (3 : Int) < (5 : Int))
      (ASpec Tryz.prog 37 [.ptr 2 0]
        [AObj.mp (MM.typed T.EK es), AObj.cells [.map 0],
         AObj.cells [.ptr 1 0, .sl 2 (.map T.encN ([], []) root) .none, .sl 2 (.map T.encPk T.noPk l) .none]]
        fun (r : AV) (H' : List AObj) =>
        ∃ (x : ByteArray × Bool),
         r = AV.tup [.str (Prod.fst x), .bool (Prod.snd x)] ∧
         H' =
         [AObj.mp (MM.typed T.EK es), AObj.cells [.map 0],
         AObj.cells [.ptr 1 0, .sl 2 (.map T.encN ([], []) root) .none, .sl 2 (.map T.encPk T.noPk l) .none]] ∧
         condP (Prod.snd x)
         (Post (.tup [.int .i64 (4 : Int), .str (Prod.fst x)])
         [AObj.mp (MM.typed T.EK es), AObj.cells [.map 0],
         AObj.cells [.ptr 1 0, .sl 2 (.map T.encN ([], []) root) .none, .sl 2 (.map T.encPk T.noPk l) .none]])
         (AWP Tryz.prog 45 n c12_4
         [(30,
         AV.agg
         [.bfn (34 : FuncId) [.ptr 2 0], .bfn (35 : FuncId) [.ptr 2 0], .bfn (36 : FuncId) [.ptr 2 0],
         AV.bfn (37 : FuncId) [.ptr 2 0], .bfn (38 : FuncId) [.ptr 2 0]]),
         (31, .int .i64 (4 : Int))]
         [AObj.mp (MM.typed T.EK es), AObj.cells [.map 0],
         AObj.cells [.ptr 1 0, .sl 2 (.map T.encN ([], []) root) .none, .sl 2 (.map T.encPk T.noPk l) .none]]
         (q12_2 n Post))) →
    AWP Tryz.prog 45 n c12_4
      [(30,
         AV.agg
         [.bfn (34 : FuncId) [.ptr 2 0], .bfn (35 : FuncId) [.ptr 2 0], .bfn (36 : FuncId) [.ptr 2 0],
         AV.bfn (37 : FuncId) [.ptr 2 0], .bfn (38 : FuncId) [.ptr 2 0]]),
        (31, .int .i64 (3 : Int))]
      (T.HF es root l) (q12_2 n Post) := fun es root l n Post h => Go.Ab.AWP.loop' g12 (Cfg.live g12) c12_4 (by kernel_rfl) (by kernel_rfl) (Go.Ab.kc (by kernel_rfl) h)
theorem v12_4e : ∀ (es : T.Kn) (root : List T.Need) (l : List T.Pk) (n : Nat) (Post : AV → List AObj → Prop),
  needP ((0 : Int) ≤ (4 : Int) ∧ (4 : Int) < (5 : Int))
      (ASpec Tryz.prog 38 [.ptr 2 0]
        [AObj.mp (MM.typed T.EK es), AObj.cells [.map 0],
         AObj.cells [.ptr 1 0, .sl 2 (.map T.encN ([], []) root) .none, .sl 2 (.map T.encPk T.noPk l) .none]]
        fun (r : AV) (H' : List AObj) =>
        ∃ (x : ByteArray × Bool),
         r = AV.tup [.str (Prod.fst x), .bool (Prod.snd x)] ∧
         H' =
         [AObj.mp (MM.typed T.EK es), AObj.cells [.map 0],
         AObj.cells [.ptr 1 0, .sl 2 (.map T.encN ([], []) root) .none, .sl 2 (.map T.encPk T.noPk l) .none]] ∧
         condP (Prod.snd x)
         (Post (.tup [.int .i64 (5 : Int), .str (Prod.fst x)])
         [AObj.mp (MM.typed T.EK es), AObj.cells [.map 0],
         AObj.cells [.ptr 1 0, .sl 2 (.map T.encN ([], []) root) .none, .sl 2 (.map T.encPk T.noPk l) .none]])
         (AWP Tryz.prog 45 n c12_4
         [(30,
         AV.agg
         [.bfn (34 : FuncId) [.ptr 2 0], .bfn (35 : FuncId) [.ptr 2 0], .bfn (36 : FuncId) [.ptr 2 0],
         AV.bfn (37 : FuncId) [.ptr 2 0], .bfn (38 : FuncId) [.ptr 2 0]]),
         (31, .int .i64 (5 : Int))]
         [AObj.mp (MM.typed T.EK es), AObj.cells [.map 0],
         AObj.cells [.ptr 1 0, .sl 2 (.map T.encN ([], []) root) .none, .sl 2 (.map T.encPk T.noPk l) .none]]
         (q12_2 n Post))) →
    AWP Tryz.prog 45 n c12_4
      [(30,
         AV.agg
         [.bfn (34 : FuncId) [.ptr 2 0], .bfn (35 : FuncId) [.ptr 2 0], .bfn (36 : FuncId) [.ptr 2 0],
         AV.bfn (37 : FuncId) [.ptr 2 0], .bfn (38 : FuncId) [.ptr 2 0]]),
        (31, .int .i64 (4 : Int))]
      (T.HF es root l) (q12_2 n Post) := fun es root l n Post h => Go.Ab.AWP.loop' g12 (Cfg.live g12) c12_4 (by kernel_rfl) (by kernel_rfl) (Go.Ab.kc (by kernel_rfl) h)
theorem v12_4f : ∀ (es : T.Kn) (root : List T.Need) (l : List T.Pk) (n : Nat) (Post : AV → List AObj → Prop),
  Post (.tup [.int .i64 (0 : Int), .str { data := #[] }])
      [AObj.mp (MM.typed T.EK es), AObj.cells [.map 0],
        AObj.cells [.ptr 1 0, .sl 2 (.map T.encN ([], []) root) .none, .sl 2 (.map T.encPk T.noPk l) .none]] →
    AWP Tryz.prog 45 n c12_4
      [(30,
         AV.agg
         [.bfn (34 : FuncId) [.ptr 2 0], .bfn (35 : FuncId) [.ptr 2 0], .bfn (36 : FuncId) [.ptr 2 0],
         AV.bfn (37 : FuncId) [.ptr 2 0], .bfn (38 : FuncId) [.ptr 2 0]]),
        (31, .int .i64 (5 : Int))]
      (T.HF es root l) (q12_2 n Post) := fun es root l n Post h => Go.Ab.AWP.loop' g12 (Cfg.live g12) c12_4 (by kernel_rfl) (by kernel_rfl) (Go.Ab.kc (by kernel_rfl) h)

-- 14
noncomputable def l14 : Nat → List Nat
  | _ => []
noncomputable def u14 : Nat → Bool
  | _ => false
noncomputable def m14 : Nat → Bool
  | _ => false
noncomputable def g14 : Cfg := { N := 18, live := l14, cut := u14, mu := m14, ret := rets }
theorem s14 : ∀ (es : T.Kn) (root : List T.Need) (l : List T.Pk) (Post : AV → List AObj → Prop),
  (ASpec Tryz.prog 12 [.ptr 1 0, .sl 2 (.map T.encN ([], []) root) .none, .sl 2 (.map T.encPk T.noPk l) .none]
      [AObj.mp (MM.typed T.EK es), AObj.cells [.map 0]] fun (r : AV) (H' : List AObj) =>
      ∃ (x : Int × ByteArray),
        r = AV.tup [.int .i64 (Prod.fst x), .str (Prod.snd x)] ∧
         H' = [AObj.mp (MM.typed T.EK es), AObj.cells [.map 0]] ∧ Post (.bool (Prod.fst x == (0 : Int))) [AObj.mp (MM.typed T.EK es), AObj.cells [.map 0]]) →
    ASpec Tryz.prog 14 [.ptr 1 0, .sl 2 (.map T.encN ([], []) root) .none, .sl 2 (.map T.encPk T.noPk l) .none] (T.HX es) Post := fun es root l Post h => Go.Ab.ASpec.of_vc g14 Go.Proofs.Tryz.func14 (by kernel_rfl) (by kernel_rfl) (by kernel_rfl) (Go.Ab.kc (by kernel_rfl) h)

-- 42
noncomputable def l42 : Nat → List Nat
  | 1 => [1, 2, 3, 4, 12, 13, 14]
  | 5 => [1, 2, 3, 4, 7, 12, 13, 14]
  | _ => []
noncomputable def u42 : Nat → Bool
  | 5 => true
  | _ => false
noncomputable def m42 : Nat → Bool
  | _ => false
noncomputable def g42 : Cfg := { N := 47, live := l42, cut := u42, mu := m42, ret := rets }
noncomputable def c42 : Go.Code := Go.Ab.bodyOf Go.Proofs.Tryz.f42
noncomputable def q42_0 : Nat → (AV → List AObj → Prop) → AQ := fun (n : Nat) (Post : AV → List AObj → Prop) => endQ Tryz.prog (resultsOf Tryz.f42) Post
noncomputable def q42_1 : Nat → (AV → List AObj → Prop) → AQ := fun (n : Nat) (Post : AV → List AObj → Prop) => blockQ 0 (q42_0 n Post)
noncomputable def c42_1 : Go.Code := codeFst (codeSnd c42)
theorem s42 : ∀ (es : T.Kn) (root : List T.Need) (l : List T.Pk) (o : List (List UInt8)) (ns : List T.Need) (Post : AV → List AObj → Prop),
  AWP Tryz.prog 47 8 c42_1
      [(1, .ptr 6 0), (2, .ptr 2 0), (3, .ptr 4 0), (4, .ptr 7 0),
        (12, .sl 2 (.map T.encN ([], []) ns) .none), (13, .int .i64 (↑(List.length ns) : Int)), (14, .int .i64 (0 : Int))]
      [AObj.mp (MM.typed T.EK es), AObj.cells [.map 0], AObj.cells [.sl 2 (.map T.encPk T.noPk l) .none],
        AObj.cells [.ptr 1 0, .sl 2 (.map T.encN ([], []) root) .none, .sl 2 (.map T.encPk T.noPk l) .none], AObj.cells [.ptr 3 0],
        AObj.mp (MM.typed T.EB (T.seenM o)), AObj.cells [.map 5],
        AObj.cells [.fn (42 : FuncId) [.ptr 6 0, .ptr 2 0, .ptr 4 0, .ptr 7 0]]]
      (q42_1 8 Post) →
    ASpec Tryz.prog 42 [.sl 2 (.map T.encN ([], []) ns) .none, .ptr 6 0, .ptr 2 0, .ptr 4 0, .ptr 7 0]
      (T.HV es root l o) Post := fun es root l o ns Post h => Go.Ab.ASpec.of_vc g42 Go.Proofs.Tryz.func42 (by kernel_rfl) (by kernel_rfl) (by kernel_rfl) (Go.Ab.kc (by kernel_rfl) h)
noncomputable def q42_2 : Nat → (AV → List AObj → Prop) → AQ := fun (n : Nat) (Post : AV → List AObj → Prop) => loopQ Tryz.prog 47 n c42_1 (q42_1 n Post) (Cfg.live g42)
noncomputable def q42_3 : Nat → (AV → List AObj → Prop) → AQ := fun (n : Nat) (Post : AV → List AObj → Prop) => seqQ (fun (s' : Slots) (H' : List AObj) => awp Tryz.prog g42 n (codeSnd (codeSnd (codeSnd (codeFst c42_1)))) s' H' (q42_2 n Post)) (q42_2 n Post)
noncomputable def q42_4 : Nat → (AV → List AObj → Prop) → AQ := fun (n : Nat) (Post : AV → List AObj → Prop) => blockQ 1 (q42_3 n Post)
noncomputable def c42_5 : Go.Code := codeSnd (codeSnd (codeSnd (codeFst (codeFst (codeSnd (codeSnd (codeFst c42_1)))))))
theorem v42_1 : ∀ (es : T.Kn) (root : List T.Need) (l : List T.Pk) (o : List (List UInt8)) (ns : List T.Need) (n i : Int) (n_1 : Nat) (Post : AV → List AObj → Prop),
  condP (decide (i < n))
      (needP ((0 : Int) ≤ i ∧ i < (↑(List.length ns) : Int))
        (optionP (findM (T.seenM o) { data := List.toArray (Prod.fst (List.getD ns (Int.toNat i) ([], []))) })
         (fun (x : Bool) =>
         condP x
         (AWP Tryz.prog 47 n_1 c42_1
         [(1, .ptr 6 0), (2, .ptr 2 0), (3, .ptr 4 0), (4, .ptr 7 0),
         (12, .sl 2 (.map T.encN ([], []) ns) .none), (13, .int .i64 n), (14, .int .i64 (IntKind.wrap .i64 (i + (1 : Int))))]
         [AObj.mp (MM.typed T.EK es), AObj.cells [.map 0], AObj.cells [.sl 2 (.map T.encPk T.noPk l) .none],
         AObj.cells [.ptr 1 0, .sl 2 (.map T.encN ([], []) root) .none, .sl 2 (.map T.encPk T.noPk l) .none],
         AObj.cells [.ptr 3 0], AObj.mp (MM.typed T.EB (T.seenM o)), AObj.cells [.map 5],
         AObj.cells [.fn (42 : FuncId) [.ptr 6 0, .ptr 2 0, .ptr 4 0, .ptr 7 0]],
         AObj.cells
         [.str { data := List.toArray (Prod.fst (List.getD ns (Int.toNat i) ([], []))) },
         AV.sl 2 (.map T.encS ((0 : Int), (0 : Int)) (Prod.snd (List.getD ns (Int.toNat i) ([], [])))) .none]]
         (q42_1 n_1 Post))
         (AWP Tryz.prog 47 n_1 c42_5
         [(1, .ptr 6 0), (2, .ptr 2 0), (3, .ptr 4 0), (4, .ptr 7 0),
         (7, .ptr 8 0), (12, .sl 2 (.map T.encN ([], []) ns) .none), (13, .int .i64 n), (14, .int .i64 i)]
         [AObj.mp (MM.typed T.EK es), AObj.cells [.map 0], AObj.cells [.sl 2 (.map T.encPk T.noPk l) .none],
         AObj.cells [.ptr 1 0, .sl 2 (.map T.encN ([], []) root) .none, .sl 2 (.map T.encPk T.noPk l) .none],
         AObj.cells [.ptr 3 0], AObj.mp (MM.put (MM.typed T.EB (T.seenM o)) { data := List.toArray (Prod.fst (List.getD ns (Int.toNat i) ([], []))) } (AV.bool true)),
         AObj.cells [AV.map 5], AObj.cells [.fn (42 : FuncId) [.ptr 6 0, .ptr 2 0, .ptr 4 0, .ptr 7 0]],
         AObj.cells
         [.str { data := List.toArray (Prod.fst (List.getD ns (Int.toNat i) ([], []))) },
         AV.sl 2 (.map T.encS ((0 : Int), (0 : Int)) (Prod.snd (List.getD ns (Int.toNat i) ([], [])))) .none]]
         (q42_4 n_1 Post)))
         (AWP Tryz.prog 47 n_1 c42_5
         [(1, .ptr 6 0), (2, .ptr 2 0), (3, .ptr 4 0), (4, .ptr 7 0),
         (7, .ptr 8 0), (12, .sl 2 (.map T.encN ([], []) ns) .none), (13, .int .i64 n), (14, .int .i64 i)]
         [AObj.mp (MM.typed T.EK es), AObj.cells [.map 0], AObj.cells [.sl 2 (.map T.encPk T.noPk l) .none],
         AObj.cells [.ptr 1 0, .sl 2 (.map T.encN ([], []) root) .none, .sl 2 (.map T.encPk T.noPk l) .none],
         AObj.cells [.ptr 3 0], AObj.mp (MM.put (MM.typed T.EB (T.seenM o)) { data := List.toArray (Prod.fst (List.getD ns (Int.toNat i) ([], []))) } (AV.bool true)),
         AObj.cells [AV.map 5], AObj.cells [.fn (42 : FuncId) [.ptr 6 0, .ptr 2 0, .ptr 4 0, .ptr 7 0]],
         AObj.cells
         [.str { data := List.toArray (Prod.fst (List.getD ns (Int.toNat i) ([], []))) },
         AV.sl 2 (.map T.encS ((0 : Int), (0 : Int)) (Prod.snd (List.getD ns (Int.toNat i) ([], [])))) .none]]
         (q42_4 n_1 Post))))
      (Post (.tup [])
        [AObj.mp (MM.typed T.EK es), AObj.cells [.map 0], AObj.cells [.sl 2 (.map T.encPk T.noPk l) .none],
         AObj.cells [.ptr 1 0, .sl 2 (.map T.encN ([], []) root) .none, .sl 2 (.map T.encPk T.noPk l) .none],
         AObj.cells [.ptr 3 0], AObj.mp (MM.typed T.EB (T.seenM o)), AObj.cells [.map 5],
         AObj.cells [.fn (42 : FuncId) [.ptr 6 0, .ptr 2 0, .ptr 4 0, .ptr 7 0]]]) →
    AWP Tryz.prog 47 n_1 c42_1
      [(1, .ptr 6 0), (2, .ptr 2 0), (3, .ptr 4 0), (4, .ptr 7 0),
        (12, .sl 2 (.map T.encN ([], []) ns) .none), (13, .int .i64 n), (14, .int .i64 i)]
      (T.HV es root l o) (q42_1 n_1 Post) := fun es root l o ns n i n Post h => Go.Ab.AWP.loop' g42 (Cfg.live g42) c42_1 (by kernel_rfl) (by kernel_rfl) (Go.Ab.kc (by kernel_rfl) h)
theorem v42_5 : ∀ (es : T.Kn) (root : List T.Need) (l : List T.Pk) (o : List (List UInt8)) (ns : List T.Need) (x : T.Need) (n i : Int) (n_1 : Nat) (Post : AV → List AObj → Prop),
  (ASpec Tryz.prog 43 [.sl 2 (.map T.encPk T.noPk l) .none, .str { data := List.toArray (Prod.fst x) }]
      [AObj.mp (MM.typed T.EK es), AObj.cells [AV.map 0], AObj.cells [.sl 2 (.map T.encPk T.noPk l) .none],
        AObj.cells [.ptr 1 0, .sl 2 (.map T.encN ([], []) root) .none, .sl 2 (.map T.encPk T.noPk l) .none], AObj.cells [.ptr 3 0],
        AObj.mp (MM.typed T.EB (T.seenM o)), AObj.cells [.map 5],
        AObj.cells [.fn (42 : FuncId) [.ptr 6 0, .ptr 2 0, .ptr 4 0, .ptr 7 0]],
        AObj.cells [.str { data := List.toArray (Prod.fst x) }, AV.sl 2 (.map T.encS ((0 : Int), (0 : Int)) (Prod.snd x)) .none]]
      fun (r : AV) (H' : List AObj) =>
      ∃ (x_1 : Int × Bool),
        r = AV.tup [.int .i64 (Prod.fst x_1), .bool (Prod.snd x_1)] ∧
         H' =
         [AObj.mp (MM.typed T.EK es), AObj.cells [.map 0], AObj.cells [.sl 2 (.map T.encPk T.noPk l) .none],
         AObj.cells [.ptr 1 0, .sl 2 (.map T.encN ([], []) root) .none, .sl 2 (.map T.encPk T.noPk l) .none],
         AObj.cells [.ptr 3 0], AObj.mp (MM.typed T.EB (T.seenM o)), AObj.cells [.map 5],
         AObj.cells [.fn (42 : FuncId) [.ptr 6 0, .ptr 2 0, .ptr 4 0, .ptr 7 0]],
         AObj.cells [.str { data := List.toArray (Prod.fst x) }, AV.sl 2 (.map T.encS ((0 : Int), (0 : Int)) (Prod.snd x)) .none]] ∧
         condP (Prod.snd x_1)
         (ASpec Tryz.prog 44 [.ptr 3 0, .agg [.str { data := List.toArray (Prod.fst x) }, AV.int .i64 (Prod.fst x_1)]]
         [AObj.mp (MM.typed T.EK es), AObj.cells [.map 0], AObj.cells [.sl 2 (.map T.encPk T.noPk l) .none],
         AObj.cells [.ptr 1 0, .sl 2 (.map T.encN ([], []) root) .none, .sl 2 (.map T.encPk T.noPk l) .none],
         AObj.cells [.ptr 3 0], AObj.mp (MM.typed T.EB (T.seenM o)), AObj.cells [.map 5],
         AObj.cells [.fn (42 : FuncId) [.ptr 6 0, .ptr 2 0, .ptr 4 0, .ptr 7 0]],
         AObj.cells [.str { data := List.toArray (Prod.fst x) }, AV.sl 2 (.map T.encS ((0 : Int), (0 : Int)) (Prod.snd x)) .none]]
         fun (r : AV) (H' : List AObj) =>
         ∃ (x_2 : T.Rel × Bool),
         r = AV.tup [.agg [.int .i64 (Prod.fst (Prod.fst x_2)), .sl 2 (.map T.encN ([], []) (Prod.snd (Prod.fst x_2))) .none], .bool (Prod.snd x_2)] ∧
         H' =
         [AObj.mp (MM.typed T.EK es), AObj.cells [.map 0], AObj.cells [.sl 2 (.map T.encPk T.noPk l) .none],
         AObj.cells [.ptr 1 0, .sl 2 (.map T.encN ([], []) root) .none, .sl 2 (.map T.encPk T.noPk l) .none],
         AObj.cells [.ptr 3 0], AObj.mp (MM.typed T.EB (T.seenM o)), AObj.cells [.map 5],
         AObj.cells [.fn (42 : FuncId) [.ptr 6 0, .ptr 2 0, .ptr 4 0, .ptr 7 0]],
         AObj.cells [.str { data := List.toArray (Prod.fst x) }, AV.sl 2 (.map T.encS ((0 : Int), (0 : Int)) (Prod.snd x)) .none]] ∧
         ASpec Tryz.prog 42
         [.sl 2 (.map T.encN ([], []) (Prod.snd (Prod.fst x_2))) .none, .ptr 6 0, .ptr 2 0, .ptr 4 0,
         AV.ptr 7 0]
         [AObj.mp (MM.typed T.EK es), AObj.cells [.map 0], AObj.cells [.sl 2 (.map T.encPk T.noPk l) .none],
         AObj.cells [.ptr 1 0, .sl 2 (.map T.encN ([], []) root) .none, .sl 2 (.map T.encPk T.noPk l) .none],
         AObj.cells [.ptr 3 0], AObj.mp (MM.typed T.EB (T.seenM o)), AObj.cells [.map 5],
         AObj.cells [.fn (42 : FuncId) [.ptr 6 0, .ptr 2 0, .ptr 4 0, .ptr 7 0]],
         AObj.cells [.str { data := List.toArray (Prod.fst x) }, AV.sl 2 (.map T.encS ((0 : Int), (0 : Int)) (Prod.snd x)) .none],
         AObj.cells [.int .i64 (Prod.fst (Prod.fst x_2)), .sl 2 (.map T.encN ([], []) (Prod.snd (Prod.fst x_2))) .none]]
         fun (r : AV) (H' : List AObj) =>
         ∃ (x_3 : List (List UInt8)),
         r = AV.tup [] ∧
         H' =
         [AObj.mp (MM.typed T.EK es), AObj.cells [.map 0], AObj.cells [.sl 2 (.map T.encPk T.noPk l) .none],
         AObj.cells [.ptr 1 0, .sl 2 (.map T.encN ([], []) root) .none, .sl 2 (.map T.encPk T.noPk l) .none],
         AObj.cells [.ptr 3 0], AObj.mp (MM.typed T.EB (T.seenM x_3)), AObj.cells [.map 5],
         AObj.cells [.fn (42 : FuncId) [.ptr 6 0, .ptr 2 0, .ptr 4 0, .ptr 7 0]],
         AObj.cells [.str { data := List.toArray (Prod.fst x) }, AV.sl 2 (.map T.encS ((0 : Int), (0 : Int)) (Prod.snd x)) .none],
         AObj.cells [.int .i64 (Prod.fst (Prod.fst x_2)), .sl 2 (.map T.encN ([], []) (Prod.snd (Prod.fst x_2))) .none]] ∧
         AWP Tryz.prog 47 n_1 c42_1
         [(1, .ptr 6 0), (2, .ptr 2 0), (3, .ptr 4 0), (4, .ptr 7 0),
         (12, .sl 2 (.map T.encN ([], []) ns) .none), (13, .int .i64 n),
         (14, .int .i64 (IntKind.wrap .i64 (i + (1 : Int))))]
         [AObj.mp (MM.typed T.EK es), AObj.cells [.map 0], AObj.cells [.sl 2 (.map T.encPk T.noPk l) .none],
         AObj.cells [.ptr 1 0, .sl 2 (.map T.encN ([], []) root) .none, .sl 2 (.map T.encPk T.noPk l) .none],
         AObj.cells [.ptr 3 0], AObj.mp (MM.typed T.EB (T.seenM x_3)), AObj.cells [.map 5],
         AObj.cells [.fn (42 : FuncId) [.ptr 6 0, .ptr 2 0, .ptr 4 0, .ptr 7 0]],
         AObj.cells [.str { data := List.toArray (Prod.fst x) }, AV.sl 2 (.map T.encS ((0 : Int), (0 : Int)) (Prod.snd x)) .none],
         AObj.cells [.int .i64 (Prod.fst (Prod.fst x_2)), .sl 2 (.map T.encN ([], []) (Prod.snd (Prod.fst x_2))) .none]]
         (q42_1 n_1 Post))
         (AWP Tryz.prog 47 n_1 c42_1
         [(1, .ptr 6 0), (2, .ptr 2 0), (3, .ptr 4 0), (4, .ptr 7 0),
         (12, .sl 2 (.map T.encN ([], []) ns) .none), (13, .int .i64 n), (14, .int .i64 (IntKind.wrap .i64 (i + (1 : Int))))]
         [AObj.mp (MM.typed T.EK es), AObj.cells [.map 0], AObj.cells [.sl 2 (.map T.encPk T.noPk l) .none],
         AObj.cells [.ptr 1 0, .sl 2 (.map T.encN ([], []) root) .none, .sl 2 (.map T.encPk T.noPk l) .none],
         AObj.cells [.ptr 3 0], AObj.mp (MM.typed T.EB (T.seenM o)), AObj.cells [.map 5],
         AObj.cells [.fn (42 : FuncId) [.ptr 6 0, .ptr 2 0, .ptr 4 0, .ptr 7 0]],
         AObj.cells [.str { data := List.toArray (Prod.fst x) }, AV.sl 2 (.map T.encS ((0 : Int), (0 : Int)) (Prod.snd x)) .none]]
         (q42_1 n_1 Post))) →
    AWP Tryz.prog 47 n_1 c42_5
      [(1, .ptr 6 0), (2, .ptr 2 0), (3, .ptr 4 0), (4, .ptr 7 0),
        (7, .ptr 8 0), (12, .sl 2 (.map T.encN ([], []) ns) .none), (13, .int .i64 n), (14, .int .i64 i)]
      (T.HV es root l o ++ [AObj.cells (T.encN x)]) (q42_4 n_1 Post) := fun es root l o ns x n i n Post h => Go.Ab.awp_sound g42 n _ _ _ _ (Go.Ab.kc (by kernel_rfl) h)

-- 17
noncomputable def l17 : Nat → List Nat
  | 6 => [8]
  | 8 => [10, 23]
  | 11 => [10]
  | _ => []
noncomputable def u17 : Nat → Bool
  | 6 => true
  | 11 => true
  | _ => false
noncomputable def m17 : Nat → Bool
  | 31 => true
  | _ => false
noncomputable def g17 : Cfg := { N := 35, live := l17, cut := u17, mu := m17, ret := rets }
noncomputable def c17 : Go.Code := Go.Ab.bodyOf Go.Proofs.Tryz.f17
noncomputable def q17_0 : Nat → (AV → List AObj → Prop) → AQ := fun (n : Nat) (Post : AV → List AObj → Prop) => endQ Tryz.prog (resultsOf Tryz.f17) Post
noncomputable def c17_6 : Go.Code := codeSnd (codeSnd (codeSnd (codeSnd (codeSnd (codeSnd c17)))))
theorem s17 : ∀ (es : T.Kn) (root : List T.Need) (l : List T.Pk) (Post : AV → List AObj → Prop),
  (ASpec Tryz.prog 42 [.sl 2 (.map T.encN ([], []) root) .none, .ptr 6 0, .ptr 2 0, .ptr 4 0, .ptr 7 0]
      [AObj.mp (MM.typed T.EK es), AObj.cells [.map 0], AObj.cells [.sl 2 (.map T.encPk T.noPk l) .none],
        AObj.cells [.ptr 1 0, .sl 2 (.map T.encN ([], []) root) .none, .sl 2 (.map T.encPk T.noPk l) .none], AObj.cells [.ptr 3 0],
        AObj.mp MM.nil, AObj.cells [.map 5], AObj.cells [.fn 42 [.ptr 6 0, .ptr 2 0, .ptr 4 0, .ptr 7 0]]]
      fun (r : AV) (H' : List AObj) =>
      ∃ (x : List (List UInt8)),
        r = AV.tup [] ∧
         H' =
         [AObj.mp (MM.typed T.EK es), AObj.cells [.map 0], AObj.cells [.sl 2 (.map T.encPk T.noPk l) .none],
         AObj.cells [.ptr 1 0, .sl 2 (.map T.encN ([], []) root) .none, .sl 2 (.map T.encPk T.noPk l) .none],
         AObj.cells [.ptr 3 0], AObj.mp (MM.typed T.EB (T.seenM x)), AObj.cells [.map 5],
         AObj.cells [.fn 42 [.ptr 6 0, .ptr 2 0, .ptr 4 0, .ptr 7 0]]] ∧
         AWP Tryz.prog 35 2 c17_6 [(8, .ptr 6 0)]
         [AObj.mp (MM.typed T.EK es), AObj.cells [.map 0], AObj.cells [.sl 2 (.map T.encPk T.noPk l) .none],
         AObj.cells [.ptr 1 0, .sl 2 (.map T.encN ([], []) root) .none, .sl 2 (.map T.encPk T.noPk l) .none],
         AObj.cells [.ptr 3 0], AObj.mp (MM.typed T.EB (T.seenM x)), AObj.cells [.map 5],
         AObj.cells [.fn 42 [.ptr 6 0, .ptr 2 0, .ptr 4 0, .ptr 7 0]]]
         (q17_0 2 Post)) →
    ASpec Tryz.prog 17 [.ptr 1 0, .sl 2 (.map T.encN ([], []) root) .none, .sl 2 (.map T.encPk T.noPk l) .none] (T.HX es) Post := fun es root l Post h => Go.Ab.ASpec.of_vc g17 Go.Proofs.Tryz.func17 (by kernel_rfl) (by kernel_rfl) (by kernel_rfl) (Go.Ab.kc (by kernel_rfl) h)
noncomputable def c17_11 : Go.Code := codeSnd (codeSnd c17_6)
noncomputable def q17_1 : Nat → (AV → List AObj → Prop) → AQ := fun (n : Nat) (Post : AV → List AObj → Prop) => seqQ (fun (s' : Slots) (H' : List AObj) => AWP Tryz.prog (Cfg.N g17) n c17_11 (restrict s' (Cfg.live g17 11)) H' (q17_0 n Post)) (q17_0 n Post)
noncomputable def q17_2 : Nat → (AV → List AObj → Prop) → AQ := fun (n : Nat) (Post : AV → List AObj → Prop) => blockQ 0 (q17_1 n Post)
noncomputable def c17_8 : Go.Code := codeFst (codeSnd (codeFst (codeSnd c17_6)))
theorem v17_6 : ∀ (es : T.Kn) (o : List (List UInt8)) (n : Nat) (Post : AV → List AObj → Prop),
  (∀ (z : List Nat × Nat),
      List.Nodup (Prod.fst z) ∧ List.length (Prod.fst z) = MM.len (MM.typed T.EB (T.seenM o)) →
        AWP Tryz.prog 35 n c17_8 [(10, .sl 0 (.raw []) .nil), (23, .ptr 4 0)]
         [AObj.mp (MM.typed T.EK es), AObj.cells [.map 0], AObj.mpv (MM.typed T.EB (T.seenM o)) z, AObj.cells [.map 2], AObj.mit 2 z []] (q17_2 n Post)) →
    AWP Tryz.prog 35 n c17_6 [(8, .ptr 3 0)] (T.HX es ++ [AObj.mp (MM.typed T.EB (T.seenM o)), AObj.cells [.map 2]]) (q17_0 n Post) := fun es o n Post h => Go.Ab.awp_sound g17 n _ _ _ _ (Go.Ab.kc (by kernel_rfl) h)
theorem v17_8n : ∀ (es : T.Kn) (o : List (List UInt8)) (z : List Nat × Nat) (ps : List Nat) (n : Nat) (Post : AV → List AObj → Prop),
  needP (z = z)
      (((∀ (i : Nat), i < MM.len (MM.typed T.EB (T.seenM o)) → i ∈ ps) →
         AWP Tryz.prog 35 n c17_11 [(10, .sl 0 (.raw []) .nil)]
         [AObj.mp (MM.typed T.EK es), AObj.cells [.map 0], AObj.mpv (MM.typed T.EB (T.seenM o)) z, AObj.cells [.map 2], AObj.mit 2 z ps] (q17_0 n Post)) ∧
        ∀ (i : Nat),
         i < MM.len (MM.typed T.EB (T.seenM o)) →
         (i ∈ ps → False) →
         ∀ (k : ByteArray) (v : Bool),
         (T.seenM o)[i]? = some (k, v) →
         needP (z = z ∧ i < MM.len (MM.typed T.EB (T.seenM o)))
         (∀ (k : ByteArray) (v : Bool),
         (T.seenM o)[i]? = some (k, v) →
         needP (16 ≤ 140737488351232)
         (needP (1 ≤ 1)
         (AWP Tryz.prog 35 n c17_8 [(10, .msl 1 5 0 1), (23, .ptr 4 0)]
         [AObj.mp (MM.typed T.EK es), AObj.cells [.map 0], AObj.mpv (MM.typed T.EB (T.seenM o)) z, AObj.cells [.map 2], AObj.mit 2 z (i :: ps),
         AObj.arr 1 (.raw [[.str k]])]
         (q17_2 n Post))))) →
    AWP Tryz.prog 35 n c17_8 [(10, .sl 0 (.raw []) .nil), (23, .ptr 4 0)]
      (T.HX es ++ [AObj.mpv (MM.typed T.EB (T.seenM o)) z, AObj.cells [.map 2], AObj.mit 2 z ps]) (q17_2 n Post) := fun es o z ps n Post h => Go.Ab.AWP.loop' g17 (Cfg.live g17) c17_8 (by kernel_rfl) (by kernel_rfl) (Go.Ab.kc (by kernel_rfl) h)
theorem v17_8m : ∀ (es : T.Kn) (o : List (List UInt8)) (z : List Nat × Nat) (ps : List Nat) (w : List (List UInt8)) (n : Nat) (Post : AV → List AObj → Prop),
  needP (z = z)
      (((∀ (i : Nat), i < MM.len (MM.typed T.EB (T.seenM o)) → i ∈ ps) →
         AWP Tryz.prog 35 n c17_11 [(10, .msl 1 5 0 (List.length w))]
         [AObj.mp (MM.typed T.EK es), AObj.cells [AV.map 0], AObj.mpv (MM.typed T.EB (T.seenM o)) z, AObj.cells [.map 2], AObj.mit 2 z ps,
         AObj.arr 1 (.map T.encL [] w)]
         (q17_0 n Post)) ∧
        ∀ (i : Nat),
         i < MM.len (MM.typed T.EB (T.seenM o)) →
         (i ∈ ps → False) →
         ∀ (k : ByteArray) (v : Bool),
         (T.seenM o)[i]? = some (k, v) →
         needP (z = z ∧ i < MM.len (MM.typed T.EB (T.seenM o)))
         (∀ (k : ByteArray) (v : Bool),
         (T.seenM o)[i]? = some (k, v) →
         needP (List.length w = List.length w ∧ (List.length w + 1) * 16 ≤ 140737488351232)
         (AWP Tryz.prog 35 n c17_8 [(10, .msl 1 6 0 (List.length w + 1)), (23, .ptr 4 0)]
         [AObj.mp (MM.typed T.EK es), AObj.cells [.map 0], AObj.mpv (MM.typed T.EB (T.seenM o)) z, AObj.cells [.map 2], AObj.mit 2 z (i :: ps),
         AObj.gone, AObj.arr 1 (.app (.map T.encL [] w) (.raw [[.str k]]))]
         (q17_2 n Post)))) →
    AWP Tryz.prog 35 n c17_8 [(10, .msl 1 5 0 (List.length w)), (23, .ptr 4 0)]
      (T.HX es ++ [AObj.mpv (MM.typed T.EB (T.seenM o)) z, AObj.cells [.map 2], AObj.mit 2 z ps, AObj.arr 1 (.map T.encL [] w)]) (q17_2 n Post) := fun es o z ps w n Post h => Go.Ab.AWP.loop' g17 (Cfg.live g17) c17_8 (by kernel_rfl) (by kernel_rfl) (Go.Ab.kc (by kernel_rfl) h)
theorem v17_11n : ∀ (es : T.Kn) (n : Nat) (Post : AV → List AObj → Prop),
  (ASpec Tryz.prog 45 [.sl 0 (.raw []) .nil] [AObj.mp (MM.typed T.EK es), AObj.cells [.map 0]] fun (r : AV) (H' : List AObj) =>
      (∃ (x : Unit),
         r = AV.tup [] ∧ H' = [AObj.mp (MM.typed T.EK es), AObj.cells [.map 0]] ∧ Post (.sl 0 (.raw []) .nil) [AObj.mp (MM.typed T.EK es), AObj.cells [.map 0]]) ∨
        ∃ (x : List (List UInt8)),
         r = AV.tup [] ∧ H' = [AObj.mp (MM.typed T.EK es), AObj.cells [.map 0]] ∧ Post (.sl 0 (.raw []) .nil) [AObj.mp (MM.typed T.EK es), AObj.cells [.map 0]]) →
    AWP Tryz.prog 35 n c17_11 [(10, .sl 0 (.raw []) .nil)] (T.HX es) (q17_0 n Post) := fun es n Post h => Go.Ab.awp_sound g17 n _ _ _ _ (Go.Ab.kc (by kernel_rfl) h)
theorem v17_11m : ∀ (es : T.Kn) (w : List (List UInt8)) (n : Nat) (Post : AV → List AObj → Prop),
  (ASpec Tryz.prog 45 [.msl 1 2 0 (List.length w)] [AObj.mp (MM.typed T.EK es), AObj.cells [AV.map 0], AObj.arr 1 (.map T.encL [] w)]
      fun (r : AV) (H' : List AObj) =>
      (∃ (x : Unit),
         r = AV.tup [] ∧
         H' = [AObj.mp (MM.typed T.EK es), AObj.cells [.map 0], AObj.arr 1 (.map T.encL [] w)] ∧
         Post (.msl 1 2 0 (List.length w)) [AObj.mp (MM.typed T.EK es), AObj.cells [AV.map 0], AObj.arr 1 (.map T.encL [] w)]) ∨
        ∃ (x : List (List UInt8)),
         r = AV.tup [] ∧
         H' = [AObj.mp (MM.typed T.EK es), AObj.cells [.map 0], AObj.arr 1 (.map T.encL [] x)] ∧
         Post (.msl 1 2 0 (List.length w)) [AObj.mp (MM.typed T.EK es), AObj.cells [AV.map 0], AObj.arr 1 (.map T.encL [] x)]) →
    AWP Tryz.prog 35 n c17_11 [(10, .msl 1 2 0 (List.length w))] (T.HX es ++ [AObj.arr 1 (.map T.encL [] w)]) (q17_0 n Post) := fun es w n Post h => Go.Ab.awp_sound g17 n _ _ _ _ (Go.Ab.kc (by kernel_rfl) h)

-- 9
noncomputable def l9 : Nat → List Nat
  | _ => []
noncomputable def u9 : Nat → Bool
  | _ => false
noncomputable def m9 : Nat → Bool
  | 8 => true
  | 9 => true
  | _ => false
noncomputable def g9 : Cfg := { N := 38, live := l9, cut := u9, mu := m9, ret := rets }
theorem s9 : ∀ (Post : AV → List AObj → Prop),
  (ASpec Tryz.prog 31 [] [] fun (r : AV) (H' : List AObj) =>
      ∃ (x : Unit),
        r = AV.ptr 1 0 ∧
         H' = [AObj.mp (MM.typed T.EK []), AObj.cells [.map 0]] ∧
         ASpec Tryz.prog 32
         [.ptr 1 0, .str { data := #[(97 : UInt8)] },
         AV.sl 1 (.raw [[.int .u8 (1 : Int)], [.int .u8 (97 : Int)], [.int .u8 (1 : Int)], [.int .u8 (5 : Int)], [.int .u8 (0 : Int)]])
         .none]
         [AObj.mp (MM.typed T.EK []), AObj.cells [.map 0], AObj.gone] fun (r : AV) (H' : List AObj) =>
         ∃ (x : Int × T.Kn),
         r = AV.int .i64 (Prod.fst x) ∧
         H' = [AObj.mp (MM.typed T.EK (Prod.snd x)), AObj.cells [.map 0], AObj.gone] ∧
         ASpec Tryz.prog 12
         [.ptr 1 0,
         AV.sl 2 (.raw [[.str { data := #[(97 : UInt8)] }, AV.sl 2 (.raw [[.int .i64 (0 : Int), .int .i64 (9 : Int)]]) .full]]) .full,
         AV.sl 0 (.raw []) .nil]
         [AObj.mp (MM.typed T.EK (Prod.snd x)), AObj.cells [.map 0], AObj.gone] fun (r : AV) (H' : List AObj) =>
         ∃ (x_1 : Int × ByteArray),
         r = AV.tup [.int .i64 (Prod.fst x_1), .str (Prod.snd x_1)] ∧
         H' = [AObj.mp (MM.typed T.EK (Prod.snd x)), AObj.cells [.map 0], AObj.gone] ∧
         condP (Prod.fst x == (0 : Int))
         (ASpec Tryz.prog 14
         [.ptr 1 0,
         AV.sl 2 (.raw [[.str { data := #[(97 : UInt8)] }, AV.sl 2 (.raw [[.int .i64 (0 : Int), .int .i64 (9 : Int)]]) .full]])
         .full,
         AV.sl 2 (.raw [[.str { data := #[(97 : UInt8)] }, AV.int .i64 (5 : Int)]]) .full]
         [AObj.mp (MM.typed T.EK (Prod.snd x)), AObj.cells [.map 0], AObj.gone] fun (r : AV) (H' : List AObj) =>
         ∃ (x_2 : Bool),
         r = AV.bool x_2 ∧
         H' = [AObj.mp (MM.typed T.EK (Prod.snd x)), AObj.cells [.map 0], AObj.gone] ∧
         condP x_2
         (condP (Prod.fst x_1 == (2 : Int))
         (Post (.bool (ByteArray.toList (Prod.snd x_1) == ByteArray.toList { data := #[(97 : UInt8)] }))
         [AObj.mp (MM.typed T.EK (Prod.snd x)), AObj.cells [.map 0], AObj.gone])
         (Post (.bool false) [AObj.mp (MM.typed T.EK (Prod.snd x)), AObj.cells [.map 0], AObj.gone]))
         (Post (.bool false) [AObj.mp (MM.typed T.EK (Prod.snd x)), AObj.cells [.map 0], AObj.gone]))
         (Post (.bool false) [AObj.mp (MM.typed T.EK (Prod.snd x)), AObj.cells [.map 0], AObj.gone])) →
    ASpec Tryz.prog 9 [] [] Post := fun Post h => Go.Ab.ASpec.of_vc g9 Go.Proofs.Tryz.func9 (by kernel_rfl) (by kernel_rfl) (by kernel_rfl) (Go.Ab.kc (by kernel_rfl) h)

end
end Ft
end

section
/- Printed: what the code of functions 39, 75, 48, 18, 40, 13, 3 asks for, by the framework's own reading of it; each line is checked against the code. -/

set_option linter.unusedVariables false
set_option maxRecDepth 100000
set_option maxHeartbeats 4000000
open Go Go.Ab Go.Proofs
namespace Fd
noncomputable section

noncomputable def retFd : List (Nat × Ret) := [
  (39, ⟨Bool, fun _ _ x => .bool x, fun _ H _ => H⟩),
  (40, ⟨Bool, fun _ _ x => .bool x, fun _ H _ => H⟩),
  (16, ⟨Bool, fun _ _ x => .bool x, fun _ H _ => H⟩),
  (15, ⟨Bool, fun _ _ x => .bool x, fun _ H _ => H⟩),
  (73, ⟨Bool, fun _ _ x => .bool x, fun _ H _ => H⟩),
  (48, ⟨List T.Need, fun _ _ x => .sl 2 (.map T.encN ([], []) x) .none, fun _ H _ => H⟩),
  (18, ⟨List (List UInt8), fun _ _ x => .sl 1 (.map T.encL [] x) .none, fun _ H _ => H⟩),
  (46, ⟨List (List UInt8), fun _ _ x => .sl 1 (.map T.encL [] x) .none, fun _ H _ => H⟩),
  (13, ⟨Int × ByteArray, fun _ _ x => .tup [.int .i64 x.1, .str x.2], fun _ H _ => H⟩),
  (75, ⟨T.Rel × Bool, fun _ _ x => .tup [.agg (T.encR x.1), .bool x.2], fun _ H _ => H⟩),
  (47, ⟨Int × Bool, fun _ _ x => .tup [.int .i64 x.1, .bool x.2], fun _ H _ => H⟩),
  (9, ⟨Unit, fun _ _ _ => .bool true, fun _ H _ => H⟩)]
noncomputable def rets : FuncId → List Ret := fun f => match lookupR retFd f with
  | [] => (match Ft.rets f with | [] => Xd.rets f | l => l)
  | l => l

-- 39
noncomputable def l39 : Nat → List Nat
  | _ => []
noncomputable def u39 : Nat → Bool
  | _ => false
noncomputable def m39 : Nat → Bool
  | _ => false
noncomputable def g39 : Cfg := { N := 21, live := l39, cut := u39, mu := m39, ret := rets }
theorem s39 : ∀ (l : List T.Pk) (n : T.Need) (Post : AV → List AObj → Prop),
  (ASpec Tryz.prog 47 [.sl 2 (.map T.encPk T.noPk l) .none, .str { data := List.toArray (Prod.fst n) }]
      [AObj.cells [AV.str { data := List.toArray (Prod.fst n) }, AV.sl 2 (.map T.encS ((0 : Int), (0 : Int)) (Prod.snd n)) .none]] fun (r : AV) (H' : List AObj) =>
      ∃ (x : Int × Bool),
        r = AV.tup [.int .i64 (Prod.fst x), .bool (Prod.snd x)] ∧
         H' = [AObj.cells [.str { data := List.toArray (Prod.fst n) }, AV.sl 2 (.map T.encS ((0 : Int), (0 : Int)) (Prod.snd n)) .none]] ∧
         condP (Prod.snd x)
         (ASpec Tryz.prog 73 [.sl 2 (.map T.encS ((0 : Int), (0 : Int)) (Prod.snd n)) .none, .int .i64 (Prod.fst x)]
         [AObj.cells [.str { data := List.toArray (Prod.fst n) }, AV.sl 2 (.map T.encS ((0 : Int), (0 : Int)) (Prod.snd n)) .none]] fun (r : AV) (H' : List AObj) =>
         ∃ (x : Bool),
         r = AV.bool x ∧
         H' = [AObj.cells [.str { data := List.toArray (Prod.fst n) }, AV.sl 2 (.map T.encS ((0 : Int), (0 : Int)) (Prod.snd n)) .none]] ∧
         Post (.bool x) [AObj.cells [.str { data := List.toArray (Prod.fst n) }, AV.sl 2 (.map T.encS ((0 : Int), (0 : Int)) (Prod.snd n)) .none]])
         (Post (.bool false) [AObj.cells [.str { data := List.toArray (Prod.fst n) }, AV.sl 2 (.map T.encS ((0 : Int), (0 : Int)) (Prod.snd n)) .none]])) →
    ASpec Tryz.prog 39 [.sl 2 (.map T.encPk T.noPk l) .none, .agg (T.encN n)] [] Post := fun l n Post h => Go.Ab.ASpec.of_vc g39 Go.Proofs.Tryz.func39 (by kernel_rfl) (by kernel_rfl) (by kernel_rfl) (Go.Ab.kc (by kernel_rfl) h)

-- 75
noncomputable def l75 : Nat → List Nat
  | 2 => [1, 2, 4, 6]
  | _ => []
noncomputable def u75 : Nat → Bool
  | _ => false
noncomputable def m75 : Nat → Bool
  | _ => false
noncomputable def g75 : Cfg := { N := 28, live := l75, cut := u75, mu := m75, ret := rets }
noncomputable def c75 : Go.Code := Go.Ab.bodyOf Go.Proofs.Tryz.f75
noncomputable def q75_0 : Nat → (AV → List AObj → Prop) → AQ := fun (n : Nat) (Post : AV → List AObj → Prop) => endQ Tryz.prog (resultsOf Tryz.f75) Post
noncomputable def q75_1 : Nat → (AV → List AObj → Prop) → AQ := fun (n : Nat) (Post : AV → List AObj → Prop) => seqQ (fun (s' : Slots) (H' : List AObj) => awp Tryz.prog g75 n (codeSnd (codeSnd c75)) s' H' (q75_0 n Post)) (q75_0 n Post)
noncomputable def q75_2 : Nat → (AV → List AObj → Prop) → AQ := fun (n : Nat) (Post : AV → List AObj → Prop) => blockQ 0 (q75_1 n Post)
noncomputable def c75_2 : Go.Code := codeFst (codeSnd (codeFst (codeSnd c75)))
theorem s75 : ∀ (m : T.Mani) (v : Int) (Post : AV → List AObj → Prop),
  AWP Tryz.prog 28 0 c75_2
      [(1, .int .i64 v), (2, .ptr 0 0), (4, .ptr 1 0), (6, .int .i64 (0 : Int))]
      [AObj.cells [.str { data := List.toArray (Prod.fst m) }, AV.sl 2 (.map T.encR ((0 : Int), []) (Prod.snd m)) .none],
        AObj.cells [.int .i64 (0 : Int), .sl 0 (.raw []) .nil]]
      (q75_2 0 Post) →
    ASpec Tryz.prog 75 [.agg (T.encM m), .int .i64 v] [] Post := fun m v Post h => Go.Ab.ASpec.of_vc g75 Go.Proofs.Tryz.func75 (by kernel_rfl) (by kernel_rfl) (by kernel_rfl) (Go.Ab.kc (by kernel_rfl) h)
theorem v75_2 : ∀ (m : T.Mani) (v i : Int) (n : Nat) (Post : AV → List AObj → Prop),
  condP (decide (i < (↑(List.length (Prod.snd m)) : Int)))
      (needP ((0 : Int) ≤ i ∧ i < (↑(List.length (Prod.snd m)) : Int))
        (condP (Prod.fst (List.getD (Prod.snd m) (Int.toNat i) ((0 : Int), [])) == v)
         (needP ((0 : Int) ≤ i ∧ i < (↑(List.length (Prod.snd m)) : Int))
         (Post
         (AV.tup
         [AV.agg
         [.int .i64 (Prod.fst (List.getD (Prod.snd m) (Int.toNat i) ((0 : Int), []))),
         AV.sl 2 (.map T.encN ([], []) (Prod.snd (List.getD (Prod.snd m) (Int.toNat i) ((0 : Int), [])))) .none],
         AV.bool true])
         [AObj.cells [.str { data := List.toArray (Prod.fst m) }, AV.sl 2 (.map T.encR ((0 : Int), []) (Prod.snd m)) .none],
         AObj.cells
         [.int .i64 (Prod.fst (List.getD (Prod.snd m) (Int.toNat i) ((0 : Int), []))),
         AV.sl 2 (.map T.encN ([], []) (Prod.snd (List.getD (Prod.snd m) (Int.toNat i) ((0 : Int), [])))) .none]]))
         (AWP Tryz.prog 28 n c75_2
         [(1, .int .i64 v), (2, .ptr 0 0), (4, .ptr 1 0),
         (6, .int .i64 (IntKind.wrap .i64 (i + (1 : Int))))]
         [AObj.cells [.str { data := List.toArray (Prod.fst m) }, AV.sl 2 (.map T.encR ((0 : Int), []) (Prod.snd m)) .none],
         AObj.cells [.int .i64 (0 : Int), .sl 0 (.raw []) .nil]]
         (q75_2 n Post))))
      (Post (.tup [.agg [.int .i64 (0 : Int), .sl 0 (.raw []) .nil], .bool false])
        [AObj.cells [.str { data := List.toArray (Prod.fst m) }, AV.sl 2 (.map T.encR ((0 : Int), []) (Prod.snd m)) .none],
         AObj.cells [.int .i64 (0 : Int), .sl 0 (.raw []) .nil]]) →
    AWP Tryz.prog 28 n c75_2 [(1, .int .i64 v), (2, .ptr 0 0), (4, .ptr 1 0), (6, .int .i64 i)]
      [AObj.cells (T.encM m), AObj.cells [.int .i64 (0 : Int), .sl 0 (.raw []) .nil]] (q75_2 n Post) := fun m v i n Post h => Go.Ab.AWP.loop' g75 (Cfg.live g75) c75_2 (by kernel_rfl) (by kernel_rfl) (Go.Ab.kc (by kernel_rfl) h)

-- 48
noncomputable def l48 : Nat → List Nat
  | _ => []
noncomputable def u48 : Nat → Bool
  | _ => false
noncomputable def m48 : Nat → Bool
  | _ => false
noncomputable def g48 : Cfg := { N := 25, live := l48, cut := u48, mu := m48, ret := rets }
theorem s48 : ∀ (d : List T.Kd) (p : T.Pk) (Post : AV → List AObj → Prop),
  (ASpec Tryz.prog 74 [.agg [.sl 3 (.map T.encKd T.noKd d) .none], .str { data := List.toArray (Prod.fst p) }]
      [AObj.cells [AV.sl 3 (.map T.encKd T.noKd d) .none], AObj.cells [.str { data := List.toArray (Prod.fst p) }, AV.int .i64 (Prod.snd p)]] fun (r : AV) (H' : List AObj) =>
      ∃ (x : T.Mani × Bool),
        r = AV.tup [.agg [.str { data := List.toArray (Prod.fst (Prod.fst x)) }, AV.sl 2 (.map T.encR ((0 : Int), []) (Prod.snd (Prod.fst x))) .none], .bool (Prod.snd x)] ∧
         H' = [AObj.cells [.sl 3 (.map T.encKd T.noKd d) .none], AObj.cells [.str { data := List.toArray (Prod.fst p) }, AV.int .i64 (Prod.snd p)]] ∧
         ASpec Tryz.prog 75
         [.agg [.str { data := List.toArray (Prod.fst (Prod.fst x)) }, AV.sl 2 (.map T.encR ((0 : Int), []) (Prod.snd (Prod.fst x))) .none], .int .i64 (Prod.snd p)]
         [AObj.cells [.sl 3 (.map T.encKd T.noKd d) .none], AObj.cells [.str { data := List.toArray (Prod.fst p) }, AV.int .i64 (Prod.snd p)],
         AObj.cells [AV.str { data := List.toArray (Prod.fst (Prod.fst x)) }, AV.sl 2 (.map T.encR ((0 : Int), []) (Prod.snd (Prod.fst x))) .none]]
         fun (r : AV) (H' : List AObj) =>
         ∃ (x_1 : T.Rel × Bool),
         r = AV.tup [.agg [.int .i64 (Prod.fst (Prod.fst x_1)), .sl 2 (.map T.encN ([], []) (Prod.snd (Prod.fst x_1))) .none], .bool (Prod.snd x_1)] ∧
         H' =
         [AObj.cells [.sl 3 (.map T.encKd T.noKd d) .none], AObj.cells [.str { data := List.toArray (Prod.fst p) }, AV.int .i64 (Prod.snd p)],
         AObj.cells [AV.str { data := List.toArray (Prod.fst (Prod.fst x)) }, AV.sl 2 (.map T.encR ((0 : Int), []) (Prod.snd (Prod.fst x))) .none]] ∧
         Post (.sl 2 (.map T.encN ([], []) (Prod.snd (Prod.fst x_1))) .none)
         [AObj.cells [.sl 3 (.map T.encKd T.noKd d) .none], AObj.cells [.str { data := List.toArray (Prod.fst p) }, AV.int .i64 (Prod.snd p)],
         AObj.cells [AV.str { data := List.toArray (Prod.fst (Prod.fst x)) }, AV.sl 2 (.map T.encR ((0 : Int), []) (Prod.snd (Prod.fst x))) .none],
         AObj.cells [.int .i64 (Prod.fst (Prod.fst x_1)), .sl 2 (.map T.encN ([], []) (Prod.snd (Prod.fst x_1))) .none]]) →
    ASpec Tryz.prog 48 [.agg (T.encXd d), .agg (T.encPk p)] [] Post := fun d p Post h => Go.Ab.ASpec.of_vc g48 Go.Proofs.Tryz.func48 (by kernel_rfl) (by kernel_rfl) (by kernel_rfl) (Go.Ab.kc (by kernel_rfl) h)

-- 18
noncomputable def l18 : Nat → List Nat
  | 3 => [1, 2, 3, 7, 8]
  | 6 => [2, 3, 7]
  | 7 => [2, 3, 7, 9]
  | 11 => [2, 3, 7, 9, 10, 11]
  | 17 => [2, 3, 7, 9, 10, 11, 14, 15]
  | _ => []
noncomputable def u18 : Nat → Bool
  | 6 => true
  | _ => false
noncomputable def m18 : Nat → Bool
  | _ => false
noncomputable def g18 : Cfg := { N := 75, live := l18, cut := u18, mu := m18, ret := rets }
noncomputable def c18 : Go.Code := Go.Ab.bodyOf Go.Proofs.Tryz.f18
noncomputable def q18_0 : Nat → (AV → List AObj → Prop) → AQ := fun (n : Nat) (Post : AV → List AObj → Prop) => endQ Tryz.prog (resultsOf Tryz.f18) Post
noncomputable def c18_6 : Go.Code := codeSnd (codeSnd (codeSnd c18))
noncomputable def q18_1 : Nat → (AV → List AObj → Prop) → AQ := fun (n : Nat) (Post : AV → List AObj → Prop) => seqQ (fun (s' : Slots) (H' : List AObj) => AWP Tryz.prog (Cfg.N g18) n c18_6 (restrict s' (Cfg.live g18 6)) H' (q18_0 n Post)) (q18_0 n Post)
noncomputable def q18_2 : Nat → (AV → List AObj → Prop) → AQ := fun (n : Nat) (Post : AV → List AObj → Prop) => blockQ 0 (q18_1 n Post)
noncomputable def c18_3 : Go.Code := codeFst (codeSnd (codeFst (codeSnd (codeSnd c18))))
theorem s18 : ∀ (d : List T.Kd) (root : List T.Need) (l : List T.Pk) (Post : AV → List AObj → Prop),
  AWP Tryz.prog 75 0 c18_3
      [(1, .sl 2 (.map T.encN ([], []) root) .none), (2, .sl 2 (.map T.encPk T.noPk l) .none), (3, .ptr 0 0),
        (7, .sl 0 (.raw []) .nil), (8, .int .i64 (0 : Int))]
      [AObj.cells [.sl 3 (.map T.encKd T.noKd d) .none]] (q18_2 0 Post) →
    ASpec Tryz.prog 18 [.agg (T.encXd d), .sl 2 (.map T.encN ([], []) root) .none, .sl 2 (.map T.encPk T.noPk l) .none] [] Post := fun d root l Post h => Go.Ab.ASpec.of_vc g18 Go.Proofs.Tryz.func18 (by kernel_rfl) (by kernel_rfl) (by kernel_rfl) (Go.Ab.kc (by kernel_rfl) h)
theorem v18_3 : ∀ (d : List T.Kd) (root : List T.Need) (l : List T.Pk) (o : List (List UInt8)) (i : Int) (n : Nat) (Post : AV → List AObj → Prop),
  condP (decide (i < (↑(List.length root) : Int)))
      (needP ((0 : Int) ≤ i ∧ i < (↑(List.length root) : Int))
        (ASpec Tryz.prog 46 [AV.sl 1 (.map T.encL [] o) .none, .str { data := List.toArray (Prod.fst (List.getD root (Int.toNat i) ([], []))) }]
         [AObj.cells [AV.sl 3 (.map T.encKd T.noKd d) .none]] fun (r : AV) (H' : List AObj) =>
         ∃ (x : List (List UInt8)),
         r = AV.sl 1 (.map T.encL [] x) .none ∧
         H' = [AObj.cells [.sl 3 (.map T.encKd T.noKd d) .none]] ∧
         AWP Tryz.prog 75 n c18_3
         [(1, .sl 2 (.map T.encN ([], []) root) .none), (2, .sl 2 (.map T.encPk T.noPk l) .none), (3, .ptr 0 0),
         (7, .sl 1 (.map T.encL [] x) .none), (8, .int .i64 (IntKind.wrap .i64 (i + (1 : Int))))]
         [AObj.cells [.sl 3 (.map T.encKd T.noKd d) .none]] (q18_2 n Post)))
      (AWP Tryz.prog 75 n c18_6
        [(2, .sl 2 (.map T.encPk T.noPk l) .none), (3, .ptr 0 0), (7, .sl 1 (.map T.encL [] o) .none)]
        [AObj.cells [.sl 3 (.map T.encKd T.noKd d) .none]] (q18_0 n Post)) →
    AWP Tryz.prog 75 n c18_3
      [(1, .sl 2 (.map T.encN ([], []) root) .none), (2, .sl 2 (.map T.encPk T.noPk l) .none), (3, .ptr 0 0),
        (7, .sl 1 (.map T.encL [] o) .none), (8, .int .i64 i)]
      [AObj.cells (T.encXd d)] (q18_2 n Post) := fun d root l o i n Post h => Go.Ab.AWP.loop' g18 (Cfg.live g18) c18_3 (by kernel_rfl) (by kernel_rfl) (Go.Ab.kc (by kernel_rfl) h)
noncomputable def q18_3 : Nat → (AV → List AObj → Prop) → AQ := fun (n : Nat) (Post : AV → List AObj → Prop) => seqQ (fun (s' : Slots) (H' : List AObj) => awp Tryz.prog g18 n (codeSnd c18_6) s' H' (q18_0 n Post)) (q18_0 n Post)
noncomputable def q18_4 : Nat → (AV → List AObj → Prop) → AQ := fun (n : Nat) (Post : AV → List AObj → Prop) => blockQ 2 (q18_3 n Post)
noncomputable def c18_7 : Go.Code := codeFst (codeSnd (codeFst c18_6))
theorem v18_6 : ∀ (d : List T.Kd) (l : List T.Pk) (o : List (List UInt8)) (n : Nat) (Post : AV → List AObj → Prop),
  AWP Tryz.prog 75 n c18_7
      [(2, .sl 2 (.map T.encPk T.noPk l) .none), (3, .ptr 0 0), (7, .sl 1 (.map T.encL [] o) .none),
        (9, .int .i64 (0 : Int))]
      [AObj.cells [.sl 3 (.map T.encKd T.noKd d) .none]] (q18_4 n Post) →
    AWP Tryz.prog 75 n c18_6
      [(2, .sl 2 (.map T.encPk T.noPk l) .none), (3, .ptr 0 0), (7, .sl 1 (.map T.encL [] o) .none)] [AObj.cells (T.encXd d)]
      (q18_0 n Post) := fun d l o n Post h => Go.Ab.awp_sound g18 n _ _ _ _ (Go.Ab.kc (by kernel_rfl) h)
noncomputable def q18_5 : Nat → (AV → List AObj → Prop) → AQ := fun (n : Nat) (Post : AV → List AObj → Prop) => loopQ Tryz.prog 75 n c18_7 (q18_4 n Post) (Cfg.live g18)
noncomputable def q18_6 : Nat → (AV → List AObj → Prop) → AQ := fun (n : Nat) (Post : AV → List AObj → Prop) => seqQ (fun (s' : Slots) (H' : List AObj) => awp Tryz.prog g18 n (codeSnd (codeSnd (codeFst c18_7))) s' H' (q18_5 n Post)) (q18_5 n Post)
noncomputable def q18_7 : Nat → (AV → List AObj → Prop) → AQ := fun (n : Nat) (Post : AV → List AObj → Prop) => blockQ 3 (q18_6 n Post)
noncomputable def q18_8 : Nat → (AV → List AObj → Prop) → AQ := fun (n : Nat) (Post : AV → List AObj → Prop) => blockQ 4 (q18_7 n Post)
noncomputable def c18_11 : Go.Code := codeFst (codeSnd (codeSnd (codeFst (codeFst (codeSnd (codeFst c18_7))))))
theorem v18_7 : ∀ (d : List T.Kd) (l : List T.Pk) (o : List (List UInt8)) (k : Int) (n : Nat) (Post : AV → List AObj → Prop),
  condP (decide (k ≤ (↑(List.length l) : Int)))
      (AWP Tryz.prog 75 n c18_11
        [(2, .sl 2 (.map T.encPk T.noPk l) .none), (3, .ptr 0 0), (7, .sl 1 (.map T.encL [] o) .none),
         (9, .int .i64 k), (10, .sl 1 (.map T.encL [] o) .none), (11, .int .i64 (0 : Int))]
        [AObj.cells [.sl 3 (.map T.encKd T.noKd d) .none]] (q18_8 n Post))
      (Post (.sl 1 (.map T.encL [] o) .none) [AObj.cells [.sl 3 (.map T.encKd T.noKd d) .none]]) →
    AWP Tryz.prog 75 n c18_7
      [(2, .sl 2 (.map T.encPk T.noPk l) .none), (3, .ptr 0 0), (7, .sl 1 (.map T.encL [] o) .none),
        (9, .int .i64 k)]
      [AObj.cells (T.encXd d)] (q18_4 n Post) := fun d l o k n Post h => Go.Ab.AWP.loop' g18 (Cfg.live g18) c18_7 (by kernel_rfl) (by kernel_rfl) (Go.Ab.kc (by kernel_rfl) h)
noncomputable def q18_9 : Nat → (AV → List AObj → Prop) → AQ := fun (n : Nat) (Post : AV → List AObj → Prop) => loopQ Tryz.prog 75 n c18_11 (q18_8 n Post) (Cfg.live g18)
noncomputable def q18_10 : Nat → (AV → List AObj → Prop) → AQ := fun (n : Nat) (Post : AV → List AObj → Prop) => seqQ (fun (s' : Slots) (H' : List AObj) => awp Tryz.prog g18 n (codeSnd (codeSnd (codeFst c18_11))) s' H' (q18_9 n Post)) (q18_9 n Post)
noncomputable def q18_11 : Nat → (AV → List AObj → Prop) → AQ := fun (n : Nat) (Post : AV → List AObj → Prop) => blockQ 5 (q18_10 n Post)
noncomputable def q18_12 : Nat → (AV → List AObj → Prop) → AQ := fun (n : Nat) (Post : AV → List AObj → Prop) => blockQ 6 (q18_11 n Post)
noncomputable def c18_17 : Go.Code := codeFst (codeSnd (codeSnd (codeSnd (codeSnd (codeFst (codeFst (codeSnd (codeFst c18_11))))))))
theorem v18_11 : ∀ (d : List T.Kd) (l : List T.Pk) (o s : List (List UInt8)) (k i : Int) (n : Nat) (Post : AV → List AObj → Prop),
  condP (decide (i < (↑(List.length s) : Int)))
      (needP ((0 : Int) ≤ i ∧ i < (↑(List.length s) : Int))
        (ASpec Tryz.prog 47 [AV.sl 2 (.map T.encPk T.noPk l) .none, .str { data := List.toArray (List.getD s (Int.toNat i) []) }]
         [AObj.cells [AV.sl 3 (.map T.encKd T.noKd d) .none]] fun (r : AV) (H' : List AObj) =>
         ∃ (x : Int × Bool),
         r = AV.tup [.int .i64 (Prod.fst x), .bool (Prod.snd x)] ∧
         H' = [AObj.cells [.sl 3 (.map T.encKd T.noKd d) .none]] ∧
         condP (!Prod.snd x)
         (AWP Tryz.prog 75 n c18_11
         [(2, .sl 2 (.map T.encPk T.noPk l) .none), (3, .ptr 0 0), (7, .sl 1 (.map T.encL [] o) .none),
         (9, .int .i64 k), (10, .sl 1 (.map T.encL [] s) .none), (11, .int .i64 (IntKind.wrap .i64 (i + (1 : Int))))]
         [AObj.cells [.sl 3 (.map T.encKd T.noKd d) .none]] (q18_8 n Post))
         (needP ((0 : Int) ≤ i ∧ i < (↑(List.length s) : Int))
         (ASpec Tryz.prog 48
         [AV.agg [AV.sl 3 (.map T.encKd T.noKd d) .none], .agg [.str { data := List.toArray (List.getD s (Int.toNat i) []) }, AV.int .i64 (Prod.fst x)]]
         [AObj.cells [.sl 3 (.map T.encKd T.noKd d) .none]] fun (r : AV) (H' : List AObj) =>
         ∃ (x : List T.Need),
         r = AV.sl 2 (.map T.encN ([], []) x) .none ∧
         H' = [AObj.cells [.sl 3 (.map T.encKd T.noKd d) .none]] ∧
         AWP Tryz.prog 75 n c18_17
         [(2, .sl 2 (.map T.encPk T.noPk l) .none), (3, .ptr 0 0), (7, .sl 1 (.map T.encL [] o) .none),
         (9, .int .i64 k), (10, .sl 1 (.map T.encL [] s) .none), (11, .int .i64 i),
         (14, .sl 2 (.map T.encN ([], []) x) .none), (15, .int .i64 (0 : Int))]
         [AObj.cells [.sl 3 (.map T.encKd T.noKd d) .none]] (q18_12 n Post)))))
      (AWP Tryz.prog 75 n c18_7
        [(2, .sl 2 (.map T.encPk T.noPk l) .none), (3, .ptr 0 0), (7, .sl 1 (.map T.encL [] o) .none),
         (9, .int .i64 (IntKind.wrap .i64 (k + (1 : Int))))]
        [AObj.cells [.sl 3 (.map T.encKd T.noKd d) .none]] (q18_4 n Post)) →
    AWP Tryz.prog 75 n c18_11
      [(2, .sl 2 (.map T.encPk T.noPk l) .none), (3, .ptr 0 0), (7, .sl 1 (.map T.encL [] o) .none),
        (9, .int .i64 k), (10, .sl 1 (.map T.encL [] s) .none), (11, .int .i64 i)]
      [AObj.cells (T.encXd d)] (q18_8 n Post) := fun d l o s k i n Post h => Go.Ab.AWP.loop' g18 (Cfg.live g18) c18_11 (by kernel_rfl) (by kernel_rfl) (Go.Ab.kc (by kernel_rfl) h)
theorem v18_17 : ∀ (d : List T.Kd) (l : List T.Pk) (o s : List (List UInt8)) (t : List T.Need) (k i j : Int) (n : Nat) (Post : AV → List AObj → Prop),
  condP (decide (j < (↑(List.length t) : Int)))
      (needP ((0 : Int) ≤ j ∧ j < (↑(List.length t) : Int))
        (ASpec Tryz.prog 46 [AV.sl 1 (.map T.encL [] o) .none, .str { data := List.toArray (Prod.fst (List.getD t (Int.toNat j) ([], []))) }]
         [AObj.cells [AV.sl 3 (.map T.encKd T.noKd d) .none]] fun (r : AV) (H' : List AObj) =>
         ∃ (x : List (List UInt8)),
         r = AV.sl 1 (.map T.encL [] x) .none ∧
         H' = [AObj.cells [.sl 3 (.map T.encKd T.noKd d) .none]] ∧
         AWP Tryz.prog 75 n c18_17
         [(2, .sl 2 (.map T.encPk T.noPk l) .none), (3, .ptr 0 0), (7, .sl 1 (.map T.encL [] x) .none),
         (9, .int .i64 k), (10, .sl 1 (.map T.encL [] s) .none), (11, .int .i64 i),
         (14, .sl 2 (.map T.encN ([], []) t) .none), (15, .int .i64 (IntKind.wrap .i64 (j + (1 : Int))))]
         [AObj.cells [.sl 3 (.map T.encKd T.noKd d) .none]] (q18_12 n Post)))
      (AWP Tryz.prog 75 n c18_11
        [(2, .sl 2 (.map T.encPk T.noPk l) .none), (3, .ptr 0 0), (7, .sl 1 (.map T.encL [] o) .none),
         (9, .int .i64 k), (10, .sl 1 (.map T.encL [] s) .none), (11, .int .i64 (IntKind.wrap .i64 (i + (1 : Int))))]
        [AObj.cells [.sl 3 (.map T.encKd T.noKd d) .none]] (q18_8 n Post)) →
    AWP Tryz.prog 75 n c18_17
      [(2, .sl 2 (.map T.encPk T.noPk l) .none), (3, .ptr 0 0), (7, .sl 1 (.map T.encL [] o) .none),
        (9, .int .i64 k), (10, .sl 1 (.map T.encL [] s) .none), (11, .int .i64 i),
        (14, .sl 2 (.map T.encN ([], []) t) .none), (15, .int .i64 j)]
      [AObj.cells (T.encXd d)] (q18_12 n Post) := fun d l o s t k i j n Post h => Go.Ab.AWP.loop' g18 (Cfg.live g18) c18_17 (by kernel_rfl) (by kernel_rfl) (Go.Ab.kc (by kernel_rfl) h)

-- 40
noncomputable def l40 : Nat → List Nat
  | 8 => [1, 15, 16]
  | _ => []
noncomputable def u40 : Nat → Bool
  | _ => false
noncomputable def m40 : Nat → Bool
  | _ => false
noncomputable def g40 : Cfg := { N := 61, live := l40, cut := u40, mu := m40, ret := rets }
noncomputable def c40 : Go.Code := Go.Ab.bodyOf Go.Proofs.Tryz.f40
noncomputable def q40_0 : Nat → (AV → List AObj → Prop) → AQ := fun (n : Nat) (Post : AV → List AObj → Prop) => endQ Tryz.prog (resultsOf Tryz.f40) Post
noncomputable def q40_1 : Nat → (AV → List AObj → Prop) → AQ := fun (n : Nat) (Post : AV → List AObj → Prop) => seqQ (fun (s' : Slots) (H' : List AObj) => awp Tryz.prog g40 n (codeSnd (codeSnd (codeSnd c40))) s' H' (q40_0 n Post)) (q40_0 n Post)
noncomputable def q40_2 : Nat → (AV → List AObj → Prop) → AQ := fun (n : Nat) (Post : AV → List AObj → Prop) => seqQ (fun (s' : Slots) (H' : List AObj) => awp Tryz.prog g40 n (codeSnd (codeSnd (codeFst (codeSnd (codeFst (codeSnd (codeSnd c40))))))) s' H' (q40_1 n Post)) (q40_1 n Post)
noncomputable def q40_3 : Nat → (AV → List AObj → Prop) → AQ := fun (n : Nat) (Post : AV → List AObj → Prop) => blockQ 0 (q40_2 n Post)
noncomputable def c40_8 : Go.Code := codeFst (codeSnd (codeFst (codeSnd (codeFst (codeSnd (codeFst (codeSnd (codeSnd c40))))))))
theorem s40 : ∀ (d : List T.Kd) (l : List T.Pk) (p : T.Pk) (rule : Int) (q : List (List UInt8)) (Post : AV → List AObj → Prop),
  condP (rule == (3 : Int))
      (ASpec Tryz.prog 74 [.agg [.sl 3 (.map T.encKd T.noKd d) .none], .str { data := List.toArray (Prod.fst p) }]
        [AObj.cells [AV.sl 3 (.map T.encKd T.noKd d) .none], AObj.cells [.str { data := List.toArray (Prod.fst p) }, AV.int .i64 (Prod.snd p)]] fun (r : AV) (H' : List AObj) =>
        ∃ (x : T.Mani × Bool),
         r = AV.tup [.agg [.str { data := List.toArray (Prod.fst (Prod.fst x)) }, AV.sl 2 (.map T.encR ((0 : Int), []) (Prod.snd (Prod.fst x))) .none], .bool (Prod.snd x)] ∧
         H' = [AObj.cells [.sl 3 (.map T.encKd T.noKd d) .none], AObj.cells [.str { data := List.toArray (Prod.fst p) }, AV.int .i64 (Prod.snd p)]] ∧
         ASpec Tryz.prog 75
         [.agg [.str { data := List.toArray (Prod.fst (Prod.fst x)) }, AV.sl 2 (.map T.encR ((0 : Int), []) (Prod.snd (Prod.fst x))) .none], .int .i64 (Prod.snd p)]
         [AObj.cells [.sl 3 (.map T.encKd T.noKd d) .none], AObj.cells [.str { data := List.toArray (Prod.fst p) }, AV.int .i64 (Prod.snd p)],
         AObj.cells [AV.str { data := List.toArray (Prod.fst (Prod.fst x)) }, AV.sl 2 (.map T.encR ((0 : Int), []) (Prod.snd (Prod.fst x))) .none]]
         fun (r : AV) (H' : List AObj) =>
         ∃ (x_1 : T.Rel × Bool),
         r = AV.tup [.agg [.int .i64 (Prod.fst (Prod.fst x_1)), .sl 2 (.map T.encN ([], []) (Prod.snd (Prod.fst x_1))) .none], .bool (Prod.snd x_1)] ∧
         H' =
         [AObj.cells [.sl 3 (.map T.encKd T.noKd d) .none], AObj.cells [.str { data := List.toArray (Prod.fst p) }, AV.int .i64 (Prod.snd p)],
         AObj.cells [AV.str { data := List.toArray (Prod.fst (Prod.fst x)) }, AV.sl 2 (.map T.encR ((0 : Int), []) (Prod.snd (Prod.fst x))) .none]] ∧
         Post (.bool !Prod.snd x_1)
         [AObj.cells [.sl 3 (.map T.encKd T.noKd d) .none], AObj.cells [.str { data := List.toArray (Prod.fst p) }, AV.int .i64 (Prod.snd p)],
         AObj.cells [AV.str { data := List.toArray (Prod.fst (Prod.fst x)) }, AV.sl 2 (.map T.encR ((0 : Int), []) (Prod.snd (Prod.fst x))) .none],
         AObj.cells [.int .i64 (Prod.fst (Prod.fst x_1)), .sl 2 (.map T.encN ([], []) (Prod.snd (Prod.fst x_1))) .none]])
      (condP (rule == (4 : Int))
        (ASpec Tryz.prog 48 [.agg [.sl 3 (.map T.encKd T.noKd d) .none], .agg [.str { data := List.toArray (Prod.fst p) }, AV.int .i64 (Prod.snd p)]]
         [AObj.cells [AV.sl 3 (.map T.encKd T.noKd d) .none], AObj.cells [.str { data := List.toArray (Prod.fst p) }, AV.int .i64 (Prod.snd p)]]
         fun (r : AV) (H' : List AObj) =>
         ∃ (x : List T.Need),
         r = AV.sl 2 (.map T.encN ([], []) x) .none ∧
         H' = [AObj.cells [.sl 3 (.map T.encKd T.noKd d) .none], AObj.cells [.str { data := List.toArray (Prod.fst p) }, AV.int .i64 (Prod.snd p)]] ∧
         AWP Tryz.prog 61 0 c40_8
         [(1, .sl 2 (.map T.encPk T.noPk l) .none), (15, .sl 2 (.map T.encN ([], []) x) .none), (16, .int .i64 (0 : Int))]
         [AObj.cells [.sl 3 (.map T.encKd T.noKd d) .none], AObj.cells [.str { data := List.toArray (Prod.fst p) }, AV.int .i64 (Prod.snd p)]] (q40_3 0 Post))
        (ASpec Tryz.prog 46 [.sl 1 (.map T.encL [] q) .none, .str { data := List.toArray (Prod.fst p) }]
         [AObj.cells [AV.sl 3 (.map T.encKd T.noKd d) .none], AObj.cells [.str { data := List.toArray (Prod.fst p) }, AV.int .i64 (Prod.snd p)]]
         fun (r : AV) (H' : List AObj) =>
         ∃ (x : List (List UInt8)),
         r = AV.sl 1 (.map T.encL [] x) .none ∧
         H' = [AObj.cells [.sl 3 (.map T.encKd T.noKd d) .none], AObj.cells [.str { data := List.toArray (Prod.fst p) }, AV.int .i64 (Prod.snd p)]] ∧
         Post (.bool ((↑(List.length x) : Int) != (↑(List.length q) : Int)))
         [AObj.cells [AV.sl 3 (.map T.encKd T.noKd d) .none], AObj.cells [.str { data := List.toArray (Prod.fst p) }, AV.int .i64 (Prod.snd p)]])) →
    ASpec Tryz.prog 40 [.agg (T.encXd d), .sl 2 (.map T.encPk T.noPk l) .none, .agg (T.encPk p), .int .i64 rule, .sl 1 (.map T.encL [] q) .none] []
      Post := fun d l p rule q Post h => Go.Ab.ASpec.of_vc g40 Go.Proofs.Tryz.func40 (by kernel_rfl) (by kernel_rfl) (by kernel_rfl) (Go.Ab.kc (by kernel_rfl) h)
theorem v40_8 : ∀ (l : List T.Pk) (s : List T.Need) (i : Int) (n : Nat) (Post : AV → List AObj → Prop),
  condP (decide (i < (↑(List.length s) : Int)))
      (needP ((0 : Int) ≤ i ∧ i < (↑(List.length s) : Int))
        (ASpec Tryz.prog 39
         [AV.sl 2 (.map T.encPk T.noPk l) .none,
         AV.agg
         [.str { data := List.toArray (Prod.fst (List.getD s (Int.toNat i) ([], []))) },
         AV.sl 2 (.map T.encS ((0 : Int), (0 : Int)) (Prod.snd (List.getD s (Int.toNat i) ([], [])))) .none]]
         [] fun (r : AV) (H' : List AObj) =>
         ∃ (x : Bool),
         r = AV.bool x ∧
         H' = [] ∧
         condP (!x) (Post (.bool true) [])
         (AWP Tryz.prog 61 n c40_8
         [(1, .sl 2 (.map T.encPk T.noPk l) .none), (15, .sl 2 (.map T.encN ([], []) s) .none),
         (16, .int .i64 (IntKind.wrap .i64 (i + (1 : Int))))]
         [] (q40_3 n Post))))
      (Post (.bool false) []) →
    AWP Tryz.prog 61 n c40_8
      [(1, .sl 2 (.map T.encPk T.noPk l) .none), (15, .sl 2 (.map T.encN ([], []) s) .none), (16, .int .i64 i)] [] (q40_3 n Post) := fun l s i n Post h => Go.Ab.AWP.loop' g40 (Cfg.live g40) c40_8 (by kernel_rfl) (by kernel_rfl) (Go.Ab.kc (by kernel_rfl) h)

-- 13
noncomputable def l13 : Nat → List Nat
  | 4 => [1, 2, 3, 8]
  | 8 => [1, 2, 3]
  | 10 => [2, 3, 9, 10]
  | 13 => [2, 3, 9, 10, 11]
  | _ => []
noncomputable def u13 : Nat → Bool
  | 8 => true
  | _ => false
noncomputable def m13 : Nat → Bool
  | _ => false
noncomputable def g13 : Cfg := { N := 62, live := l13, cut := u13, mu := m13, ret := rets }
noncomputable def c13 : Go.Code := Go.Ab.bodyOf Go.Proofs.Tryz.f13
noncomputable def q13_0 : Nat → (AV → List AObj → Prop) → AQ := fun (n : Nat) (Post : AV → List AObj → Prop) => endQ Tryz.prog (resultsOf Tryz.f13) Post
noncomputable def c13_8 : Go.Code := codeSnd (codeSnd (codeSnd c13))
noncomputable def q13_1 : Nat → (AV → List AObj → Prop) → AQ := fun (n : Nat) (Post : AV → List AObj → Prop) => seqQ (fun (s' : Slots) (H' : List AObj) => AWP Tryz.prog (Cfg.N g13) n c13_8 (restrict s' (Cfg.live g13 8)) H' (q13_0 n Post)) (q13_0 n Post)
noncomputable def q13_2 : Nat → (AV → List AObj → Prop) → AQ := fun (n : Nat) (Post : AV → List AObj → Prop) => blockQ 0 (q13_1 n Post)
noncomputable def c13_4 : Go.Code := codeFst (codeSnd (codeFst (codeSnd (codeSnd c13))))
theorem s13 : ∀ (d : List T.Kd) (root : List T.Need) (l : List T.Pk) (Post : AV → List AObj → Prop),
  (ASpec Tryz.prog 15 [.sl 2 (.map T.encPk T.noPk l) .none] [AObj.cells [.sl 3 (.map T.encKd T.noKd d) .none]] fun (r : AV) (H' : List AObj) =>
      ∃ (x : Bool),
        r = AV.bool x ∧
         H' = [AObj.cells [.sl 3 (.map T.encKd T.noKd d) .none]] ∧
         condP (!x) (Post (.tup [.int .i64 (1 : Int), .str { data := #[] }]) [AObj.cells [.sl 3 (.map T.encKd T.noKd d) .none]])
         (AWP Tryz.prog 62 0 c13_4
         [(1, .sl 2 (.map T.encN ([], []) root) .none), (2, .sl 2 (.map T.encPk T.noPk l) .none), (3, .ptr 0 0),
         (8, .int .i64 (0 : Int))]
         [AObj.cells [.sl 3 (.map T.encKd T.noKd d) .none]] (q13_2 0 Post))) →
    ASpec Tryz.prog 13 [.agg (T.encXd d), .sl 2 (.map T.encN ([], []) root) .none, .sl 2 (.map T.encPk T.noPk l) .none] [] Post := fun d root l Post h => Go.Ab.ASpec.of_vc g13 Go.Proofs.Tryz.func13 (by kernel_rfl) (by kernel_rfl) (by kernel_rfl) (Go.Ab.kc (by kernel_rfl) h)
theorem v13_4 : ∀ (d : List T.Kd) (root : List T.Need) (l : List T.Pk) (i : Int) (n : Nat) (Post : AV → List AObj → Prop),
  condP (decide (i < (↑(List.length root) : Int)))
      (needP ((0 : Int) ≤ i ∧ i < (↑(List.length root) : Int))
        (ASpec Tryz.prog 39
         [AV.sl 2 (.map T.encPk T.noPk l) .none,
         AV.agg
         [.str { data := List.toArray (Prod.fst (List.getD root (Int.toNat i) ([], []))) },
         AV.sl 2 (.map T.encS ((0 : Int), (0 : Int)) (Prod.snd (List.getD root (Int.toNat i) ([], [])))) .none]]
         [AObj.cells [AV.sl 3 (.map T.encKd T.noKd d) .none]] fun (r : AV) (H' : List AObj) =>
         ∃ (x : Bool),
         r = AV.bool x ∧
         H' = [AObj.cells [.sl 3 (.map T.encKd T.noKd d) .none]] ∧
         condP (!x)
         (needP ((0 : Int) ≤ i ∧ i < (↑(List.length root) : Int))
         ((AV.str { data := List.toArray (Prod.fst (List.getD root (Int.toNat i) ([], []))) } = AV.str { data := List.toArray (Prod.fst (List.getD root (Int.toNat i) ([], []))) } ∧
         [AObj.cells [AV.sl 3 (.map T.encKd T.noKd d) .none]] = [AObj.cells [.sl 3 (.map T.encKd T.noKd d) .none]]) ∧
         Post (.tup [.int .i64 (2 : Int), .str { data := List.toArray (Prod.fst (List.getD root (Int.toNat i) ([], []))) }])
         [AObj.cells [AV.sl 3 (.map T.encKd T.noKd d) .none]]))
         (AWP Tryz.prog 62 n c13_4
         [(1, .sl 2 (.map T.encN ([], []) root) .none), (2, .sl 2 (.map T.encPk T.noPk l) .none), (3, .ptr 0 0),
         (8, .int .i64 (IntKind.wrap .i64 (i + (1 : Int))))]
         [AObj.cells [.sl 3 (.map T.encKd T.noKd d) .none]] (q13_2 n Post))))
      (AWP Tryz.prog 62 n c13_8
        [(1, .sl 2 (.map T.encN ([], []) root) .none), (2, .sl 2 (.map T.encPk T.noPk l) .none), (3, .ptr 0 0)]
        [AObj.cells [.sl 3 (.map T.encKd T.noKd d) .none]] (q13_0 n Post)) →
    AWP Tryz.prog 62 n c13_4
      [(1, .sl 2 (.map T.encN ([], []) root) .none), (2, .sl 2 (.map T.encPk T.noPk l) .none), (3, .ptr 0 0),
        (8, .int .i64 i)]
      [AObj.cells (T.encXd d)] (q13_2 n Post) := fun d root l i n Post h => Go.Ab.AWP.loop' g13 (Cfg.live g13) c13_4 (by kernel_rfl) (by kernel_rfl) (Go.Ab.kc (by kernel_rfl) h)
noncomputable def q13_3 : Nat → (AV → List AObj → Prop) → AQ := fun (n : Nat) (Post : AV → List AObj → Prop) => seqQ (fun (s' : Slots) (H' : List AObj) => awp Tryz.prog g13 n (codeSnd (codeSnd c13_8)) s' H' (q13_0 n Post)) (q13_0 n Post)
noncomputable def q13_4 : Nat → (AV → List AObj → Prop) → AQ := fun (n : Nat) (Post : AV → List AObj → Prop) => blockQ 2 (q13_3 n Post)
noncomputable def c13_10 : Go.Code := codeFst (codeSnd (codeFst (codeSnd c13_8)))
theorem v13_8 : ∀ (d : List T.Kd) (root : List T.Need) (l : List T.Pk) (n : Nat) (Post : AV → List AObj → Prop),
  (ASpec Tryz.prog 18
      [.agg [.sl 3 (.map T.encKd T.noKd d) .none], .sl 2 (.map T.encN ([], []) root) .none, .sl 2 (.map T.encPk T.noPk l) .none]
      [AObj.cells [.sl 3 (.map T.encKd T.noKd d) .none]] fun (r : AV) (H' : List AObj) =>
      ∃ (x : List (List UInt8)),
        r = AV.sl 1 (.map T.encL [] x) .none ∧
         H' = [AObj.cells [.sl 3 (.map T.encKd T.noKd d) .none]] ∧
         AWP Tryz.prog 62 n c13_10
         [(2, .sl 2 (.map T.encPk T.noPk l) .none), (3, .ptr 0 0), (9, .sl 1 (.map T.encL [] x) .none),
         (10, .int .i64 (3 : Int))]
         [AObj.cells [.sl 3 (.map T.encKd T.noKd d) .none]] (q13_4 n Post)) →
    AWP Tryz.prog 62 n c13_8
      [(1, .sl 2 (.map T.encN ([], []) root) .none), (2, .sl 2 (.map T.encPk T.noPk l) .none), (3, .ptr 0 0)]
      [AObj.cells (T.encXd d)] (q13_0 n Post) := fun d root l n Post h => Go.Ab.awp_sound g13 n _ _ _ _ (Go.Ab.kc (by kernel_rfl) h)
noncomputable def q13_5 : Nat → (AV → List AObj → Prop) → AQ := fun (n : Nat) (Post : AV → List AObj → Prop) => loopQ Tryz.prog 62 n c13_10 (q13_4 n Post) (Cfg.live g13)
noncomputable def q13_6 : Nat → (AV → List AObj → Prop) → AQ := fun (n : Nat) (Post : AV → List AObj → Prop) => seqQ (fun (s' : Slots) (H' : List AObj) => awp Tryz.prog g13 n (codeSnd (codeSnd (codeFst c13_10))) s' H' (q13_5 n Post)) (q13_5 n Post)
noncomputable def q13_7 : Nat → (AV → List AObj → Prop) → AQ := fun (n : Nat) (Post : AV → List AObj → Prop) => blockQ 3 (q13_6 n Post)
noncomputable def q13_8 : Nat → (AV → List AObj → Prop) → AQ := fun (n : Nat) (Post : AV → List AObj → Prop) => blockQ 4 (q13_7 n Post)
noncomputable def c13_13 : Go.Code := codeFst (codeSnd (codeFst (codeFst (codeSnd (codeFst c13_10)))))
theorem v13_10 : ∀ (d : List T.Kd) (l : List T.Pk) (q : List (List UInt8)) (rule : Int) (n : Nat) (Post : AV → List AObj → Prop),
  condP (decide (rule ≤ (5 : Int)))
      (AWP Tryz.prog 62 n c13_13
        [(2, .sl 2 (.map T.encPk T.noPk l) .none), (3, .ptr 0 0), (9, .sl 1 (.map T.encL [] q) .none),
         (10, .int .i64 rule), (11, .int .i64 (0 : Int))]
        [AObj.cells [.sl 3 (.map T.encKd T.noKd d) .none]] (q13_8 n Post))
      (Post (.tup [.int .i64 (0 : Int), .str { data := #[] }]) [AObj.cells [.sl 3 (.map T.encKd T.noKd d) .none]]) →
    AWP Tryz.prog 62 n c13_10
      [(2, .sl 2 (.map T.encPk T.noPk l) .none), (3, .ptr 0 0), (9, .sl 1 (.map T.encL [] q) .none),
        (10, .int .i64 rule)]
      [AObj.cells (T.encXd d)] (q13_4 n Post) := fun d l q rule n Post h => Go.Ab.AWP.loop' g13 (Cfg.live g13) c13_10 (by kernel_rfl) (by kernel_rfl) (Go.Ab.kc (by kernel_rfl) h)
theorem v13_13 : ∀ (d : List T.Kd) (l : List T.Pk) (q : List (List UInt8)) (rule i : Int) (n : Nat) (Post : AV → List AObj → Prop),
  condP (decide (i < (↑(List.length l) : Int)))
      (needP ((0 : Int) ≤ i ∧ i < (↑(List.length l) : Int))
        (ASpec Tryz.prog 40
         [AV.agg [AV.sl 3 (.map T.encKd T.noKd d) .none], .sl 2 (.map T.encPk T.noPk l) .none,
         AV.agg [.str { data := List.toArray (Prod.fst (List.getD l (Int.toNat i) T.noPk)) }, AV.int .i64 (Prod.snd (List.getD l (Int.toNat i) T.noPk))], .int .i64 rule,
         AV.sl 1 (.map T.encL [] q) .none]
         [AObj.cells [.sl 3 (.map T.encKd T.noKd d) .none]] fun (r : AV) (H' : List AObj) =>
         ∃ (x : Bool),
         r = AV.bool x ∧
         H' = [AObj.cells [.sl 3 (.map T.encKd T.noKd d) .none]] ∧
         condP x
         (needP ((0 : Int) ≤ i ∧ i < (↑(List.length l) : Int))
         ((AV.str { data := List.toArray (Prod.fst (List.getD l (Int.toNat i) T.noPk)) } = AV.str { data := List.toArray (Prod.fst (List.getD l (Int.toNat i) T.noPk)) } ∧
         [AObj.cells [AV.sl 3 (.map T.encKd T.noKd d) .none]] = [AObj.cells [.sl 3 (.map T.encKd T.noKd d) .none]]) ∧
         Post (.tup [.int .i64 rule, .str { data := List.toArray (Prod.fst (List.getD l (Int.toNat i) T.noPk)) }])
         [AObj.cells [AV.sl 3 (.map T.encKd T.noKd d) .none]]))
         (AWP Tryz.prog 62 n c13_13
         [(2, .sl 2 (.map T.encPk T.noPk l) .none), (3, .ptr 0 0), (9, .sl 1 (.map T.encL [] q) .none),
         (10, .int .i64 rule), (11, .int .i64 (IntKind.wrap .i64 (i + (1 : Int))))]
         [AObj.cells [.sl 3 (.map T.encKd T.noKd d) .none]] (q13_8 n Post))))
      (AWP Tryz.prog 62 n c13_10
        [(2, .sl 2 (.map T.encPk T.noPk l) .none), (3, .ptr 0 0), (9, .sl 1 (.map T.encL [] q) .none),
         (10, .int .i64 (IntKind.wrap .i64 (rule + (1 : Int))))]
        [AObj.cells [.sl 3 (.map T.encKd T.noKd d) .none]] (q13_4 n Post)) →
    AWP Tryz.prog 62 n c13_13
      [(2, .sl 2 (.map T.encPk T.noPk l) .none), (3, .ptr 0 0), (9, .sl 1 (.map T.encL [] q) .none),
        (10, .int .i64 rule), (11, .int .i64 i)]
      [AObj.cells (T.encXd d)] (q13_8 n Post) := fun d l q rule i n Post h => Go.Ab.AWP.loop' g13 (Cfg.live g13) c13_13 (by kernel_rfl) (by kernel_rfl) (Go.Ab.kc (by kernel_rfl) h)

-- 3
noncomputable def l3 : Nat → List Nat
  | 5 => [1, 2, 7, 8]
  | 9 => [1, 2, 7, 8]
  | _ => []
noncomputable def u3 : Nat → Bool
  | 5 => true
  | 9 => true
  | _ => false
noncomputable def m3 : Nat → Bool
  | _ => false
noncomputable def g3 : Cfg := { N := 81, live := l3, cut := u3, mu := m3, ret := rets }
noncomputable def c3 : Go.Code := Go.Ab.bodyOf Go.Proofs.Tryz.f3
noncomputable def q3_0 : Nat → (AV → List AObj → Prop) → AQ := fun (n : Nat) (Post : AV → List AObj → Prop) => endQ Tryz.prog (resultsOf Tryz.f3) Post
noncomputable def c3_5 : Go.Code := codeSnd (codeSnd (codeSnd (codeSnd c3)))
theorem s3 : ∀ (e : List T.Ent) (root : List T.Need) (l : List T.Pk) (Post : AV → List AObj → Prop),
  (ASpec Tryz.prog 5 [.sl 2 (.map T.encEn ([], []) e) .none] [] fun (r : AV) (H' : List AObj) =>
      ∃ (x : Bool),
        r = AV.bool x ∧
         H' = [] ∧
         condP x (ASpec Tryz.prog 9 [] [] fun (r : AV) (H' : List AObj) => ∃ (x : Unit), r = AV.bool true ∧ H' = [] ∧ Post (.bool true) [])
         (ASpec Tryz.prog 6 [.sl 2 (.map T.encN ([], []) root) .none] [] fun (r : AV) (H' : List AObj) =>
         ∃ (x : Bool),
         r = AV.bool x ∧
         H' = [] ∧
         condP x (ASpec Tryz.prog 9 [] [] fun (r : AV) (H' : List AObj) => ∃ (x : Unit), r = AV.bool true ∧ H' = [] ∧ Post (.bool true) [])
         (ASpec Tryz.prog 7 [.sl 2 (.map T.encN ([], []) root) .none] [] fun (r : AV) (H' : List AObj) =>
         ∃ (x : Bool),
         r = AV.bool x ∧
         H' = [] ∧
         condP (!x) (ASpec Tryz.prog 9 [] [] fun (r : AV) (H' : List AObj) => ∃ (x : Unit), r = AV.bool true ∧ H' = [] ∧ Post (.bool true) [])
         (ASpec Tryz.prog 8 [.sl 2 (.map T.encPk T.noPk l) .none] [] fun (r : AV) (H' : List AObj) =>
         ∃ (x : Bool),
         r = AV.bool x ∧
         H' = [] ∧
         condP x (ASpec Tryz.prog 9 [] [] fun (r : AV) (H' : List AObj) => ∃ (x : Unit), r = AV.bool true ∧ H' = [] ∧ Post (.bool true) [])
         (ASpec Tryz.prog 10 [.sl 2 (.map T.encEn ([], []) e) .none] [] fun (r : AV) (H' : List AObj) =>
         ∃ (x : List (ByteArray × T.Known)),
         r = AV.ptr 1 0 ∧
         H' = [AObj.mp (MM.typed T.EK x), AObj.cells [.map 0]] ∧
         ASpec Tryz.prog 11 [.sl 2 (.map T.encEn ([], []) e) .none] [AObj.mp (MM.typed T.EK x), AObj.cells [.map 0]]
         fun (r : AV) (H' : List AObj) =>
         ∃ (x_1 : List T.Kd),
         r = AV.agg [.sl 3 (.map T.encKd T.noKd x_1) .none] ∧
         H' = [AObj.mp (MM.typed T.EK x), AObj.cells [.map 0]] ∧
         AWP Tryz.prog 81 0 c3_5
         [(1, .sl 2 (.map T.encN ([], []) root) .none), (2, .sl 2 (.map T.encPk T.noPk l) .none),
         (7, .ptr 1 0), (8, .ptr 2 0)]
         [AObj.mp (MM.typed T.EK x), AObj.cells [.map 0], AObj.cells [.sl 3 (.map T.encKd T.noKd x_1) .none]]
         (q3_0 0 Post)))))) →
    ASpec Tryz.prog 3 [.sl 2 (.map T.encEn ([], []) e) .none, .sl 2 (.map T.encN ([], []) root) .none, .sl 2 (.map T.encPk T.noPk l) .none] []
      Post := fun e root l Post h => Go.Ab.ASpec.of_vc g3 Go.Proofs.Tryz.func3 (by kernel_rfl) (by kernel_rfl) (by kernel_rfl) (Go.Ab.kc (by kernel_rfl) h)
noncomputable def c3_9 : Go.Code := codeSnd (codeSnd (codeSnd c3_5))
theorem v3_5 : ∀ (d : List T.Kd) (root : List T.Need) (l : List T.Pk) (es : T.Kn) (n : Nat) (Post : AV → List AObj → Prop),
  (ASpec Tryz.prog 12 [.ptr 1 0, .sl 2 (.map T.encN ([], []) root) .none, .sl 2 (.map T.encPk T.noPk l) .none]
      [AObj.mp (MM.typed T.EK es), AObj.cells [.map 0], AObj.cells [.sl 3 (.map T.encKd T.noKd d) .none]] fun (r : AV) (H' : List AObj) =>
      ∃ (x : Int × ByteArray),
        r = AV.tup [.int .i64 (Prod.fst x), .str (Prod.snd x)] ∧
         H' = [AObj.mp (MM.typed T.EK es), AObj.cells [.map 0], AObj.cells [.sl 3 (.map T.encKd T.noKd d) .none]] ∧
         ASpec Tryz.prog 13
         [.agg [.sl 3 (.map T.encKd T.noKd d) .none], .sl 2 (.map T.encN ([], []) root) .none, .sl 2 (.map T.encPk T.noPk l) .none]
         [AObj.mp (MM.typed T.EK es), AObj.cells [.map 0], AObj.cells [.sl 3 (.map T.encKd T.noKd d) .none]] fun (r : AV) (H' : List AObj) =>
         ∃ (x_1 : Int × ByteArray),
         r = AV.tup [.int .i64 (Prod.fst x_1), .str (Prod.snd x_1)] ∧
         H' = [AObj.mp (MM.typed T.EK es), AObj.cells [.map 0], AObj.cells [.sl 3 (.map T.encKd T.noKd d) .none]] ∧
         condP (Prod.fst x != Prod.fst x_1)
         (Post (.bool false) [AObj.mp (MM.typed T.EK es), AObj.cells [.map 0], AObj.cells [.sl 3 (.map T.encKd T.noKd d) .none]])
         (condP (!ByteArray.toList (Prod.snd x) == ByteArray.toList (Prod.snd x_1))
         (Post (.bool false) [AObj.mp (MM.typed T.EK es), AObj.cells [.map 0], AObj.cells [.sl 3 (.map T.encKd T.noKd d) .none]])
         (ASpec Tryz.prog 14 [.ptr 1 0, .sl 2 (.map T.encN ([], []) root) .none, .sl 2 (.map T.encPk T.noPk l) .none]
         [AObj.mp (MM.typed T.EK es), AObj.cells [.map 0], AObj.cells [.sl 3 (.map T.encKd T.noKd d) .none]] fun (r : AV) (H' : List AObj) =>
         ∃ (x : Bool),
         r = AV.bool x ∧
         H' = [AObj.mp (MM.typed T.EK es), AObj.cells [.map 0], AObj.cells [.sl 3 (.map T.encKd T.noKd d) .none]] ∧
         condP (!x == (Prod.fst x_1 == (0 : Int)))
         (Post (.bool false) [AObj.mp (MM.typed T.EK es), AObj.cells [.map 0], AObj.cells [.sl 3 (.map T.encKd T.noKd d) .none]])
         (AWP Tryz.prog 81 n c3_9
         [(1, .sl 2 (.map T.encN ([], []) root) .none), (2, .sl 2 (.map T.encPk T.noPk l) .none),
         (7, .ptr 1 0), (8, .ptr 2 0)]
         [AObj.mp (MM.typed T.EK es), AObj.cells [.map 0], AObj.cells [.sl 3 (.map T.encKd T.noKd d) .none]] (q3_0 n Post))))) →
    AWP Tryz.prog 81 n c3_5
      [(1, .sl 2 (.map T.encN ([], []) root) .none), (2, .sl 2 (.map T.encPk T.noPk l) .none), (7, .ptr 1 0),
        (8, .ptr 2 0)]
      (T.HX es ++ [AObj.cells (T.encXd d)]) (q3_0 n Post) := fun d root l es n Post h => Go.Ab.awp_sound g3 n _ _ _ _ (Go.Ab.kc (by kernel_rfl) h)
theorem v3_9 : ∀ (d : List T.Kd) (root : List T.Need) (l : List T.Pk) (es : T.Kn) (n : Nat) (Post : AV → List AObj → Prop),
  (ASpec Tryz.prog 15 [.sl 2 (.map T.encPk T.noPk l) .none]
      [AObj.mp (MM.typed T.EK es), AObj.cells [.map 0], AObj.cells [.sl 3 (.map T.encKd T.noKd d) .none]] fun (r : AV) (H' : List AObj) =>
      ∃ (x : Bool),
        r = AV.bool x ∧
         H' = [AObj.mp (MM.typed T.EK es), AObj.cells [.map 0], AObj.cells [.sl 3 (.map T.encKd T.noKd d) .none]] ∧
         condP (!x)
         (AV.tup [] = AV.tup [] ∧
         ASpec Tryz.prog 9 [] [AObj.mp (MM.typed T.EK es), AObj.cells [.map 0], AObj.cells [.sl 3 (.map T.encKd T.noKd d) .none]]
         fun (r : AV) (H' : List AObj) =>
         ∃ (x : Unit),
         r = AV.bool true ∧
         H' = [AObj.mp (MM.typed T.EK es), AObj.cells [.map 0], AObj.cells [.sl 3 (.map T.encKd T.noKd d) .none]] ∧
         Post (.bool true) [AObj.mp (MM.typed T.EK es), AObj.cells [.map 0], AObj.cells [.sl 3 (.map T.encKd T.noKd d) .none]])
         (ASpec Tryz.prog 17 [.ptr 1 0, .sl 2 (.map T.encN ([], []) root) .none, .sl 2 (.map T.encPk T.noPk l) .none]
         [AObj.mp (MM.typed T.EK es), AObj.cells [.map 0], AObj.cells [.sl 3 (.map T.encKd T.noKd d) .none]] fun (r : AV) (H' : List AObj) =>
         ∃ (x : List (List UInt8)),
         r = AV.sl 1 (.map T.encL [] x) .none ∧
         H' = [AObj.mp (MM.typed T.EK es), AObj.cells [.map 0], AObj.cells [.sl 3 (.map T.encKd T.noKd d) .none]] ∧
         (AV.agg [.sl 3 (.map T.encKd T.noKd d) .none] = AV.agg [.sl 3 (.map T.encKd T.noKd d) .none] ∧
         [AObj.mp (MM.typed T.EK es), AObj.cells [.map 0], AObj.cells [.sl 3 (.map T.encKd T.noKd d) .none]] =
         [AObj.mp (MM.typed T.EK es), AObj.cells [.map 0], AObj.cells [.sl 3 (.map T.encKd T.noKd d) .none]]) ∧
         ASpec Tryz.prog 18
         [.agg [.sl 3 (.map T.encKd T.noKd d) .none], .sl 2 (.map T.encN ([], []) root) .none, .sl 2 (.map T.encPk T.noPk l) .none]
         [AObj.mp (MM.typed T.EK es), AObj.cells [.map 0], AObj.cells [.sl 3 (.map T.encKd T.noKd d) .none]] fun (r : AV) (H' : List AObj) =>
         ∃ (x_1 : List (List UInt8)),
         r = AV.sl 1 (.map T.encL [] x_1) .none ∧
         H' = [AObj.mp (MM.typed T.EK es), AObj.cells [.map 0], AObj.cells [.sl 3 (.map T.encKd T.noKd d) .none]] ∧
         ASpec Tryz.prog 16 [.sl 1 (.map T.encL [] x) .none, .sl 1 (.map T.encL [] x_1) .none]
         [AObj.mp (MM.typed T.EK es), AObj.cells [.map 0], AObj.cells [.sl 3 (.map T.encKd T.noKd d) .none]] fun (r : AV) (H' : List AObj) =>
         ∃ (x : Bool),
         r = AV.bool x ∧
         H' = [AObj.mp (MM.typed T.EK es), AObj.cells [.map 0], AObj.cells [.sl 3 (.map T.encKd T.noKd d) .none]] ∧
         condP x
         (ASpec Tryz.prog 9 [] [AObj.mp (MM.typed T.EK es), AObj.cells [.map 0], AObj.cells [.sl 3 (.map T.encKd T.noKd d) .none]]
         fun (r : AV) (H' : List AObj) =>
         ∃ (x : Unit),
         r = AV.bool true ∧
         H' = [AObj.mp (MM.typed T.EK es), AObj.cells [.map 0], AObj.cells [.sl 3 (.map T.encKd T.noKd d) .none]] ∧
         Post (.bool true) [AObj.mp (MM.typed T.EK es), AObj.cells [.map 0], AObj.cells [.sl 3 (.map T.encKd T.noKd d) .none]])
         (Post (.bool false) [AObj.mp (MM.typed T.EK es), AObj.cells [.map 0], AObj.cells [.sl 3 (.map T.encKd T.noKd d) .none]]))) →
    AWP Tryz.prog 81 n c3_9
      [(1, .sl 2 (.map T.encN ([], []) root) .none), (2, .sl 2 (.map T.encPk T.noPk l) .none), (7, .ptr 1 0),
        (8, .ptr 2 0)]
      (T.HX es ++ [AObj.cells (T.encXd d)]) (q3_0 n Post) := fun d root l es n Post h => Go.Ab.awp_sound g3 n _ _ _ _ (Go.Ab.kc (by kernel_rfl) h)

end
end Fd
end

section
/- The plain law of numbers as bytes. -/

namespace V

/-- the digits that go on -/
def lead (v : Nat) : List UInt8 := if _h : v = 0 then [] else lead (v / 128) ++ [UInt8.ofNat (128 + v % 128)]
  termination_by v
  decreasing_by omega

def enc (v : Nat) : List UInt8 := lead (v / 128) ++ [UInt8.ofNat (v % 128)]

end V
end

section
/- vlq.Put: what it computes. -/

set_option linter.unusedVariables false
set_option linter.unusedSimpArgs false
open Go Go.Ab Go.Proofs
namespace V

def big : Nat := 140737488351232

theorem tmodN (a b : Nat) : Int.tmod (a : Int) (b : Int) = ((a % b : Nat) : Int) := by rfl

theorem selTok : Sel 0 [1] [AObj.gone, AObj.tok] [AObj.tok] := Sel.one 1 rfl rfl

end V
end

section
/- The reader of bytes: what its methods compute. -/

set_option linter.unusedVariables false
set_option linter.unusedSimpArgs false
open Go Go.Ab Go.Proofs
namespace V

def scan : Nat → List UInt8 → Nat → Nat → Int ⊕ (Nat × Nat)
  | 0, _, _, _ => .inl 4
  | _ + 1, [], _, _ => .inl 2
  | f + 1, c :: s, x, i => if 128 ≤ c.toNat then scan f s (x * 128 + c.toNat % 128) (i + 1) else .inr (x * 128 + c.toNat % 128, i + 1)

/-- the number ahead, how many bytes it has, and what is wrong -/
def lookM (s : List UInt8) (most : Int) : Int × Nat × Int :=
  match s with
  | [] => (0, 0, 2)
  | c :: _ => if c = 128 then (0, 0, 3) else match scan 6 s 0 0 with
    | .inl e => (0, 0, e)
    | .inr (n, k) => if (n : Int) > min most 1099511627776 then (0, 0, 4) else (n, k, 0)

theorem getD_drop (bs : List UInt8) (q : Nat) (h : q < bs.length) : bs.drop q = bs.getD q 0 :: bs.drop (q + 1) := by
  rw [List.drop_eq_getElem_cons h]
  simp [List.getD, List.getElem?_eq_getElem h]

def peekP (bs : List UInt8) (p : Nat) (most : Int) (Post : AV → List AObj → Prop) : Int ⊕ (Nat × Nat) → Prop
  | .inl e => Post (.tup [.int .i64 0, .int .i64 p]) [rd bs p e]
  | .inr (n, k) => if (n : Int) > min most 1099511627776 then Post (.tup [.int .i64 0, .int .i64 p]) [rd bs p 4] else Post (.tup [.int .i64 n, .int .i64 (p + k : Nat)]) [rd bs p 0]

theorem min_if (most : Int) : (if 1099511627776 < most then 1099511627776 else most) = min most 1099511627776 := by
  split <;> omega

theorem peek9 {bs : List UInt8} {p : Nat} {most : Int} {Post : AV → List AObj → Prop} (hb : bs.length ≤ big) (hp : p ≤ bs.length) : ∀ (f i x : Nat), f + i = 6 → p + i ≤ bs.length → x < 128 ^ i →
    peekP bs p most Post (scan f (bs.drop (p + i)) x i) →
    AWP Tryz.prog 113 1 c160_9 [(0, .ptr 0 0), (1, .int .i64 most), (6, .int .i64 x), (44, .int .i64 i)] [rd bs p 0] (q160_2 1 Post) := by
  intro f
  unfold big at hb
  induction f with
  | zero =>
    intro i x hf hpi hx h
    refine v160_9 _ _ _ _ _ _ _ _ (condD (fun hc => by omega) fun hc => ⟨⟨rfl, rfl⟩, h⟩)
  | succ f ih =>
    intro i x hf hpi hx h
    have hi6 : (128 : Nat) ^ i ≤ 128 ^ 5 := Nat.pow_le_pow_right (by omega) (by omega)
    have h5 : (128 : Nat) ^ 5 = 34359738368 := by decide
    have hwp : IntKind.wrap .i64 ((p : Int) + i) = ((p + i : Nat) : Int) := by rw [wrap64 (by omega) (by omega)]; simp
    refine v160_9 _ _ _ _ _ _ _ _ (condD (fun hc => ?_) fun hc => by omega)
    rw [hwp]
    refine condE (fun he => ?_) fun he => ?_
    · have he : p + i = bs.length := by omega
      refine ⟨⟨rfl, rfl⟩, ?_⟩
      rw [List.drop_eq_nil_of_le (by omega)] at h
      exact h
    · have he : p + i ≠ bs.length := by omega
      refine needJ (by omega) (needJ (by decide) ?_)
      rw [Int.toNat_natCast]
      rw [getD_drop bs (p + i) (by omega)] at h
      generalize bs.getD (p + i) 0 = c at h ⊢
      have hc8 : c.toNat < 256 := c.toNat_lt
      have hwc : IntKind.wrap .i64 (c.toNat : Int) = (c.toNat : Int) := wrapN (by omega)
      have hx1 : IntKind.wrap .i64 (IntKind.wrap .i64 ((x : Int) * 128) + (c.toNat : Int).tmod 128) = ((x * 128 + c.toNat % 128 : Nat) : Int) := by
        rw [show (128 : Int) = ((128 : Nat) : Int) from rfl, tmodN, wrap64 (x := (x : Int) * ((128 : Nat) : Int)) (by omega) (by omega), wrap64 (by omega) (by omega)]
        simp
      rw [hwc, hx1]
      simp only [scan] at h
      refine condD (fun hg => ?_) fun hg => ?_
      · rw [if_pos (by omega)] at h
        rw [show IntKind.wrap .i64 ((i : Int) + 1) = ((i + 1 : Nat) : Int) by rw [wrap64 (by omega) (by omega)]; simp]
        refine ih (i + 1) _ (by omega) (by omega) ?_ ?_
        · rw [Nat.pow_succ]; omega
        · exact h
      · rw [if_neg (by omega)] at h
        simp only [peekP] at h
        rw [min_if]
        refine condD (fun hm => ?_) fun hm => ?_
        · rw [if_pos hm] at h
          exact ⟨⟨rfl, rfl⟩, h⟩
        · rw [if_neg hm] at h
          rw [show IntKind.wrap .i64 (((p + i : Nat) : Int) + 1) = ((p + (i + 1) : Nat) : Int) by rw [wrap64 (by omega) (by omega)]; omega]
          exact ⟨⟨rfl, rfl⟩, h⟩

theorem peek_spec {bs : List UInt8} {p : Nat} (most : Int) (hb : bs.length ≤ big) (hp : p ≤ bs.length) :
    ASpec Tryz.prog 160 [.ptr 0 0, .int .i64 most] [rd bs p 0] (fun r H' => r = .tup [.int .i64 (lookM (bs.drop p) most).1, .int .i64 (p + (lookM (bs.drop p) most).2.1 : Nat)] ∧ H' = [rd bs p (lookM (bs.drop p) most).2.2]) := by
  refine s160 _ _ _ _ _ (condE (fun he => ?_) fun he => ?_)
  · have he : p = bs.length := by omega
    rw [List.drop_eq_nil_of_le (by omega)]
    exact ⟨⟨rfl, rfl⟩, rfl, rfl⟩
  · have he : p ≠ bs.length := by omega
    refine needJ (by omega) ?_
    rw [Int.toNat_natCast]
    have hd := getD_drop bs p (by omega)
    refine condE (fun h1 => ?_) fun h1 => ?_
    · have h1 : (bs.getD p 0) = 128 := by
        have : (bs.getD p 0).toNat = 128 := by omega
        exact UInt8.toNat_inj.1 this
      have e : lookM (bs.drop p) most = (0, 0, 3) := by rw [hd]; simp only [lookM, if_pos h1]
      rw [e]
      exact ⟨⟨rfl, rfl⟩, rfl, rfl⟩
    · have h1 : (bs.getD p 0) ≠ 128 := by
        intro e
        rw [e] at h1
        exact h1 rfl
      refine peek9 hb hp 6 0 0 rfl (by omega) (by simp) ?_
      rw [Nat.add_zero]
      have e : lookM (bs.drop p) most = match scan 6 (bs.drop p) 0 0 with
        | .inl e => (0, 0, e)
        | .inr (n, k) => if (n : Int) > min most 1099511627776 then (0, 0, 4) else (n, k, 0) := by
        rw [hd]; simp only [lookM, if_neg h1]
      rw [e]
      cases scan 6 (bs.drop p) 0 0 with
      | inl er => exact ⟨rfl, rfl⟩
      | inr nk =>
        obtain ⟨n, k⟩ := nk
        simp only [peekP]
        split
        · exact ⟨rfl, rfl⟩
        · exact ⟨rfl, rfl⟩

theorem scan_le : ∀ (f : Nat) (s : List UInt8) (x i n k : Nat), scan f s x i = .inr (n, k) → i < k ∧ k ≤ i + s.length
  | 0, s, x, i, n, k, h => by simp [scan] at h
  | f + 1, [], x, i, n, k, h => by simp [scan] at h
  | f + 1, c :: s, x, i, n, k, h => by
    simp only [scan] at h
    split at h
    · have := scan_le f s _ _ _ _ h
      simp; omega
    · simp at h
      simp; omega

theorem lookM_le (s : List UInt8) (most : Int) : (lookM s most).2.1 ≤ s.length ∧ 0 ≤ (lookM s most).1 ∧ (lookM s most).1 ≤ 1099511627776 ∧ ((lookM s most).2.2 ≠ 0 → (lookM s most).1 = 0 ∧ (lookM s most).2.1 = 0) := by
  cases s with
  | nil => simp [lookM]
  | cons c s =>
    simp only [lookM]
    split
    · simp
    · split
      · simp
      · rename_i n k hs
        have := scan_le _ _ _ _ _ _ hs
        split
        · simp
        · refine ⟨?_, by simp, ?_, by simp⟩
          · show k ≤ _
            omega
          · show (n : Int) ≤ _
            omega

/-- a reader's next number: the answer, the place, the error -/
def numM (bs : List UInt8) (p : Nat) (e most : Int) : Int × Nat × Int :=
  if e ≠ 0 then (0, p, e) else ((lookM (bs.drop p) most).1, p + (lookM (bs.drop p) most).2.1, (lookM (bs.drop p) most).2.2)

def strM (bs : List UInt8) (p : Nat) (e most : Int) : List UInt8 × Nat × Int :=
  if e ≠ 0 then ([], p, e) else
    if (lookM (bs.drop p) most).2.2 ≠ 0 then ([], p, (lookM (bs.drop p) most).2.2) else
    if (lookM (bs.drop p) most).1 > (bs.length : Int) - ((p + (lookM (bs.drop p) most).2.1 : Nat) : Int) then ([], p, 2) else
      ((bs.drop (p + (lookM (bs.drop p) most).2.1)).take (lookM (bs.drop p) most).1.toNat, p + (lookM (bs.drop p) most).2.1 + (lookM (bs.drop p) most).1.toNat, 0)

theorem num_spec0 {bs : List UInt8} {p : Nat} (e most : Int) (hb : bs.length ≤ big) (hp : p ≤ bs.length) :
    ASpec Tryz.prog 127 [.ptr 0 0, .int .i64 most] [rd bs p e] (fun r H' => r = .int .i64 (numM bs p e most).1 ∧ H' = [rd bs (numM bs p e most).2.1 (numM bs p e most).2.2]) := by
  refine s127 _ _ _ _ _ (condNe (fun he => ?_) fun he => ?_)
  · rw [show numM bs p e most = (0, p, e) by simp only [numM, if_pos he]]
    exact ⟨rfl, rfl⟩
  · subst he
    rw [show numM bs p 0 most = ((lookM (bs.drop p) most).1, p + (lookM (bs.drop p) most).2.1, (lookM (bs.drop p) most).2.2) by simp [numM]]
    refine ASpec.call (peek_spec most hb hp) (Les.refl _) ⟨(_, _, _, _), rfl, rfl, rfl, rfl⟩

theorem str_spec0 {bs : List UInt8} {p : Nat} (e most : Int) (hb : bs.length ≤ big) (hp : p ≤ bs.length) :
    ASpec Tryz.prog 125 [.ptr 0 0, .int .i64 most] [rd bs p e] (fun r H' => r = .str ⟨(strM bs p e most).1.toArray⟩ ∧ H' = [rd bs (strM bs p e most).2.1 (strM bs p e most).2.2]) := by
  refine s125 _ _ _ _ _ (condNe (fun he => ?_) fun he => ?_)
  · rw [show strM bs p e most = ([], p, e) by simp only [strM, if_pos he]]
    exact ⟨rfl, rfl⟩
  · subst he
    obtain ⟨h1, h2, h3, h4⟩ := lookM_le (bs.drop p) most
    have hs : strM bs p 0 most = if (lookM (bs.drop p) most).2.2 ≠ 0 then ([], p, (lookM (bs.drop p) most).2.2) else
      if (lookM (bs.drop p) most).1 > (bs.length : Int) - ((p + (lookM (bs.drop p) most).2.1 : Nat) : Int) then ([], p, 2) else
      ((bs.drop (p + (lookM (bs.drop p) most).2.1)).take (lookM (bs.drop p) most).1.toNat, p + (lookM (bs.drop p) most).2.1 + (lookM (bs.drop p) most).1.toNat, 0) := by simp [strM]
    refine ASpec.call (peek_spec most hb hp) (Les.refl _) ⟨((lookM (bs.drop p) most).1, ((p + (lookM (bs.drop p) most).2.1 : Nat) : Int), p, (lookM (bs.drop p) most).2.2), rfl, rfl, ?_⟩
    generalize lookM (bs.drop p) most = q at h1 h2 h3 h4 hs ⊢
    obtain ⟨n, k, er⟩ := q
    unfold big at hb
    rw [List.length_drop] at h1
    simp only at h1 h2 h3 h4 hs ⊢
    refine condNe (fun he => ?_) fun he => ?_
    · rw [hs, if_pos he]; exact ⟨rfl, rfl⟩
    · subst he
      rw [wrap64 (x := (bs.length : Int) - ((p + k : Nat) : Int)) (by omega) (by omega)]
      refine condD (fun hg => ?_) fun hg => ?_
      · rw [hs, if_neg (by simp), if_pos hg]; exact ⟨rfl, rfl⟩
      · rw [hs, if_neg (by simp), if_neg hg]
        have hw : IntKind.wrap .i64 (((p + k : Nat) : Int) + n) = ((p + k + n.toNat : Nat) : Int) := by
          have h5 : 0 ≤ n := h2
          rw [wrap64 (x := ((p + k : Nat) : Int) + n) (by omega) (by omega)]; omega
        rw [hw]
        refine needJ (by omega) (needJ (allBytes_map _) ?_)
        rw [bytesOf_map, Int.toNat_natCast, Int.toNat_natCast, List.drop_take]
        refine ⟨?_, rfl⟩
        rw [show p + k + n.toNat - (p + k) = n.toNat by omega]

end V
end

section
/- The document's numbers, texts and reader: what they compute. -/

set_option linter.unusedVariables false
set_option linter.unusedSimpArgs false
open Go Go.Ab Go.Proofs
namespace V

abbrev B (l : List UInt8) : ByteArray := ⟨l.toArray⟩

theorem B_size (l : List UInt8) : (B l).size = l.length := by simp [ByteArray.size]
theorem B_toList (l : List UInt8) : (B l).toList = l := by rw [ByteArray.toList_eq]
theorem B_beq (a b : List UInt8) : ((B a).toList == (B b).toList) = (a == b) := by rw [B_toList, B_toList]
theorem B_extract (l : List UInt8) (i j : Nat) (h : j ≤ l.length) : (B l).extract i j = B ((l.take j).drop i) := by
  apply ByteArray.ext
  apply Array.toList_inj.1
  simp [List.drop_take]

theorem condS {a b : List UInt8} {A C : Prop} (h1 : a = b → A) (h2 : a ≠ b → C) : condP ((B a).toList == (B b).toList) A C := by
  rw [B_beq]
  by_cases h : a = b
  · rw [beq_iff_eq.2 h]; exact h1 h
  · rw [beq_eq_false_iff_ne.2 h]; exact h2 h

/-! ### numbers -/

/-! ### the document's look -/

def acc (x : Nat) : List UInt8 → Nat
  | [] => x
  | c :: s => acc (x * 128 + c.toNat % 128) s

theorem acc_lt : ∀ (s : List UInt8) (x i : Nat), x < 128 ^ i → acc x s < 128 ^ (i + s.length)
  | [], x, i, h => h
  | c :: s, x, i, h => by
    simp only [acc, List.length_cons]
    have := acc_lt s (x * 128 + c.toNat % 128) (i + 1) (by rw [Nat.pow_succ]; omega)
    rwa [show i + (s.length + 1) = i + 1 + s.length by omega]

theorem acc_append (x : Nat) : ∀ (s t : List UInt8), acc x (s ++ t) = acc (acc x s) t
  | [], t => rfl
  | c :: s, t => acc_append _ s t

theorem scan_hi : ∀ (k : Nat) (s : List UInt8) (x i f : Nat), k ≤ s.length → k ≤ f → (∀ j, j < k → 128 ≤ (s.getD j 0).toNat) → scan f s x i = scan (f - k) (s.drop k) (acc x (s.take k)) (i + k)
  | 0, s, x, i, f, _, _, _ => by simp [acc]
  | k + 1, [], x, i, f, h, _, _ => by simp at h
  | k + 1, c :: s, x, i, 0, _, h, _ => by omega
  | k + 1, c :: s, x, i, f + 1, h1, h2, h3 => by
    have hc : 128 ≤ c.toNat := by simpa using h3 0 (by omega)
    simp only [scan, if_pos hc]
    rw [scan_hi k s _ (i + 1) f (by simpa using h1) (by omega) (fun j hj => by simpa using h3 (j + 1) (by omega))]
    simp only [List.take_succ_cons, acc, List.drop_succ_cons]
    congr 1 <;> omega

theorem look14 {l : List UInt8} {most : Int} {k : Nat} {Post : AV → List AObj → Prop} (hk : k < 6) (hkl : k < l.length) : ∀ (m i : Nat), m + i = k + 1 →
    (if (acc 0 (l.take (k + 1)) : Int) > min most 1099511627776 then Post (.tup [.int .i64 0, .int .i64 0, .int .i64 4]) [] else Post (.tup [.int .i64 (acc 0 (l.take (k + 1)) : Nat), .int .i64 (k + 1 : Nat), .int .i64 0]) []) →
    AWP Tryz.prog 60 0 c163_14 [(0, .str (B l)), (1, .int .i64 most), (7, .int .i64 k), (8, .int .i64 (acc 0 (l.take i) : Nat)), (9, .int .i64 i)] [] (q163_4 0 Post) := by
  intro m
  induction m with
  | zero =>
    intro i hm h
    refine v163_14 _ _ _ _ _ _ _ (condD (fun hc => by omega) fun hc => ?_)
    rw [show i = k + 1 by omega]
    refine condD (fun h1 => ?_) fun h1 => condD (fun h2 => ?_) fun h2 => ?_
    · rw [if_pos (by omega)] at h; exact h
    · rw [if_pos (by omega)] at h; exact h
    · rw [if_neg (by omega)] at h
      rw [show IntKind.wrap .i64 ((k : Int) + 1) = ((k + 1 : Nat) : Int) by rw [wrap64 (by omega) (by omega)]; simp]
      exact h
  | succ m ih =>
    intro i hm h
    refine v163_14 _ _ _ _ _ _ _ (condD (fun hc => needJ ?_ (needJ (by decide) ?_)) fun hc => by omega)
    · rw [B_size]; omega
    · have hx := acc_lt (l.take i) 0 0 (by simp)
      have hlen : (l.take i).length ≤ 5 := by simp; omega
      have hp : (128 : Nat) ^ (0 + (l.take i).length) ≤ 128 ^ 5 := Nat.pow_le_pow_right (by omega) (by omega)
      have h5 : (128 : Nat) ^ 5 = 34359738368 := by decide
      have e : acc 0 (l.take (i + 1)) = acc 0 (l.take i) * 128 + (l.getD i 0).toNat % 128 := by
        have : l.take (i + 1) = l.take i ++ [l.getD i 0] := by
          rw [List.take_add_one]
          simp [List.getElem?_eq_getElem (show i < l.length by omega)]
        rw [this, acc_append]; rfl
      have := ih (i + 1) (by omega) h
      rw [e] at this
      generalize acc 0 (l.take i) = x at this hx ⊢
      have hg : (B l).data.toList.getD (Int.toNat (i : Int)) 0 = l.getD i 0 := rfl
      rw [hg]
      generalize l.getD i 0 = c at this ⊢
      have hc8 : c.toNat < 256 := c.toNat_lt
      rw [show IntKind.wrap .i64 ((i : Int) + 1) = ((i + 1 : Nat) : Int) by rw [wrap64 (by omega) (by omega)]; simp]
      rw [show (128 : Int) = ((128 : Nat) : Int) from rfl, tmodN, wrap64 (x := (x : Int) * ((128 : Nat) : Int)) (by omega) (by omega), wrap64 (x := ((c.toNat % 128 : Nat) : Int)) (by omega) (by omega), wrap64 (by omega) (by omega)]
      have e2 : (x : Int) * ((128 : Nat) : Int) + ((c.toNat % 128 : Nat) : Int) = ((x * 128 + c.toNat % 128 : Nat) : Int) := by simp
      rw [e2]
      exact this

def lookP (Post : AV → List AObj → Prop) (most : Int) : Int ⊕ (Nat × Nat) → Prop
  | .inl e => Post (.tup [.int .i64 0, .int .i64 0, .int .i64 e]) []
  | .inr (n, k) => if (n : Int) > min most 1099511627776 then Post (.tup [.int .i64 0, .int .i64 0, .int .i64 4]) [] else Post (.tup [.int .i64 n, .int .i64 k, .int .i64 0]) []

theorem look6 {l : List UInt8} {most : Int} {Post : AV → List AObj → Prop} (hl : l.length ≤ 10 * big) : ∀ (m k : Nat), m + k = 6 → k ≤ l.length → (∀ j, j < k → 128 ≤ (l.getD j 0).toNat) → lookP Post most (scan 6 l 0 0) →
    AWP Tryz.prog 60 0 c163_6 [(0, .str (B l)), (1, .int .i64 most), (7, .int .i64 k)] [] (q163_2 0 Post) := by
  unfold big at hl
  -- behind the loop
  have tail : ∀ k, k ≤ 6 → k ≤ l.length → (∀ j, j < k → 128 ≤ (l.getD j 0).toNat) → (k < 6 → k < l.length → (l.getD k 0).toNat < 128) → lookP Post most (scan 6 l 0 0) →
      condP ((k : Int) == (6 : Int)) (Post (.tup [.int .i64 0, .int .i64 0, .int .i64 4]) [])
        (condP ((k : Int) == ((B l).size : Int)) (Post (.tup [.int .i64 0, .int .i64 0, .int .i64 2]) [])
          (AWP Tryz.prog 60 0 c163_14 [(0, .str (B l)), (1, .int .i64 most), (7, .int .i64 k), (8, .int .i64 0), (9, .int .i64 0)] [] (q163_4 0 Post))) := by
    intro k hk hkl hhi hlo h
    rw [scan_hi k l 0 0 6 hkl hk hhi] at h
    refine condE (fun e => ?_) fun e => condE (fun e2 => ?_) fun e2 => ?_
    · have : k = 6 := by omega
      subst this
      exact h
    · rw [B_size] at e2
      have : k = l.length := by omega
      rw [List.drop_eq_nil_of_le (by omega), show 6 - k = (5 - k) + 1 by omega] at h
      exact h
    · rw [B_size] at e2
      have hlt : (l.getD k 0).toNat < 128 := hlo (by omega) (by omega)
      rw [getD_drop l k (by omega), show 6 - k = (5 - k) + 1 by omega] at h
      simp only [scan, if_neg (show ¬ 128 ≤ (l.getD k 0).toNat by omega)] at h
      refine look14 (by omega) (by omega) (k + 1) 0 rfl ?_
      have e : acc 0 (l.take (k + 1)) = acc 0 (l.take k) * 128 + (l.getD k 0).toNat % 128 := by
        have : l.take (k + 1) = l.take k ++ [l.getD k 0] := by
          rw [List.take_add_one]
          simp [List.getElem?_eq_getElem (show k < l.length by omega)]
        rw [this, acc_append]; rfl
      rw [e]
      simpa [lookP] using h
  intro m
  induction m with
  | zero =>
    intro k hm hkl hhi h
    have : k = 6 := by omega
    subst this
    refine v163_6 _ _ _ _ _ (condD (fun _ => condD (fun hc => by omega) fun _ => ?_) fun _ => ?_)
    · exact tail 6 (by omega) hkl hhi (fun h => by omega) h
    · exact tail 6 (by omega) hkl hhi (fun h => by omega) h
  | succ m ih =>
    intro k hm hkl hhi h
    refine v163_6 _ _ _ _ _ (condD (fun hc => condD (fun _ => needJ ?_ ?_) fun hc => by omega) fun hc => ?_)
    · exact ⟨by omega, hc⟩
    · rw [B_size] at hc
      have hg : (B l).data.toList.getD (Int.toNat (k : Int)) 0 = l.getD k 0 := rfl
      rw [hg]
      refine condD (fun hx => ?_) fun hx => ?_
      · rw [show IntKind.wrap .i64 ((k : Int) + 1) = ((k + 1 : Nat) : Int) by rw [wrap64 (by omega) (by omega)]; simp]
        refine ih (k + 1) (by omega) (by omega) (fun j hj => ?_) h
        by_cases e : j = k
        · subst e; omega
        · exact hhi j (by omega)
      · exact tail k (by omega) hkl hhi (fun _ _ => by omega) h
    · rw [B_size] at hc
      exact tail k (by omega) hkl hhi (fun _ h => by omega) h

theorem look_spec (l : List UInt8) (most : Int) (hl : l.length ≤ 10 * big) (H : List AObj) :
    ASpec Tryz.prog 163 [.str (B l), .int .i64 most] H (fun r H' => r = .tup [.int .i64 (lookM l most).1, .int .i64 (lookM l most).2.1, .int .i64 (lookM l most).2.2] ∧ H' = H) := by
  have k : ASpec Tryz.prog 163 [.str (B l), .int .i64 most] [] (fun r H' => r = .tup [.int .i64 (lookM l most).1, .int .i64 (lookM l most).2.1, .int .i64 (lookM l most).2.2] ∧ H' = []) := by
    refine s163 _ _ _ (condS (b := []) (fun e => ?_) fun e => ?_)
    · subst e; exact ⟨rfl, rfl⟩
    · cases l with
      | nil => exact (e rfl).elim
      | cons c l =>
        refine needJ ⟨by omega, by rw [B_size]; simp⟩ ?_
        have hg : (B (c :: l)).data.toList.getD 0 0 = c := rfl
        rw [hg]
        refine condE (fun h1 => ?_) fun h1 => ?_
        · have h1 : c = 128 := UInt8.toNat_inj.1 (by have : c.toNat = 128 := by omega
                                                     exact this)
          rw [show lookM (c :: l) most = (0, 0, 3) by simp only [lookM, if_pos h1]]
          exact ⟨rfl, rfl⟩
        · have h1 : c ≠ 128 := by intro e; rw [e] at h1; exact h1 rfl
          refine look6 hl 6 0 rfl (by omega) (fun j hj => by omega) ?_
          have e : lookM (c :: l) most = match scan 6 (c :: l) 0 0 with
            | .inl e => (0, 0, e)
            | .inr (n, k) => if (n : Int) > min most 1099511627776 then (0, 0, 4) else (n, k, 0) := by simp only [lookM, if_neg h1] <;> rfl
          rw [e]
          cases scan 6 (c :: l) 0 0 with
          | inl er => exact ⟨rfl, rfl⟩
          | inr nk =>
            obtain ⟨n, k⟩ := nk
            by_cases hm : (n : Int) > min most 1099511627776
            · simp [lookP, hm]
            · simp [lookP, hm]
  exact ASpec.pureH H k _ _ rfl rfl

end V
end

section
/- Readers as objects, in any heap; the chapter's examples. -/

set_option linter.unusedVariables false
set_option linter.unusedSimpArgs false
open Go Go.Ab Go.Proofs
namespace V

/-- a reader stands at id -/
abbrev At (H : List AObj) (id : Nat) (bs : List UInt8) (p : Nat) (e : Int) : Prop := H[id]? = some (rd bs p e)

theorem num_spec {H : List AObj} {id : Nat} {bs : List UInt8} {p : Nat} {e : Int} (most : Int) (hb : bs.length ≤ big) (hp : p ≤ bs.length) (h : At H id bs p e) :
    ASpec Tryz.prog 127 [.ptr id 0, .int .i64 most] H (fun r H' => r = .int .i64 (numM bs p e most).1 ∧ H' = H.set id (rd bs (numM bs p e most).2.1 (numM bs p e most).2.2)) :=
  ASpec.oneH H id (num_spec0 e most hb hp) _ _ _ rfl rfl h rfl

theorem str_spec {H : List AObj} {id : Nat} {bs : List UInt8} {p : Nat} {e : Int} (most : Int) (hb : bs.length ≤ big) (hp : p ≤ bs.length) (h : At H id bs p e) :
    ASpec Tryz.prog 125 [.ptr id 0, .int .i64 most] H (fun r H' => r = .str (B (strM bs p e most).1) ∧ H' = H.set id (rd bs (strM bs p e most).2.1 (strM bs p e most).2.2)) :=
  ASpec.oneH H id (str_spec0 e most hb hp) _ _ _ rfl rfl h rfl

theorem set_same {α : Type _} {l : List α} {i : Nat} {a : α} (h : l[i]? = some a) : l.set i a = l := by
  apply List.ext_getElem?
  intro j
  rw [List.getElem?_set]
  split
  · rename_i e; subst e
    have := (List.getElem?_eq_some_iff.1 h).1
    simp only [this, if_true]
    exact h.symm
  · rfl

theorem err_spec {H : List AObj} {id : Nat} {bs : List UInt8} {p : Nat} {e : Int} (h : At H id bs p e) : ASpec Tryz.prog 161 [.ptr id 0] H (fun r H' => r = .int .i64 e ∧ H' = H) := by
  have k : ASpec Tryz.prog 161 [.ptr 0 0] [rd bs p e] (fun r H' => r = .int .i64 e ∧ H' = [rd bs p e]) := s161 _ _ _ _ ⟨rfl, rfl⟩
  have := ASpec.oneH H id k [.ptr id 0] (.int .i64 e) (rd bs p e) rfl rfl h rfl
  rw [set_same h] at this
  exact this

theorem left_spec {H : List AObj} {id : Nat} {bs : List UInt8} {p : Nat} {e : Int} (hb : bs.length ≤ big) (hp : p ≤ bs.length) (h : At H id bs p e) : ASpec Tryz.prog 162 [.ptr id 0] H (fun r H' => r = .int .i64 (bs.length - p : Nat) ∧ H' = H) := by
  have k : ASpec Tryz.prog 162 [.ptr 0 0] [rd bs p e] (fun r H' => r = .int .i64 (bs.length - p : Nat) ∧ H' = [rd bs p e]) := by
    refine s162 _ _ _ _ ⟨?_, rfl⟩
    unfold big at hb
    rw [wrap64 (by omega) (by omega)]
    congr 1
    omega
  have := ASpec.oneH H id k [.ptr id 0] (.int .i64 (bs.length - p : Nat)) (rd bs p e) rfl rfl h rfl
  rw [set_same h] at this
  exact this

theorem copied_all (bs : List UInt8) (l : List (List AV)) (hl : l.length = bs.length) : (copied (.raw l) 0 (.map encB 0 bs)).toList = bs.map encB := by
  simp [copied, Seq.toList, hl]

theorem open_spec (bs : List UInt8) (hb : bs.length ≤ big) (H : List AObj) : ASpec Tryz.prog 123 [.sl 1 (.map encB 0 bs) .none] H (fun r H' => r = .ptr H.length 0 ∧ H' = H ++ [rd bs 0 0]) := by
  have k : ASpec Tryz.prog 123 [.sl 1 (.map encB 0 bs) .none] [] (fun r H' => r = .ptr 0 0 ∧ H' = [rd bs 0 0]) := by
    unfold big at hb
    refine s123 _ _ _ (needJ ⟨by omega, by omega, by omega, by omega⟩ (needJ oneB (needJ (by simp) ?_)))
    generalize hq : copied _ _ _ = q
    have hq2 : q.toList = bs.map encB := by rw [← hq]; exact copied_all _ _ (by simp)
    refine AWP.re (ReSt.freeze (id := 0) (sz := 1) (q := q) (s2 := [(3, .sl 1 (.map encB 0 bs) .none)]) rfl (by simp) (fun d => ?_)) ?_
    · by_cases e : d = 3
      · subst e
        right; right
        exact ⟨0, bs.length, .map encB 0 bs, rfl, by rw [hq2]; simp, rfl, by rw [hq2]; simp [Seq.toList, List.take_of_length_le]⟩
      · left
        have : Nat.beq 3 d = false := by
          cases hx : Nat.beq 3 d with
          | false => rfl
          | true => exact absurd (Nat.eq_of_beq_eq_true hx).symm e
        simp only [Ab.get, this]; rfl
    · exact AWP.shape [] [(3, .sl 1 (.map encB 0 bs) .none)] [] Sel.none ⟨rfl, Le.refl _, trivial⟩ (v123_3 _ _ _ ⟨rfl, rfl⟩)
  exact ASpec.anyH H k _ _ _ rfl rfl rfl

end V
end

section
/- VlqOrder: the law's function returns true. -/

set_option linter.unusedVariables false
set_option linter.unusedSimpArgs false
open Go Go.Ab Go.Proofs
namespace V

end V
end

section
/- VlqBack: what was put is read: the law's function returns true. -/

set_option linter.unusedVariables false
set_option linter.unusedSimpArgs false
open Go Go.Ab Go.Proofs
namespace V

end V
end

section
/- The document's reader, and a reader that is none: what their methods compute, in any heap. -/

set_option linter.unusedVariables false
set_option linter.unusedSimpArgs false
open Go Go.Ab Go.Proofs
namespace V

/-- the document's reader -/
abbrev dr (l : List UInt8) (e : Int) : AObj := .cells [.str (B l), .int .i64 e]
abbrev AtD (H : List AObj) (id : Nat) (l : List UInt8) (e : Int) : Prop := H[id]? = some (dr l e)

def dnumM (l : List UInt8) (e most : Int) : Int × List UInt8 × Int :=
  if e ≠ 0 then (0, l, e) else ((lookM l most).1, l.drop (lookM l most).2.1, (lookM l most).2.2)
def dstrM (l : List UInt8) (e most : Int) : List UInt8 × List UInt8 × Int :=
  if e ≠ 0 then ([], l, e) else if (lookM l most).2.2 ≠ 0 then ([], l, (lookM l most).2.2) else
    if (lookM l most).1 > (l.length : Int) - ((lookM l most).2.1 : Nat) then ([], l, 2) else
    ((l.drop (lookM l most).2.1).take (lookM l most).1.toNat, l.drop ((lookM l most).2.1 + (lookM l most).1.toNat), 0)

theorem dnum_spec0 (l : List UInt8) (e most : Int) (hl : l.length ≤ 10 * big) :
    ASpec Tryz.prog 136 [.ptr 0 0, .int .i64 most] [dr l e] (fun r H' => r = .int .i64 (dnumM l e most).1 ∧ H' = [dr (dnumM l e most).2.1 (dnumM l e most).2.2]) := by
  refine s136 _ _ _ _ (condNe (fun he => ?_) fun he => ?_)
  · rw [show dnumM l e most = (0, l, e) by simp only [dnumM, if_pos he]]
    exact ⟨rfl, rfl⟩
  · subst he
    rw [show dnumM l 0 most = ((lookM l most).1, l.drop (lookM l most).2.1, (lookM l most).2.2) by simp [dnumM]]
    obtain ⟨h1, h2, h3, h4⟩ := lookM_le l most
    refine ASpec.call (look_spec l most hl _) (Les.refl _) ⟨((lookM l most).1, ((lookM l most).2.1 : Nat), (lookM l most).2.2), rfl, rfl, needJ ?_ ⟨rfl, ?_⟩⟩
    · simp only [B_size]; omega
    · simp only [Int.toNat_natCast, B_size]
      rw [B_extract _ _ _ (Nat.le_refl _), List.take_of_length_le (Nat.le_refl _)]

theorem dstr_spec0 (l : List UInt8) (e most : Int) (hl : l.length ≤ 10 * big) :
    ASpec Tryz.prog 135 [.ptr 0 0, .int .i64 most] [dr l e] (fun r H' => r = .str (B (dstrM l e most).1) ∧ H' = [dr (dstrM l e most).2.1 (dstrM l e most).2.2]) := by
  refine s135 _ _ _ _ (condNe (fun he => ?_) fun he => ?_)
  · rw [show dstrM l e most = ([], l, e) by simp only [dstrM, if_pos he]]
    exact ⟨rfl, rfl⟩
  · subst he
    obtain ⟨h1, h2, h3, h4⟩ := lookM_le l most
    refine ASpec.call (look_spec l most hl _) (Les.refl _) ⟨((lookM l most).1, ((lookM l most).2.1 : Nat), (lookM l most).2.2), rfl, rfl, ?_⟩
    have hs : dstrM l 0 most = if (lookM l most).2.2 ≠ 0 then ([], l, (lookM l most).2.2) else
      if (lookM l most).1 > (l.length : Int) - ((lookM l most).2.1 : Nat) then ([], l, 2) else
      ((l.drop (lookM l most).2.1).take (lookM l most).1.toNat, l.drop ((lookM l most).2.1 + (lookM l most).1.toNat), 0) := by simp [dstrM]
    rw [hs]
    generalize lookM l most = q at h1 h2 h3 h4 ⊢
    obtain ⟨n, k, er⟩ := q
    unfold big at hl
    simp only at h1 h2 h3 h4 ⊢
    simp only [B_size]
    refine condE (fun he => ?_) fun he => ?_
    · subst he
      rw [wrap64 (x := (l.length : Int) - ((k : Nat) : Int)) (by omega) (by omega)]
      refine condD (fun hg => ?_) fun hg => ?_
      · rw [if_neg (by simp), if_pos hg]; exact ⟨rfl, rfl⟩
      · rw [if_neg (by simp), if_neg hg]
        have hw : IntKind.wrap .i64 (((k : Nat) : Int) + n) = ((k + n.toNat : Nat) : Int) := by
          rw [wrap64 (x := ((k : Nat) : Int) + n) (by omega) (by omega)]; omega
        refine condNe (fun h => (h rfl).elim) fun _ => ?_
        rw [hw]
        refine needJ (by omega) (needJ (by omega) ?_)
        simp only [Int.toNat_natCast]
        rw [B_extract _ _ _ (by omega), B_extract _ _ _ (Nat.le_refl _), List.take_of_length_le (Nat.le_refl _), List.drop_take, show k + n.toNat - k = n.toNat by omega]
        exact ⟨rfl, rfl⟩
    · refine condNe (fun h => ?_) fun h => (he h).elim
      rw [if_pos he]; exact ⟨rfl, rfl⟩

theorem dnum_spec {H : List AObj} {id : Nat} {l : List UInt8} {e : Int} (most : Int) (hl : l.length ≤ 10 * big) (h : AtD H id l e) :
    ASpec Tryz.prog 136 [.ptr id 0, .int .i64 most] H (fun r H' => r = .int .i64 (dnumM l e most).1 ∧ H' = H.set id (dr (dnumM l e most).2.1 (dnumM l e most).2.2)) :=
  ASpec.oneH H id (dnum_spec0 l e most hl) _ _ _ rfl rfl h rfl
theorem dstr_spec {H : List AObj} {id : Nat} {l : List UInt8} {e : Int} (most : Int) (hl : l.length ≤ 10 * big) (h : AtD H id l e) :
    ASpec Tryz.prog 135 [.ptr id 0, .int .i64 most] H (fun r H' => r = .str (B (dstrM l e most).1) ∧ H' = H.set id (dr (dstrM l e most).2.1 (dstrM l e most).2.2)) :=
  ASpec.oneH H id (dstr_spec0 l e most hl) _ _ _ rfl rfl h rfl

def closeM (e : Int) (left : Nat) : Int := if e ≠ 0 then e else if 0 < left then 3 else 0

theorem close_spec {H : List AObj} {id : Nat} {bs : List UInt8} {p : Nat} {e : Int} (hb : bs.length ≤ big) (hp : p ≤ bs.length) (h : At H id bs p e) :
    ASpec Tryz.prog 133 [.ptr id 0] H (fun r H' => r = .int .i64 (closeM e (bs.length - p)) ∧ H' = H) := by
  have k : ASpec Tryz.prog 133 [.ptr 0 0] [rd bs p e] (fun r H' => r = .int .i64 (closeM e (bs.length - p)) ∧ H' = [rd bs p e]) := by
    refine s133 _ _ _ _ (ASpec.call (err_spec (id := 0) (bs := bs) (p := p) (e := e) rfl) (Les.refl _) ⟨e, rfl, rfl, ?_⟩)
    refine condNe (fun he => ?_) fun he => ?_
    · rw [show closeM e (bs.length - p) = e from if_pos he]; exact ⟨rfl, rfl⟩
    · subst he
      refine ASpec.call (left_spec (id := 0) (bs := bs) (p := p) (e := 0) hb hp rfl) (Les.refl _) ⟨_, rfl, rfl, ?_⟩
      refine condD (fun hc => ?_) fun hc => ?_
      · rw [show closeM 0 (bs.length - p) = 3 by simp only [closeM]; rw [if_neg (by simp), if_pos (by omega)]]; exact ⟨rfl, rfl⟩
      · rw [show closeM 0 (bs.length - p) = 0 by simp only [closeM]; rw [if_neg (by simp), if_neg (by omega)]]; exact ⟨rfl, rfl⟩
  have := ASpec.oneH H id k [.ptr id 0] (.int .i64 (closeM e (bs.length - p))) (rd bs p e) rfl rfl h rfl
  rw [set_same h] at this
  exact this

theorem condSn {a b : List UInt8} {A C : Prop} (h1 : a ≠ b → A) (h2 : a = b → C) : condP (!(B a).toList == (B b).toList) A C := by
  rw [B_beq]
  by_cases h : a = b
  · rw [beq_iff_eq.2 h]; exact h2 h
  · rw [beq_eq_false_iff_ne.2 h]; exact h1 h

theorem dclose_spec {H : List AObj} {id : Nat} {l : List UInt8} {e : Int} (h : AtD H id l e) :
    ASpec Tryz.prog 138 [.ptr id 0] H (fun r H' => r = .int .i64 (closeM e l.length) ∧ H' = H) := by
  have k : ASpec Tryz.prog 138 [.ptr 0 0] [dr l e] (fun r H' => r = .int .i64 (closeM e l.length) ∧ H' = [dr l e]) := by
    refine s138 _ _ _ (condE (fun he => condSn (b := []) (fun hl => ?_) fun hl => ?_) fun he => ?_)
    · subst he
      rw [show closeM 0 l.length = 3 by simp only [closeM]; rw [if_neg (by simp), if_pos (List.length_pos_iff.2 hl)]]; exact ⟨rfl, rfl⟩
    · subst he; subst hl
      exact ⟨rfl, rfl⟩
    · rw [show closeM e l.length = e from if_pos he]; exact ⟨rfl, rfl⟩
  have := ASpec.oneH H id k [.ptr id 0] (.int .i64 (closeM e l.length)) (dr l e) rfl rfl h rfl
  rw [set_same h] at this
  exact this

/-! ### a reader that is none -/

/-! ### the reader and the document's -/

theorem num_doc (bs : List UInt8) (p : Nat) (e most : Int) (hp : p ≤ bs.length) :
    dnumM (bs.drop p) e most = ((numM bs p e most).1, bs.drop (numM bs p e most).2.1, (numM bs p e most).2.2) ∧ (numM bs p e most).2.1 ≤ bs.length := by
  have h := (lookM_le (bs.drop p) most).1
  rw [List.length_drop] at h
  unfold dnumM numM
  split
  · exact ⟨rfl, hp⟩
  · refine ⟨by simp [List.drop_drop], by simp only; omega⟩

theorem str_doc (bs : List UInt8) (p : Nat) (e most : Int) (hp : p ≤ bs.length) :
    dstrM (bs.drop p) e most = ((strM bs p e most).1, bs.drop (strM bs p e most).2.1, (strM bs p e most).2.2) ∧ (strM bs p e most).2.1 ≤ bs.length := by
  obtain ⟨h, h2, -, -⟩ := lookM_le (bs.drop p) most
  rw [List.length_drop] at h
  unfold dstrM strM
  simp only [List.length_drop]
  split
  · exact ⟨rfl, hp⟩
  split
  · exact ⟨rfl, hp⟩
  split
  · rename_i hg
    rw [if_pos (by omega)]
    exact ⟨rfl, hp⟩
  · rename_i hg
    rw [if_neg (by omega)]
    refine ⟨by simp [List.drop_drop, Nat.add_assoc], by simp only; omega⟩

end V
end

section
/- Stamps: what the code and the document sum up, close and open. -/

set_option linter.unusedVariables false
set_option linter.unusedSimpArgs false
open Go Go.Ab Go.Proofs V
namespace Go.Ab

theorem Le.tup {l r : List AV} (h : Les l r) : Le (.tup l) (.tup r) := by
  intro M w loc v hv
  cases hv with
  | tup _ vs hs hr =>
    have hl := h.len
    exact .tup _ vs (by omega) fun i hi => h.get i (by omega) hi M w loc _ (hr i (by omega))

theorem Le.agg {l r : List AV} (h : Les l r) : Le (.agg l) (.agg r) := by
  intro M w loc v hv
  cases hv with
  | agg _ vs hs hr =>
    have hl := h.len
    exact .agg _ vs (by omega) fun i hi => h.get i (by omega) hi M w loc _ (hr i (by omega))

end Go.Ab
namespace S

def fnv : Nat → List UInt8 → Nat
  | n, [] => n
  | n, c :: l => fnv ((n ^^^ c.toNat) * 16777619 % 4294967296) l

abbrev sum (l : List UInt8) : Nat := fnv 2166136261 l
/-! ### xor, bit by bit -/

/-! ### sums -/

/-! ### sealing -/

/-! ### opening -/

end S
end

section
/- Labels: runes, kinds, and which names may be. -/

set_option linter.unusedVariables false
set_option linter.unusedSimpArgs false
set_option maxRecDepth 100000
open Go Go.Ab Go.Proofs V
namespace S

def kindM (c : Int) : Int := if 97 ≤ c ∧ c ≤ 122 then 0 else if 945 ≤ c ∧ c ≤ 969 then 1 else if 48 ≤ c ∧ c ≤ 57 then 2 else if c = 45 then 3 else 4

theorem kind_spec (c : Int) (H : List AObj) : ASpec Tryz.prog 92 [.int .i32 c] H (fun r H' => r = .int .i64 (kindM c) ∧ H' = H) := by
  have k : ASpec Tryz.prog 92 [.int .i32 c] [] (fun r H' => r = .int .i64 (kindM c) ∧ H' = []) := by
    refine s92 _ _ ?_
    repeat' (first | refine condD (fun _ => ?_) fun _ => ?_ | refine condE (fun _ => ?_) fun _ => ?_)
    all_goals (refine ⟨?_, rfl⟩; congr 1; unfold kindM; repeat' split)
    all_goals omega
  exact ASpec.pureH H k _ _ rfl rfl

theorem rkind_spec (c : Int) (H : List AObj) : ASpec Tryz.prog 58 [.int .i64 c] H (fun r H' => r = .int .i64 (kindM c) ∧ H' = H) := by
  have k : ASpec Tryz.prog 58 [.int .i64 c] [] (fun r H' => r = .int .i64 (kindM c) ∧ H' = []) := by
    refine s58 _ _ ?_
    repeat' (first | refine condD (fun _ => ?_) fun _ => ?_ | refine condE (fun _ => ?_) fun _ => ?_)
    all_goals (refine ⟨?_, rfl⟩; congr 1; unfold kindM; repeat' split)
    all_goals omega
  exact ASpec.pureH H k _ _ rfl rfl

theorem kindM_range (c : Int) : 0 ≤ kindM c ∧ kindM c ≤ 4 := by
  unfold kindM; repeat' split
  all_goals omega

/-! ### the rune at a place -/

/-- a byte behind a place -/
abbrev bt (l : List UInt8) (p k : Nat) : Nat := (l.getD (p + k) 0).toNat

theorem bt_lt (l : List UInt8) (p k : Nat) : bt l p k < 256 := (l.getD (p + k) 0).toNat_lt

theorem get_B (l : List UInt8) (j : Nat) : (B l).get! j = l.getD j 0 := by
  show l.toArray[j]! = _
  rw [getElem!_def]
  simp [List.getD]
  rfl

abbrev wideC (a b0 b1 b2 b3 : Nat) : Nat :=
  if 194 ≤ b0 ∧ b0 ≤ 223 then (if 2 ≤ a ∧ (128 ≤ b1 ∧ b1 ≤ 191) then 2 else 0)
  else if 224 ≤ b0 ∧ b0 ≤ 239 then (if 3 ≤ a ∧ (128 ≤ b1 ∧ b1 ≤ 191) ∧ (128 ≤ b2 ∧ b2 ≤ 191) ∧ ¬ (b0 = 224 ∧ b1 < 160) ∧ ¬ (b0 = 237 ∧ 159 < b1) then 3 else 0)
  else if 240 ≤ b0 ∧ b0 ≤ 244 then (if 4 ≤ a ∧ (128 ≤ b1 ∧ b1 ≤ 191) ∧ (128 ≤ b2 ∧ b2 ≤ 191) ∧ (128 ≤ b3 ∧ b3 ≤ 191) ∧ ¬ (b0 = 240 ∧ b1 < 144) ∧ ¬ (b0 = 244 ∧ 143 < b1) then 4 else 0)
  else 0

def wideM (l : List UInt8) (p : Nat) : Nat := wideC (l.length - p) (bt l p 0) (bt l p 1) (bt l p 2) (bt l p 3)

abbrev runeC (w b0 b1 b2 b3 : Nat) : Nat × Nat :=
  if b0 < 128 then (b0, 1) else if w = 0 then (65533, 1) else if w = 2 then (b0 % 32 * 64 + b1 % 64, 2)
  else if w = 3 then ((b0 % 16 * 64 + b1 % 64) * 64 + b2 % 64, 3) else (((b0 % 8 * 64 + b1 % 64) * 64 + b2 % 64) * 64 + b3 % 64, 4)

def runeM (l : List UInt8) (p : Nat) : Nat × Nat := runeC (wideM l p) (bt l p 0) (bt l p 1) (bt l p 2) (bt l p 3)

theorem decode_core (a b0 b1 b2 b3 : Nat) (h0 : b0 < 256) (h1 : b1 < 256) (h2 : b2 < 256) (h3 : b3 < 256) :
    (if b0 < 128 then (b0, 1)
     else if b0 / 32 = 6 ∧ (1 < a ∧ b1 / 64 = 2) then (if 128 ≤ b0 % 32 * 64 + b1 % 64 then (b0 % 32 * 64 + b1 % 64, 2) else (65533, 1))
     else if b0 / 16 = 14 ∧ (1 < a ∧ b1 / 64 = 2) ∧ (2 < a ∧ b2 / 64 = 2) then
       (if 2048 ≤ b0 % 16 * 4096 + b1 % 64 * 64 + b2 % 64 ∧ (b0 % 16 * 4096 + b1 % 64 * 64 + b2 % 64 < 55296 ∨ (57344 ≤ b0 % 16 * 4096 + b1 % 64 * 64 + b2 % 64 ∧ b0 % 16 * 4096 + b1 % 64 * 64 + b2 % 64 ≤ 1114111))
        then (b0 % 16 * 4096 + b1 % 64 * 64 + b2 % 64, 3) else (65533, 1))
     else if b0 / 8 = 30 ∧ (1 < a ∧ b1 / 64 = 2) ∧ (2 < a ∧ b2 / 64 = 2) ∧ (3 < a ∧ b3 / 64 = 2) then
       (if 65536 ≤ b0 % 8 * 262144 + b1 % 64 * 4096 + b2 % 64 * 64 + b3 % 64 ∧ (b0 % 8 * 262144 + b1 % 64 * 4096 + b2 % 64 * 64 + b3 % 64 < 55296 ∨ (57344 ≤ b0 % 8 * 262144 + b1 % 64 * 4096 + b2 % 64 * 64 + b3 % 64 ∧ b0 % 8 * 262144 + b1 % 64 * 4096 + b2 % 64 * 64 + b3 % 64 ≤ 1114111))
        then (b0 % 8 * 262144 + b1 % 64 * 4096 + b2 % 64 * 64 + b3 % 64, 4) else (65533, 1))
     else ((65533 : Nat), (1 : Nat))) = runeC (wideC a b0 b1 b2 b3) b0 b1 b2 b3 := by
  have e2 : ∀ w : Nat, w = 0 ∨ w = 2 ∨ w = 3 ∨ w = 4 ∨ 4 < w ∨ w = 1 := by omega
  by_cases c0 : b0 < 128
  · rw [if_pos c0]; unfold runeC; rw [if_pos c0]
  rw [if_neg c0]
  unfold runeC
  rw [if_neg c0]
  by_cases c1 : 194 ≤ b0 ∧ b0 ≤ 223
  · unfold wideC
    rw [if_pos c1]
    by_cases d : 1 < a ∧ b1 / 64 = 2
    · rw [if_pos ⟨by omega, d⟩, if_pos (by omega), if_pos (show 2 ≤ a ∧ (128 ≤ b1 ∧ b1 ≤ 191) by omega)]; rfl
    · rw [if_neg (fun h => d h.2), if_neg (fun h => d h.2.1), if_neg (fun h => d h.2.1), if_neg (show ¬ (2 ≤ a ∧ (128 ≤ b1 ∧ b1 ≤ 191)) by omega)]; rfl
  by_cases c2 : 224 ≤ b0 ∧ b0 ≤ 239
  · unfold wideC
    rw [if_neg c1, if_pos c2]
    rw [if_neg (show ¬ (b0 / 32 = 6 ∧ (1 < a ∧ b1 / 64 = 2)) by omega)]
    by_cases d : (1 < a ∧ b1 / 64 = 2) ∧ (2 < a ∧ b2 / 64 = 2)
    · rw [if_pos ⟨by omega, d⟩]
      by_cases f : ¬ (b0 = 224 ∧ b1 < 160) ∧ ¬ (b0 = 237 ∧ 159 < b1)
      · rw [if_pos (show 3 ≤ a ∧ (128 ≤ b1 ∧ b1 ≤ 191) ∧ (128 ≤ b2 ∧ b2 ≤ 191) ∧ ¬ (b0 = 224 ∧ b1 < 160) ∧ ¬ (b0 = 237 ∧ 159 < b1) by omega), if_pos (by omega)]
        simp only [if_neg (show ¬ (3 = 0) by omega), if_neg (show ¬ (3 = 2) by omega), if_true]
        rw [show b0 % 16 * 4096 + b1 % 64 * 64 + b2 % 64 = (b0 % 16 * 64 + b1 % 64) * 64 + b2 % 64 by omega]
      · rw [if_neg (show ¬ (3 ≤ a ∧ (128 ≤ b1 ∧ b1 ≤ 191) ∧ (128 ≤ b2 ∧ b2 ≤ 191) ∧ ¬ (b0 = 224 ∧ b1 < 160) ∧ ¬ (b0 = 237 ∧ 159 < b1)) by omega), if_neg (by omega)]; rfl
    · rw [if_neg (fun h => d h.2), if_neg (show ¬ (b0 / 8 = 30 ∧ (1 < a ∧ b1 / 64 = 2) ∧ (2 < a ∧ b2 / 64 = 2) ∧ (3 < a ∧ b3 / 64 = 2)) by omega),
        if_neg (show ¬ (3 ≤ a ∧ (128 ≤ b1 ∧ b1 ≤ 191) ∧ (128 ≤ b2 ∧ b2 ≤ 191) ∧ ¬ (b0 = 224 ∧ b1 < 160) ∧ ¬ (b0 = 237 ∧ 159 < b1)) by omega)]; rfl
  by_cases c3 : 240 ≤ b0 ∧ b0 ≤ 244
  · unfold wideC
    rw [if_neg c1, if_neg c2, if_pos c3]
    rw [if_neg (show ¬ (b0 / 32 = 6 ∧ (1 < a ∧ b1 / 64 = 2)) by omega), if_neg (show ¬ (b0 / 16 = 14 ∧ (1 < a ∧ b1 / 64 = 2) ∧ (2 < a ∧ b2 / 64 = 2)) by omega)]
    by_cases d : (1 < a ∧ b1 / 64 = 2) ∧ (2 < a ∧ b2 / 64 = 2) ∧ (3 < a ∧ b3 / 64 = 2)
    · rw [if_pos ⟨by omega, d⟩]
      by_cases f : ¬ (b0 = 240 ∧ b1 < 144) ∧ ¬ (b0 = 244 ∧ 143 < b1)
      · rw [if_pos (show 4 ≤ a ∧ (128 ≤ b1 ∧ b1 ≤ 191) ∧ (128 ≤ b2 ∧ b2 ≤ 191) ∧ (128 ≤ b3 ∧ b3 ≤ 191) ∧ ¬ (b0 = 240 ∧ b1 < 144) ∧ ¬ (b0 = 244 ∧ 143 < b1) by omega), if_pos (by omega)]
        simp only [if_neg (show ¬ (4 = 0) by omega), if_neg (show ¬ (4 = 2) by omega), if_neg (show ¬ (4 = 3) by omega)]
        rw [show b0 % 8 * 262144 + b1 % 64 * 4096 + b2 % 64 * 64 + b3 % 64 = ((b0 % 8 * 64 + b1 % 64) * 64 + b2 % 64) * 64 + b3 % 64 by omega]
      · rw [if_neg (show ¬ (4 ≤ a ∧ (128 ≤ b1 ∧ b1 ≤ 191) ∧ (128 ≤ b2 ∧ b2 ≤ 191) ∧ (128 ≤ b3 ∧ b3 ≤ 191) ∧ ¬ (b0 = 240 ∧ b1 < 144) ∧ ¬ (b0 = 244 ∧ 143 < b1)) by omega), if_neg (by omega)]; rfl
    · rw [if_neg (fun h => d h.2), if_neg (show ¬ (4 ≤ a ∧ (128 ≤ b1 ∧ b1 ≤ 191) ∧ (128 ≤ b2 ∧ b2 ≤ 191) ∧ (128 ≤ b3 ∧ b3 ≤ 191) ∧ ¬ (b0 = 240 ∧ b1 < 144) ∧ ¬ (b0 = 244 ∧ 143 < b1)) by omega)]; rfl
  · unfold wideC
    rw [if_neg c1, if_neg c2, if_neg c3]
    by_cases d : b0 / 32 = 6 ∧ (1 < a ∧ b1 / 64 = 2)
    · rw [if_pos d, if_neg (by omega)]; rfl
    rw [if_neg d, if_neg (show ¬ (b0 / 16 = 14 ∧ (1 < a ∧ b1 / 64 = 2) ∧ (2 < a ∧ b2 / 64 = 2)) by omega)]
    by_cases f : b0 / 8 = 30 ∧ (1 < a ∧ b1 / 64 = 2) ∧ (2 < a ∧ b2 / 64 = 2) ∧ (3 < a ∧ b3 / 64 = 2)
    · rw [if_pos f, if_neg (by omega)]; rfl
    · rw [if_neg f]; rfl

theorem validN (n : Nat) : Utf8.valid (n : Int) = (decide (n < 55296) || (decide (57344 ≤ n) && decide (n ≤ 1114111))) := by
  unfold Utf8.valid
  rw [Bool.eq_iff_iff]
  simp only [Bool.and_eq_true, Bool.or_eq_true, decide_eq_true_eq]
  omega

set_option maxRecDepth 100000 in
theorem decode_eq (l : List UInt8) (p : Nat) (hp : p < l.length) : Utf8.decode (B l) p = runeM l p := by
  unfold runeM wideM
  rw [← decode_core (l.length - p) _ _ _ _ (bt_lt l p 0) (bt_lt l p 1) (bt_lt l p 2) (bt_lt l p 3)]
  have hb : ∀ k, ((B l).get! (p + k)).toNat = bt l p k := fun k => by rw [get_B]
  have hc : ∀ k, decide (p + k < (B l).size) = decide (k < l.length - p) := fun k => by rw [B_size]; apply decide_eq_decide.2; omega
  unfold Utf8.decode
  simp only [hb, hc, validN]
  generalize bt l p 0 = b0
  generalize bt l p 1 = b1
  generalize bt l p 2 = b2
  generalize bt l p 3 = b3
  generalize l.length - p = a
  simp only [Utf8.runeError, Bool.and_eq_true, Bool.or_eq_true, decide_eq_true_eq, beq_iff_eq, ge_iff_le, and_assoc]

theorem runeM_width (l : List UInt8) (p : Nat) : 1 ≤ (runeM l p).2 ∧ (runeM l p).2 ≤ 4 := by
  unfold runeM runeC
  repeat' split
  all_goals simp

theorem wideM_cases (l : List UInt8) (p : Nat) : wideM l p = 0 ∨ (wideM l p = 2 ∧ 194 ≤ bt l p 0 ∧ bt l p 0 ≤ 223 ∧ p + 2 ≤ l.length) ∨
    (wideM l p = 3 ∧ 224 ≤ bt l p 0 ∧ bt l p 0 ≤ 239 ∧ p + 3 ≤ l.length ∧ (128 ≤ bt l p 1 ∧ bt l p 1 ≤ 191) ∧ ¬ (bt l p 0 = 224 ∧ bt l p 1 < 160)) ∨
    (wideM l p = 4 ∧ 240 ≤ bt l p 0 ∧ bt l p 0 ≤ 244 ∧ p + 4 ≤ l.length ∧ (128 ≤ bt l p 1 ∧ bt l p 1 ≤ 191) ∧ ¬ (bt l p 0 = 240 ∧ bt l p 1 < 144)) := by
  unfold wideM wideC
  repeat' split
  all_goals omega

/-- a rune that a name may have has two bytes at most -/
theorem runeM_small {l : List UInt8} {p : Nat} (h : kindM ((runeM l p).1 : Nat) ≤ 3) : (runeM l p).2 ≤ 2 := by
  have hk : ((runeM l p).1 : Int) ≤ 969 := by
    unfold kindM at h
    repeat' split at h
    all_goals omega
  rcases wideM_cases l p with e | ⟨e, h1⟩ | ⟨e, h1, h2, h3, h4, h5⟩ | ⟨e, h1, h2, h3, h4, h5⟩
  · unfold runeM runeC
    repeat' split
    all_goals simp_all
  · unfold runeM runeC
    repeat' split
    all_goals simp_all
  · exfalso
    unfold runeM runeC at hk
    rw [e] at hk
    rw [if_neg (by omega), if_neg (by omega), if_neg (by omega), if_pos rfl] at hk
    simp only at hk
    omega
  · exfalso
    unfold runeM runeC at hk
    rw [e] at hk
    rw [if_neg (by omega), if_neg (by omega), if_neg (by omega), if_neg (by omega)] at hk
    simp only at hk
    omega

/-! ### the document's walk over a rune's bytes -/

section
variable {l : List UInt8} {p : Nat} {Post : AV → List AObj → Prop}

theorem btInt (hl : l.length ≤ 10 * big) (i : Nat) (hp : p + i < l.length) :
    IntKind.wrap .i64 ((p : Int) + (i : Int)) = ((p + i : Nat) : Int) := by
  unfold big at hl
  rw [wrap64 (by omega) (by omega)]; simp

theorem btGet (i : Nat) : ((List.getD (Array.toList (ByteArray.data (B l))) (p + i) 0).toNat : Int) = (bt l p i : Nat) := rfl

def nOf (b0 : Nat) : Nat := if 194 ≤ b0 ∧ b0 ≤ 223 then 2 else if 224 ≤ b0 ∧ b0 ≤ 239 then 3 else if 240 ≤ b0 ∧ b0 ≤ 244 then 4 else 0

theorem nOf_cases (b0 : Nat) : (nOf b0 = 2 ∧ 194 ≤ b0 ∧ b0 ≤ 223) ∨ (nOf b0 = 3 ∧ 224 ≤ b0 ∧ b0 ≤ 239) ∨ (nOf b0 = 4 ∧ 240 ≤ b0 ∧ b0 ≤ 244) ∨ (nOf b0 = 0 ∧ ¬ (194 ≤ b0 ∧ b0 ≤ 244)) := by
  unfold nOf
  repeat' split
  all_goals omega

theorem wide_short (h : l.length - p < nOf (bt l p 0) ∨ nOf (bt l p 0) = 0) : wideM l p = 0 := by
  have := nOf_cases (bt l p 0)
  unfold wideM wideC
  repeat' split
  all_goals omega

theorem wide_bad {i : Nat} (h1 : 1 ≤ i) (h2 : i < nOf (bt l p 0)) (h : bt l p i < 128 ∨ 191 < bt l p i) : wideM l p = 0 := by
  have := nOf_cases (bt l p 0)
  have hi : i = 1 ∨ i = 2 ∨ i = 3 := by omega
  unfold wideM wideC
  rcases hi with rfl | rfl | rfl <;> repeat' split
  all_goals omega

theorem wideC_no {a b0 b1 b2 b3 : Nat} (h : (b0 = 224 ∧ b1 < 160) ∨ (b0 = 237 ∧ 159 < b1) ∨ (b0 = 240 ∧ b1 < 144) ∨ (b0 = 244 ∧ 143 < b1)) : wideC a b0 b1 b2 b3 = 0 := by
  unfold wideC
  repeat' split
  all_goals omega

theorem wideC_yes {a n b0 b1 b2 b3 : Nat} (hcs : (n = 2 ∧ 194 ≤ b0 ∧ b0 ≤ 223) ∨ (n = 3 ∧ 224 ≤ b0 ∧ b0 ≤ 239) ∨ (n = 4 ∧ 240 ≤ b0 ∧ b0 ≤ 244)) (ha : n ≤ a) (hc1 : 128 ≤ b1 ∧ b1 ≤ 191) (hc2 : 2 < n → 128 ≤ b2 ∧ b2 ≤ 191) (hc3 : 3 < n → 128 ≤ b3 ∧ b3 ≤ 191)
    (k1 : ¬ (b0 = 224 ∧ b1 < 160)) (k2 : ¬ (b0 = 237 ∧ 159 < b1)) (k3 : ¬ (b0 = 240 ∧ b1 < 144)) (k4 : ¬ (b0 = 244 ∧ 143 < b1)) : wideC a b0 b1 b2 b3 = n := by
  unfold wideC
  rcases hcs with ⟨rfl, g1, g2⟩ | ⟨rfl, g1, g2⟩ | ⟨rfl, g1, g2⟩
  · rw [if_pos ⟨g1, g2⟩, if_pos ⟨ha, hc1⟩]
  · rw [if_neg (by omega), if_pos ⟨g1, g2⟩, if_pos ⟨ha, hc1, hc2 (by omega), k1, k2⟩]
  · rw [if_neg (by omega), if_neg (by omega), if_pos ⟨g1, g2⟩, if_pos ⟨ha, hc1, hc2 (by omega), hc3 (by omega), k3, k4⟩]

theorem w16 (hl : l.length ≤ 10 * big) (hn : nOf (bt l p 0) ≠ 0) (hp : p + nOf (bt l p 0) ≤ l.length) (hc : ∀ i, 1 ≤ i → i < nOf (bt l p 0) → 128 ≤ bt l p i ∧ bt l p i ≤ 191) (h : Post (.int .i64 (wideM l p : Nat)) []) :
    AWP Tryz.prog 96 0 c122_16 [(0, .str (B l)), (1, .int .i64 p), (5, .int .i64 (nOf (bt l p 0) : Nat)), (6, .int .i64 (bt l p 0 : Nat))] [] (q122_0 0 Post) := by
  have hcs := nOf_cases (bt l p 0)
  have h256 := bt_lt l p 1
  have e1 : IntKind.wrap .i64 ((p : Int) + 1) = ((p + 1 : Nat) : Int) := by unfold big at hl; rw [wrap64 (by omega) (by omega)]; simp
  have hc1 := hc 1 (by omega) (by omega)
  have hc2 : 2 < nOf (bt l p 0) → 128 ≤ bt l p 2 ∧ bt l p 2 ≤ 191 := hc 2 (by omega)
  have hc3 : 3 < nOf (bt l p 0) → 128 ≤ bt l p 3 ∧ bt l p 3 ≤ 191 := hc 3 (by omega)
  have hcs3 : (nOf (bt l p 0) = 2 ∧ 194 ≤ bt l p 0 ∧ bt l p 0 ≤ 223) ∨ (nOf (bt l p 0) = 3 ∧ 224 ≤ bt l p 0 ∧ bt l p 0 ≤ 239) ∨ (nOf (bt l p 0) = 4 ∧ 240 ≤ bt l p 0 ∧ bt l p 0 ≤ 244) := by omega
  have fin0 : (bt l p 0 = 224 ∧ bt l p 1 < 160) ∨ (bt l p 0 = 237 ∧ 159 < bt l p 1) ∨ (bt l p 0 = 240 ∧ bt l p 1 < 144) ∨ (bt l p 0 = 244 ∧ 143 < bt l p 1) → Post (.int .i64 0) [] := by
    intro hh
    have := wideC_no (a := l.length - p) (b2 := bt l p 2) (b3 := bt l p 3) hh
    unfold wideM at h
    rw [this] at h
    exact h
  have finn : ¬ (bt l p 0 = 224 ∧ bt l p 1 < 160) → ¬ (bt l p 0 = 237 ∧ 159 < bt l p 1) → ¬ (bt l p 0 = 240 ∧ bt l p 1 < 144) → ¬ (bt l p 0 = 244 ∧ 143 < bt l p 1) → Post (.int .i64 (nOf (bt l p 0) : Nat)) [] := by
    intro k1 k2 k3 k4
    have := wideC_yes (a := l.length - p) (b2 := bt l p 2) (b3 := bt l p 3) hcs3 (by omega) hc1 hc2 hc3 k1 k2 k3 k4
    unfold wideM at h
    rw [this] at h
    exact h
  have hn2 : 2 ≤ nOf (bt l p 0) := by omega
  clear hc hcs hcs3 hc2 hc3 h
  refine v122_16 _ _ _ _ _ _ ?_
  rw [e1, Int.toNat_natCast, btGet 1, wrapN (n := bt l p 1) (by omega)]
  refine needJ ⟨by omega, by rw [B_size]; omega⟩ ?_
  generalize nOf (bt l p 0) = n at *
  generalize bt l p 0 = b0 at *
  generalize bt l p 1 = b1 at *
  repeat' (first | refine condD (fun _ => ?_) fun _ => ?_ | refine condE (fun _ => ?_) fun _ => ?_)
  all_goals first
    | exact fin0 (by omega)
    | exact finn (by omega) (by omega) (by omega) (by omega)

theorem w12 (hl : l.length ≤ 10 * big) (hn : nOf (bt l p 0) ≠ 0) (hp : p + nOf (bt l p 0) ≤ l.length) (h : Post (.int .i64 (wideM l p : Nat)) []) :
    ∀ (m i : Nat), m + i = nOf (bt l p 0) → 1 ≤ i → (∀ j, 1 ≤ j → j < i → 128 ≤ bt l p j ∧ bt l p j ≤ 191) →
    AWP Tryz.prog 96 0 c122_12 [(0, .str (B l)), (1, .int .i64 p), (5, .int .i64 (nOf (bt l p 0) : Nat)), (6, .int .i64 (bt l p 0 : Nat)), (7, .int .i64 i)] [] (q122_2 0 Post) := by
  have hcs := nOf_cases (bt l p 0)
  intro m
  induction m with
  | zero =>
    intro i hm h1 hc
    refine v122_12 _ _ _ _ _ _ _ (condD (fun hi => by omega) fun _ => w16 hl hn hp (fun j a b => hc j a (by omega)) h)
  | succ m ih =>
    intro i hm h1 hc
    have e1 := btInt (p := p) hl i (by omega)
    refine v122_12 _ _ _ _ _ _ _ (condD (fun hi => ?_) fun hi => by omega)
    rw [e1, Int.toNat_natCast, btGet i]
    refine needJ ⟨by omega, by rw [B_size]; omega⟩ (condD (fun hb => ?_) fun hb => needJ ⟨by omega, by rw [B_size]; omega⟩ (condD (fun hb2 => ?_) fun hb2 => ?_))
    · rw [wide_bad (l := l) (p := p) h1 (by omega) (.inl (by omega))] at h; exact h
    · rw [wide_bad (l := l) (p := p) h1 (by omega) (.inr (by omega))] at h; exact h
    · rw [show IntKind.wrap .i64 ((i : Int) + 1) = ((i + 1 : Nat) : Int) by rw [wrap64 (by omega) (by omega)]; simp]
      refine ih (i + 1) (by omega) (by omega) (fun j a b => ?_)
      by_cases e : j = i
      · subst e; omega
      · exact hc j a (by omega)

theorem w9 (hl : l.length ≤ 10 * big) (hp : p < l.length) (h : Post (.int .i64 (wideM l p : Nat)) []) :
    AWP Tryz.prog 96 0 c122_9 [(0, .str (B l)), (1, .int .i64 p), (5, .int .i64 (nOf (bt l p 0) : Nat)), (6, .int .i64 (bt l p 0 : Nat))] [] (q122_0 0 Post) := by
  have hcs := nOf_cases (bt l p 0)
  have hl' := hl
  unfold big at hl'
  refine v122_9 _ _ _ _ _ _ (condE (fun e => ?_) fun e => ?_)
  · rw [wide_short (l := l) (p := p) (.inr (by omega))] at h; exact h
  rw [B_size, wrap64 (x := (l.length : Int) - (p : Int)) (by omega) (by omega)]
  refine condD (fun e2 => ?_) fun e2 => ?_
  · rw [wide_short (l := l) (p := p) (.inl (by omega))] at h; exact h
  · refine v122_11 _ _ _ _ _ _ ?_
    exact w12 hl (by omega) (by omega) h (nOf (bt l p 0) - 1) 1 (by omega) (by omega) (fun j a b => by omega)

theorem wide_spec0 (hl : l.length ≤ 10 * big) (hp : p < l.length) : ASpec Tryz.prog 122 [.str (B l), .int .i64 p] [] (fun r H' => r = .int .i64 (wideM l p : Nat) ∧ H' = []) := by
  have h256 := bt_lt l p 0
  have hcs := nOf_cases (bt l p 0)
  have k9 : ∀ n : Int, n = (nOf (bt l p 0) : Nat) → AWP Tryz.prog 96 0 c122_9 [(0, .str (B l)), (1, .int .i64 p), (5, .int .i64 n), (6, .int .i64 (bt l p 0 : Nat))] [] (q122_0 0 (fun r H' => r = .int .i64 (wideM l p : Nat) ∧ H' = [])) := by
    intro n e; subst e; exact w9 hl hp ⟨rfl, rfl⟩
  refine s122 _ _ _ (needJ ⟨by omega, by rw [B_size]; omega⟩ ?_)
  rw [Int.toNat_natCast, show ((List.getD (Array.toList (ByteArray.data (B l))) p 0).toNat : Int) = (bt l p 0 : Nat) from rfl, wrapN (n := bt l p 0) (by omega)]
  generalize nOf (bt l p 0) = n at *
  generalize bt l p 0 = b0 at *
  have k7 : ∀ m : Int, m = (if 240 ≤ b0 ∧ b0 ≤ 244 then m else (n : Int)) → AWP Tryz.prog 96 0 c122_7 [(0, .str (B l)), (1, .int .i64 p), (5, .int .i64 m), (6, .int .i64 (b0 : Nat))] [] (q122_0 0 (fun r H' => r = .int .i64 (wideM l p : Nat) ∧ H' = [])) := by
    intro m hm
    refine v122_7 _ _ _ _ _ _ (condD (fun _ => condD (fun _ => k9 _ (by omega)) fun _ => k9 _ ?_) fun _ => k9 _ ?_)
    · rw [if_neg (by omega)] at hm; exact hm
    · rw [if_neg (by omega)] at hm; exact hm
  have k5 : ∀ m : Int, m = (if 224 ≤ b0 ∧ b0 ≤ 244 then m else (n : Int)) → AWP Tryz.prog 96 0 c122_5 [(0, .str (B l)), (1, .int .i64 p), (5, .int .i64 m), (6, .int .i64 (b0 : Nat))] [] (q122_0 0 (fun r H' => r = .int .i64 (wideM l p : Nat) ∧ H' = [])) := by
    intro m hm
    refine v122_5 _ _ _ _ _ _ (condD (fun _ => condD (fun _ => k7 _ ?_) fun _ => k7 _ ?_) fun _ => k7 _ ?_)
    · rw [if_neg (by omega)]; omega
    · split
      · rfl
      · rw [if_neg (by omega)] at hm; exact hm
    · split
      · rfl
      · rw [if_neg (by omega)] at hm; exact hm
  refine condD (fun _ => condD (fun _ => k5 _ ?_) fun _ => k5 _ ?_) fun _ => k5 _ ?_
  · rw [if_neg (by omega)]; omega
  · split
    · rfl
    · omega
  · split
    · rfl
    · omega

theorem wide_spec (hl : l.length ≤ 10 * big) (hp : p < l.length) (H : List AObj) : ASpec Tryz.prog 122 [.str (B l), .int .i64 p] H (fun r H' => r = .int .i64 (wideM l p : Nat) ∧ H' = H) :=
  ASpec.pureH H (wide_spec0 hl hp) _ _ rfl rfl

end
end S
end

section
/- Which names may be: the code's walk and the document's. -/

set_option linter.unusedVariables false
set_option linter.unusedSimpArgs false
set_option maxRecDepth 100000
open Go Go.Ab Go.Proofs V
namespace S
theorem condBn {b : Bool} {A C : Prop} (h1 : b = false → A) (h2 : b = true → C) : condP (!b) A C := by cases b <;> simp_all [condP]
section
variable {l : List UInt8} {p : Nat}

def foldx (l : List UInt8) (p : Nat) : Nat → Nat → Nat → Nat
  | 0, _, x => x
  | m + 1, i, x => foldx l p m (i + 1) (x * 64 + bt l p i % 64)

theorem u12 {Post : AV → List AObj → Prop} (hl : l.length ≤ 10 * big) {n : Nat} (hn : n ≤ 4) (hp : p + n ≤ l.length) : ∀ (m i x : Nat), m + i = n → x < 64 ^ i → Post (.tup [.int .i64 (foldx l p m i x : Nat), .int .i64 n]) [] →
    AWP Tryz.prog 58 0 c91_12 [(0, .str (B l)), (1, .int .i64 p), (6, .int .i64 n), (7, .int .i64 x), (8, .int .i64 i)] [] (q91_2 0 Post) := by
  intro m
  induction m with
  | zero =>
    intro i x hm hx h
    exact v91_12 _ _ _ _ _ _ _ (condD (fun hi => by omega) fun _ => h)
  | succ m ih =>
    intro i x hm hx h
    have e1 := btInt (p := p) hl i (by omega)
    have h256 := bt_lt l p i
    have h4 : (64 : Nat) ^ i ≤ 64 ^ 4 := Nat.pow_le_pow_right (by omega) (by omega)
    have e4 : (64 : Nat) ^ 4 = 16777216 := by decide
    have hn := ih (i + 1) (x * 64 + bt l p i % 64) (by omega) (by rw [Nat.pow_succ]; omega) h
    refine v91_12 _ _ _ _ _ _ _ (condD (fun hi => ?_) fun hi => by omega)
    rw [e1, Int.toNat_natCast, btGet i]
    refine needJ ⟨by omega, by rw [B_size]; omega⟩ (needJ (by decide) ?_)
    generalize bt l p i = b at h256 hn ⊢
    have m64 : Int.tmod (b : Int) 64 = ((b % 64 : Nat) : Int) := tmodN b 64
    rw [wrapN (n := b) (by omega), m64, wrap64 (x := (x : Int) * 64) (by omega) (by omega), wrap64 (x := (x : Int) * 64 + ((b % 64 : Nat) : Int)) (by omega) (by omega)]
    rw [show IntKind.wrap .i64 ((i : Int) + 1) = ((i + 1 : Nat) : Int) by rw [wrap64 (by omega) (by omega)]; simp]
    rw [show (x : Int) * 64 + ((b % 64 : Nat) : Int) = ((x * 64 + b % 64 : Nat) : Int) by simp]
    exact hn

theorem rune_spec0 (hl : l.length ≤ 10 * big) (hp : p < l.length) :
    ASpec Tryz.prog 91 [.str (B l), .int .i64 p] [] (fun r H' => r = .tup [.int .i64 ((runeM l p).1 : Nat), .int .i64 ((runeM l p).2 : Nat)] ∧ H' = []) := by
  have h256 := bt_lt l p 0
  have hin : (0 : Int) ≤ (p : Int) ∧ (p : Int) < ((B l).size : Int) := ⟨by omega, by rw [B_size]; omega⟩
  have hcs := wideM_cases l p
  have hR : runeM l p = runeC (wideM l p) (bt l p 0) (bt l p 1) (bt l p 2) (bt l p 3) := rfl
  refine s91 _ _ _ (needJ hin ?_)
  rw [Int.toNat_natCast, show ((List.getD (Array.toList (ByteArray.data (B l))) p 0).toNat : Int) = (bt l p 0 : Nat) from rfl, wrapN (n := bt l p 0) (by omega)]
  have m32 : Int.tmod (bt l p 0 : Nat) 32 = ((bt l p 0 % 32 : Nat) : Int) := tmodN _ 32
  have m16 : Int.tmod (bt l p 0 : Nat) 16 = ((bt l p 0 % 16 : Nat) : Int) := tmodN _ 16
  have m8 : Int.tmod (bt l p 0 : Nat) 8 = ((bt l p 0 % 8 : Nat) : Int) := tmodN _ 8
  refine condD (fun hc => needJ hin ?_) fun hc => ?_
  · rw [hR, runeC, if_pos (by omega)]
    exact ⟨rfl, rfl⟩
  refine ASpec.call (wide_spec hl hp []) (Les.refl _) ⟨_, rfl, rfl, condE (fun h0 => ?_) fun h0 => needJ hin (needJ (by decide) ?_)⟩
  · rw [hR, runeC, if_neg (by omega), if_pos (by omega)]
    exact ⟨rfl, rfl⟩
  have key : ∀ (n x0 : Nat), n = wideM l p → x0 < 64 → foldx l p (n - 1) 1 x0 = (runeM l p).1 → n = (runeM l p).2 →
      AWP Tryz.prog 58 0 c91_11 [(0, .str (B l)), (1, .int .i64 p), (6, .int .i64 n), (7, .int .i64 x0)] [] (q91_0 0 (fun r H' => r = .tup [.int .i64 ((runeM l p).1 : Nat), .int .i64 ((runeM l p).2 : Nat)] ∧ H' = [])) := by
    intro n x0 hn hx e1 e2
    refine v91_11 _ _ _ _ _ _ (u12 hl (n := n) (by omega) (by omega) (n - 1) 1 x0 (by omega) hx ?_)
    rw [e1, e2]
    exact ⟨rfl, rfl⟩
  refine condE (fun h3 => needJ hin (needJ (by decide) ?_)) fun h3 => ?_
  · have hw : wideM l p = 3 := by omega
    rw [m16]
    refine v91_9 _ _ _ _ _ _ (condE (fun h => by omega) fun _ => key _ _ rfl (by omega) ?_ ?_)
    · rw [hR, runeC, if_neg (by omega), if_neg (by omega), if_neg (by omega), if_pos hw, hw]; rfl
    · rw [hR, runeC, if_neg (by omega), if_neg (by omega), if_neg (by omega), if_pos hw, hw]
  · rw [m32]
    refine v91_9 _ _ _ _ _ _ (condE (fun h => needJ hin (needJ (by decide) ?_)) fun h => key _ _ rfl (by omega) ?_ ?_)
    · have hw : wideM l p = 4 := by omega
      rw [Int.toNat_natCast, show ((List.getD (Array.toList (ByteArray.data (B l))) p 0).toNat : Int) = (bt l p 0 : Nat) from rfl, wrapN (n := bt l p 0) (by omega), m8]
      refine key _ _ rfl (by omega) ?_ ?_
      · rw [hR, runeC, if_neg (by omega), if_neg (by omega), if_neg (by omega), if_neg (by omega), hw]; rfl
      · rw [hR, runeC, if_neg (by omega), if_neg (by omega), if_neg (by omega), if_neg (by omega), hw]
    · have hw : wideM l p = 2 := by omega
      rw [hR, runeC, if_neg (by omega), if_neg (by omega), if_pos hw, hw]; rfl
    · have hw : wideM l p = 2 := by omega
      rw [hR, runeC, if_neg (by omega), if_neg (by omega), if_pos hw, hw]

theorem rune_spec (hl : l.length ≤ 10 * big) (hp : p < l.length) (H : List AObj) :
    ASpec Tryz.prog 91 [.str (B l), .int .i64 p] H (fun r H' => r = .tup [.int .i64 ((runeM l p).1 : Nat), .int .i64 ((runeM l p).2 : Nat)] ∧ H' = H) :=
  ASpec.pureH H (rune_spec0 hl hp) _ _ rfl rfl

/-! ### all runes -/

def runesF : Nat → List UInt8 → Nat → List Int
  | 0, _, _ => []
  | f + 1, l, p => if p < l.length then ((runeM l p).1 : Int) :: runesF f l (p + (runeM l p).2) else []
def runesM (l : List UInt8) : List Int := runesF l.length l 0

theorem leAppI {l : List Int} {x : Int} {H : List AObj} : Le (.sl 1 (.app (.map encI 0 l) (.raw [[.int .i64 x]])) (.tok 1)) (AV.ren (selR [1] H.length) (.sl 1 (.map encI 0 (l ++ [x])) (.tok 0))) := by
  refine Le.sl ?_ (.inl rfl) (.inl rfl)
  simp [Ab.Seq.toList, Seq.ren, encI, renL, AV.ren]

theorem runes3 {Post : AV → List AObj → Prop} (hl : l.length ≤ 1000000) : ∀ (f p : Nat) (acc : List Int), l.length - p ≤ f → acc.length ≤ p → p ≤ l.length + 4 → Post (.sl 1 (.map encI 0 (acc ++ runesF f l p)) (.tok 0)) [.tok] →
    AWP Tryz.prog 25 0 c57_3 [(0, .str (B l)), (3, .sl 1 (.map encI 0 acc) (.tok 0)), (4, .int .i64 p)] [.tok] (q57_2 0 Post) := by
  intro f
  induction f with
  | zero =>
    intro p acc hf ha hp h
    refine v57_3 _ _ _ _ _ (condD (fun hc => by rw [B_size] at hc; omega) fun _ => ?_)
    simpa [runesF] using h
  | succ f ih =>
    intro p acc hf ha hp h
    refine v57_3 _ _ _ _ _ (condD (fun hc => ?_) fun hc => ?_)
    · rw [B_size] at hc
      have hpl : p < l.length := by omega
      have hw := runeM_width l p
      refine ASpec.call (rune_spec (by unfold big; omega) hpl _) (Les.refl _) ⟨(((runeM l p).1 : Int), ((runeM l p).2 : Int)), rfl, rfl, needJ (by omega) ?_⟩
      rw [show IntKind.wrap .i64 ((p : Int) + ((runeM l p).2 : Int)) = ((p + (runeM l p).2 : Nat) : Int) by rw [wrap64 (by omega) (by omega)]; simp]
      refine AWP.shape [1] [(0, .str (B l)), (3, .sl 1 (.map encI 0 (acc ++ [((runeM l p).1 : Int)])) (.tok 0)), (4, .int .i64 (p + (runeM l p).2 : Nat))] _ selTok ⟨rfl, Le.refl _, rfl, leAppI, rfl, Le.refl _, trivial⟩ (ih (p + (runeM l p).2) (acc ++ [((runeM l p).1 : Int)]) (by omega) (by simp; omega) (by omega) ?_)
      simp only [runesF, if_pos hpl] at h
      simpa using h
    · rw [B_size] at hc
      simp only [runesF, if_neg (show ¬ p < l.length by omega)] at h
      simpa using h

theorem runes_spec (hl : l.length ≤ 1000000) (H : List AObj) : ASpec Tryz.prog 57 [.str (B l)] H (fun r H' => r = .sl 1 (.map encI 0 (runesM l)) .none ∧ H' = H) := by
  have k : ASpec Tryz.prog 57 [.str (B l)] [] (fun r H' => r = .sl 1 (.map encI 0 (runesM l)) .none ∧ H' = []) := by
    refine ASpec.sel (s57 _ _ ?_)
    refine AWP.re (ReSt.tok (k := 3) (q' := .map encI 0 []) (sz' := 1) (s2 := [(0, .str (B l)), (3, .sl 1 (.map encI 0 []) (.tok 0)), (4, .int .i64 0)]) rfl (.inl rfl) rfl (.inr rfl) (fun d hd => ?_) rfl) ?_
    · simp only [Ab.get]
      have e : Nat.beq 3 d = false := by
        cases hx : Nat.beq 3 d with
        | false => rfl
        | true => exact absurd (Nat.eq_of_beq_eq_true hx).symm hd
      rw [e]; rfl
    · refine runes3 hl l.length 0 [] (by omega) (by simp) (by omega) ?_
      refine ⟨[], [], .sl 1 (.map encI 0 (runesM l)) .none, Sel.none, ?_, rfl, rfl⟩
      exact Le.sl (s' := Seq.ren _ (.map encI 0 (runesM l))) (by simp [Ab.Seq.toList, Seq.ren, encI, renL, AV.ren, runesM]) (.inl rfl) (.inr rfl)
  exact ASpec.pureH H k _ _ rfl rfl

/-! ### names -/

def fitF (n : Nat) : List Int → Bool
  | [] => decide (0 < n)
  | c :: r => if 3 < kindM c ∨ (n = 0 ∧ 1 < kindM c) ∨ n = 12 then false else fitF (n + 1) r

def fitM (l : List UInt8) : Bool := fitF 0 (runesM l)

theorem fit3 {Post : AV → List AObj → Prop} (hl : l.length ≤ 10 * big) : ∀ (f p n : Nat), l.length - p ≤ f → n ≤ 12 → (∀ q, Post (.bool (fitF n (runesF f l p))) [.siter (B l) q]) →
    AWP Tryz.prog 32 0 c59_3 [(3, .int .i64 n), (8, .ptr 0 0)] [.siter (B l) p] (q59_2 0 Post) := by
  intro f
  induction f with
  | zero =>
    intro p n hf hn h
    refine v59_3 _ _ _ _ _ (condD (fun hc => by rw [B_size] at hc; omega) fun _ => ?_)
    have := h p
    simp only [runesF, fitF] at this
    rw [show decide ((n : Int) > 0) = decide (0 < n) from decide_eq_decide.2 (by omega)]
    exact this
  | succ f ih =>
    intro p n hf hn h
    refine v59_3 _ _ _ _ _ (condD (fun hc => ?_) fun hc => ?_)
    · rw [B_size] at hc
      rw [decode_eq l p hc]
      have hw := runeM_width l p
      simp only [runesF, if_pos hc, fitF] at h
      refine ASpec.call (kind_spec _ _) (Les.refl _) ⟨_, rfl, rfl, ?_⟩
      generalize kindM ((runeM l p).1 : Nat) = k at h ⊢
      have no : (3 < k ∨ (n = 0 ∧ 1 < k) ∨ n = 12) → Post (.bool false) [.siter (B l) (p + (runeM l p).2)] := by
        intro hh
        have := h (p + (runeM l p).2)
        rw [if_pos hh] at this
        exact this
      have yes : ¬ (3 < k ∨ (n = 0 ∧ 1 < k) ∨ n = 12) → AWP Tryz.prog 32 0 c59_3 [(3, .int .i64 (IntKind.wrap .i64 ((n : Int) + 1))), (8, .ptr 0 0)] [.siter (B l) (p + (runeM l p).2)] (q59_2 0 Post) := by
        intro hh
        rw [show IntKind.wrap .i64 ((n : Int) + 1) = ((n + 1 : Nat) : Int) by rw [wrap64 (by omega) (by omega)]; simp]
        refine ih (p + (runeM l p).2) (n + 1) (by omega) (by omega) (fun q => ?_)
        have := h q
        rw [if_neg hh] at this
        exact this
      refine condD (fun h1 => no (.inl h1)) fun h1 => condE (fun h2 => condD (fun h3 => no (.inr (.inl ⟨by omega, h3⟩))) fun h3 => condE (fun h4 => no (.inr (.inr (by omega)))) fun h4 => yes (by omega)) fun h2 => condE (fun h4 => no (.inr (.inr (by omega)))) fun h4 => yes (by omega)
    · rw [B_size] at hc
      have := h p
      simp only [runesF, if_neg hc, fitF] at this
      rw [show decide ((n : Int) > 0) = decide (0 < n) from decide_eq_decide.2 (by omega)]
      exact this

theorem fit_spec (hl : l.length ≤ 10 * big) (H : List AObj) : ASpec Tryz.prog 59 [.str (B l)] H (fun r H' => r = .bool (fitM l) ∧ H' = H) := by
  have k : ASpec Tryz.prog 59 [.str (B l)] [] (fun r H' => r = .bool (fitM l) ∧ H' = []) := by
    refine ASpec.sel (s59 _ _ (fit3 hl l.length 0 0 (by omega) (by omega) (fun q => ⟨[], [], .bool (fitM l), Sel.none, Le.refl _, rfl, rfl⟩)))
  exact ASpec.pureH H k _ _ rfl rfl

theorem fitF_short (hl : True) : ∀ (f p n : Nat), l.length - p ≤ f → n ≤ 12 → fitF n (runesF f l p) = true → l.length - p ≤ 2 * (12 - n) := by
  intro f
  induction f with
  | zero => intro p n hf hn h; omega
  | succ f ih =>
    intro p n hf hn h
    by_cases hc : p < l.length
    · simp only [runesF, if_pos hc, fitF] at h
      split at h
      · cases h
      rename_i hh
      have hw := runeM_small (l := l) (p := p) (by omega)
      have := ih (p + (runeM l p).2) (n + 1) (by have := runeM_width l p; omega) (by omega) h
      omega
    · omega

theorem fitM_short (h : fitM l = true) : l.length ≤ 24 := by
  have := fitF_short (l := l) trivial l.length 0 0 (by omega) (by omega) h
  omega

/-- the document's: by places in a list -/
def fitD (i : Nat) : List Int → Bool
  | [] => true
  | c :: r => if kindM c = 4 ∨ (i = 0 ∧ 1 < kindM c) then false else fitD (i + 1) r

theorem fitF_fitD : ∀ (r : List Int) (i : Nat), i ≤ 12 → fitF i r = (fitD i r && decide (1 ≤ i + r.length) && decide (i + r.length ≤ 12))
  | [], i, hi => by
    simp only [fitF, fitD, List.length_nil, Nat.add_zero, Bool.true_and]
    rw [Bool.eq_iff_iff]; simp; omega
  | c :: r, i, hi => by
    have hk := kindM_range c
    simp only [fitF, fitD, List.length_cons]
    by_cases h1 : kindM c = 4 ∨ (i = 0 ∧ 1 < kindM c)
    · rw [if_pos h1, if_pos (by omega)]; rfl
    · rw [if_neg h1]
      by_cases h2 : i = 12
      · rw [if_pos (by omega)]
        rw [Bool.eq_iff_iff]; simp; omega
      · rw [if_neg (by omega), fitF_fitD r (i + 1) (by omega), show i + 1 + r.length = i + (r.length + 1) by omega]

theorem rfit5 {ls : List Int} {Post : AV → List AObj → Prop} (hl : ls.length ≤ 1000000) : ∀ (m i : Nat), m + i = ls.length → Post (.bool (fitD i (ls.drop i) && (decide (1 ≤ ls.length) && decide (ls.length ≤ 12)))) [] →
    AWP Tryz.prog 42 0 c29_5 [(3, .sl 1 (.map encI 0 ls) .none), (4, .int .i64 i)] [] (q29_2 0 Post) := by
  intro m
  induction m with
  | zero =>
    intro i hm h
    refine v29_5 _ _ _ _ (condD (fun hc => by omega) fun _ => ?_)
    rw [List.drop_eq_nil_of_le (by omega)] at h
    simp only [fitD, Bool.true_and] at h
    refine condD (fun h1 => ?_) fun h1 => ?_
    · rw [decide_eq_true (show 1 ≤ ls.length by omega), Bool.true_and] at h
      rw [show decide ((ls.length : Int) ≤ 12) = decide (ls.length ≤ 12) from decide_eq_decide.2 (by omega)]
      exact h
    · rw [decide_eq_false (show ¬ 1 ≤ ls.length by omega), Bool.false_and] at h
      exact h
  | succ m ih =>
    intro i hm h
    refine v29_5 _ _ _ _ (condD (fun hc => needJ ⟨by omega, by omega⟩ ?_) fun hc => by omega)
    rw [Int.toNat_natCast]
    have hg : ls.drop i = ls.getD i 0 :: ls.drop (i + 1) := by
      rw [List.drop_eq_getElem_cons (by omega)]
      simp [List.getD, List.getElem?_eq_getElem (show i < ls.length by omega)]
    rw [hg] at h
    simp only [fitD] at h
    generalize ls.getD i 0 = c at h ⊢
    have hn : ¬ (kindM c = 4 ∨ (i = 0 ∧ 1 < kindM c)) → AWP Tryz.prog 42 0 c29_5 [(3, .sl 1 (.map encI 0 ls) .none), (4, .int .i64 (IntKind.wrap .i64 ((i : Int) + 1)))] [] (q29_2 0 Post) := by
      intro hh
      rw [if_neg hh] at h
      rw [show IntKind.wrap .i64 ((i : Int) + 1) = ((i + 1 : Nat) : Int) by rw [wrap64 (by omega) (by omega)]; simp]
      exact ih (i + 1) (by omega) h
    have hy : (kindM c = 4 ∨ (i = 0 ∧ 1 < kindM c)) → Post (.bool false) [] := by
      intro hh
      rw [if_pos hh] at h
      simpa using h
    refine ASpec.call (rkind_spec c []) (Les.refl _) ⟨_, rfl, rfl, condE (fun h1 => hy (.inl h1)) fun h1 => condE (fun h2 => needJ ⟨by omega, by omega⟩ ?_) fun h2 => hn (by omega)⟩
    refine ASpec.call (rkind_spec c []) (Les.refl _) ⟨_, rfl, rfl, condD (fun h3 => hy (.inr ⟨by omega, h3⟩)) fun h3 => hn (by omega)⟩

theorem runesF_len : ∀ (f p : Nat), (runesF f l p).length ≤ f
  | 0, p => by simp [runesF]
  | f + 1, p => by
    simp only [runesF]
    split
    · have := runesF_len f (p + (runeM l p).2)
      simp; omega
    · simp

theorem rfit_spec (hl : l.length ≤ 10 * big) (H : List AObj) : ASpec Tryz.prog 29 [.str (B l)] H (fun r H' => r = .bool (fitM l) ∧ H' = H) := by
  have k : ASpec Tryz.prog 29 [.str (B l)] [] (fun r H' => r = .bool (fitM l) ∧ H' = []) := by
    refine s29 _ _ ?_
    rw [B_size]
    refine condD (fun h1 => ?_) fun h1 => ?_
    · have : fitM l = false := by
        cases h : fitM l with
        | false => rfl
        | true => have := fitM_short h; omega
      rw [this]; exact ⟨rfl, rfl⟩
    · have hlen := runesF_len (l := l) l.length 0
      refine ASpec.call (runes_spec (by omega) []) (Les.refl _) ⟨_, rfl, rfl, rfit5 (ls := runesM l) (by unfold runesM; omega) (runesM l).length 0 (by omega) ?_⟩
      unfold fitM
      rw [fitF_fitD _ 0 (by omega), List.drop_zero, Nat.zero_add, Bool.and_assoc]
      exact ⟨rfl, rfl⟩
  exact ASpec.pureH H k _ _ rfl rfl

end
end S
end

section
/- Which spans, needs and manifests may be: the code's walks and the document's. -/

set_option linter.unusedVariables false
set_option linter.unusedSimpArgs false
set_option maxRecDepth 100000
open Go Go.Ab Go.Proofs V S T
namespace C

/-- the answer c, whatever lies in the heap -/
abbrev PB (c : Bool) : AV → List AObj → Prop := fun r H' => ∃ l H2 r2, Sel 0 l H' H2 ∧ Le r (AV.ren (selR l H'.length) r2) ∧ (r2 = .bool c ∧ H2 = [])
theorem pb {b c : Bool} {H' : List AObj} (h : b = c) : PB c (.bool b) H' := ⟨[], [], .bool c, Sel.none, h ▸ Le.refl _, rfl, rfl⟩

theorem dropD {α : Type} (l : List α) (d : α) (i : Nat) (h : i < l.length) : l.drop i = l.getD i d :: l.drop (i + 1) := by
  rw [List.drop_eq_getElem_cons h]
  simp [List.getD, List.getElem?_eq_getElem h]

theorem memD {α : Type} (l : List α) (d : α) (i : Nat) (h : i < l.length) : l.getD i d ∈ l := by
  simp [List.getD, List.getElem?_eq_getElem h]

theorem succ64 {i : Nat} (h : i ≤ 10000000) : IntKind.wrap .i64 ((i : Int) + 1) = ((i + 1 : Nat) : Int) := by rw [wrap64 (by omega) (by omega)]; simp
theorem pred64 {i : Nat} (h : i ≤ 10000000) (h1 : 0 < i) : IntKind.wrap .i64 ((i : Int) - 1) = ((i - 1 : Nat) : Int) := by rw [wrap64 (by omega) (by omega)]; omega

abbrev lim : Nat := 1000000

/-! ### spans -/

def chkS (e : Int) : List Span → Bool
  | [] => true
  | x :: r => if x.1 ≤ e ∨ x.2 ≤ x.1 ∨ 1000000000 < x.2 then false else chkS x.2 r
def spanOk (l : List Span) : Bool := chkS (-1) l

theorem chk3 {l : List Span} {c : Bool} (hl : l.length ≤ lim) : ∀ (m i : Nat) (e : Int), m + i = l.length → chkS e (l.drop i) = c →
    AWP Tryz.prog 31 0 c167_3 [(3, .int .i64 e), (6, .sl 2 (.map encS (0, 0) l) .none), (7, .int .i64 l.length), (8, .int .i64 i)] [] (q167_2 0 (PB c)) := by
  intro m
  induction m with
  | zero =>
    intro i e hm h
    refine v167_3 _ _ _ _ _ _ (condD (fun hc => by omega) fun _ => pb ?_)
    rw [List.drop_eq_nil_of_le (by omega)] at h
    exact h
  | succ m ih =>
    intro i e hm h
    rw [dropD l (0, 0) i (by omega)] at h
    simp only [chkS] at h
    refine v167_3 _ _ _ _ _ _ (condD (fun hc => needJ ⟨by omega, by omega⟩ ?_) fun hc => by omega)
    rw [Int.toNat_natCast]
    generalize l.getD i (0, 0) = x at h ⊢
    refine condD (fun h1 => pb ?_) fun h1 => condD (fun h2 => pb ?_) fun h2 => condD (fun h3 => pb ?_) fun h3 => ?_
    · rw [if_pos (.inl h1)] at h; exact h
    · rw [if_pos (.inr (.inl h2))] at h; exact h
    · rw [if_pos (.inr (.inr h3))] at h; exact h
    · rw [if_neg (by omega)] at h
      rw [succ64 (by unfold lim at hl; omega)]
      exact AWP.shape [] [(3, .int .i64 x.2), (6, .sl 2 (.map encS (0, 0) l) .none), (7, .int .i64 l.length), (8, .int .i64 (i + 1 : Nat))] [] Sel.none ⟨rfl, Le.refl _, rfl, Le.refl _, rfl, Le.refl _, rfl, Le.refl _, trivial⟩ (ih (i + 1) x.2 (by omega) h)

theorem spanCheck_spec (l : List Span) (hl : l.length ≤ lim) (H : List AObj) : ASpec Tryz.prog 167 [.sl 2 (.map encS (0, 0) l) .none] H (fun r H' => r = .bool (spanOk l) ∧ H' = H) :=
  ASpec.pureH H (ASpec.sel (s167 _ _ (chk3 hl l.length 0 (-1) (by omega) rfl))) _ _ rfl rfl

theorem rchk2 {l : List Span} {c : Bool} (hl : l.length ≤ lim) : ∀ (m i : Nat) (e : Int), m + i = l.length → (i = 0 → e = -1) → (0 < i → e = (l.getD (i - 1) (0, 0)).2 ∧ 0 ≤ e) → chkS e (l.drop i) = c →
    AWP Tryz.prog 55 0 c30_2 [(0, .sl 2 (.map encS (0, 0) l) .none), (3, .int .i64 i)] [] (q30_2 0 (PB c)) := by
  intro m
  induction m with
  | zero =>
    intro i e hm _ _ h
    refine v30_2 _ _ _ _ (condD (fun hc => by omega) fun _ => pb ?_)
    rw [List.drop_eq_nil_of_le (by omega)] at h
    exact h
  | succ m ih =>
    intro i e hm h0 he h
    have hin : (0 : Int) ≤ (i : Int) ∧ (i : Int) < (l.length : Int) := ⟨by omega, by omega⟩
    rw [dropD l (0, 0) i (by omega)] at h
    simp only [chkS] at h
    have hnext : ∀ x, x = l.getD i (0, 0) → ¬ (x.1 ≤ e ∨ x.2 ≤ x.1 ∨ 1000000000 < x.2) → AWP Tryz.prog 55 0 c30_2 [(0, .sl 2 (.map encS (0, 0) l) .none), (3, .int .i64 (IntKind.wrap .i64 ((i : Int) + 1)))] [] (q30_2 0 (PB c)) := by
      intro x hx hn
      rw [← hx, if_neg hn] at h
      rw [succ64 (by unfold lim at hl; omega)]
      have hge : -1 ≤ e := by
        rcases Nat.eq_zero_or_pos i with z | z
        · have := h0 z; omega
        · have := he z; omega
      exact ih (i + 1) x.2 (by omega) (fun hh => by omega) (fun _ => ⟨by rw [hx]; rfl, by omega⟩) h
    have hbad : ∀ x, x = l.getD i (0, 0) → (x.1 ≤ e ∨ x.2 ≤ x.1 ∨ 1000000000 < x.2) → PB c (.bool false) [] := by
      intro x hx hh
      rw [← hx, if_pos hh] at h
      exact pb h
    refine v30_2 _ _ _ _ (condD (fun hc => needJ hin ?_) fun hc => by omega)
    rw [Int.toNat_natCast]
    generalize hx : l.getD i (0, 0) = x at h ⊢
    refine condD (fun h1 => hbad x hx.symm (.inl ?_)) fun h1 => needJ hin (condD (fun h2 => hbad x hx.symm (.inr (.inr h2))) fun h2 => needJ hin (needJ hin (condD (fun h3 => hbad x hx.symm (.inr (.inl h3))) fun h3 => condD (fun h4 => needJ hin (needJ ?_ (condD (fun h5 => hbad x hx.symm (.inl ?_)) fun h5 => hnext x hx.symm ?_))) fun h4 => hnext x hx.symm ?_)))
    · rcases Nat.eq_zero_or_pos i with z | z
      · have := h0 z; omega
      · have := he z; omega
    · rw [pred64 (by unfold lim at hl; omega) (by omega)]; omega
    · rw [pred64 (by unfold lim at hl; omega) (by omega), Int.toNat_natCast] at h5
      have := he (by omega); omega
    · rw [pred64 (by unfold lim at hl; omega) (by omega), Int.toNat_natCast] at h5
      have := he (by omega); omega
    · have := h0 (by omega); omega

theorem rspanCheck_spec (l : List Span) (hl : l.length ≤ lim) (H : List AObj) : ASpec Tryz.prog 30 [.sl 2 (.map encS (0, 0) l) .none] H (fun r H' => r = .bool (spanOk l) ∧ H' = H) :=
  ASpec.pureH H (ASpec.sel (s30 _ _ (rchk2 hl l.length 0 (-1) (by omega) (fun _ => rfl) (fun h => by omega) rfl))) _ _ rfl rfl

/-! ### needs -/

def leB (a b : List UInt8) : Bool := Op.bytesLess a b || a == b

def needsF (last : List UInt8) : List Need → Bool
  | [] => true
  | x :: r => if fitM x.1 = false ∨ leB x.1 last = true ∨ 6 < x.2.length ∨ spanOk x.2 = false then false else needsF x.1 r
def needOk (l : List Need) : Bool := needsF [] l && decide (l.length ≤ 6)

theorem fit_nil : fitM [] = false := rfl
theorem leB_nil {a : List UInt8} (h : fitM a = true) : leB a [] = false := by
  cases a with
  | nil => rw [fit_nil] at h; cases h
  | cons c a => simp [leB, Op.bytesLess]

def okN (l : List Need) : Prop := l.length ≤ lim ∧ ∀ n ∈ l, n.1.length ≤ lim ∧ n.2.length ≤ lim

theorem need3 {l : List Need} {c : Bool} (hl : okN l) : ∀ (m i : Nat) (last : List UInt8), m + i = l.length → (needsF last (l.drop i) && decide (l.length ≤ 6)) = c →
    AWP Tryz.prog 40 0 c150_3 [(0, .sl 2 (.map encN ([], []) l) .none), (3, .str (B last)), (6, .sl 2 (.map encN ([], []) l) .none), (7, .int .i64 l.length), (8, .int .i64 i)] [] (q150_2 0 (PB c)) := by
  obtain ⟨hl1, hl2⟩ := hl
  intro m
  induction m with
  | zero =>
    intro i last hm h
    refine v150_3 _ _ _ _ _ _ (condD (fun hc => by omega) fun _ => pb ?_)
    rw [List.drop_eq_nil_of_le (by omega)] at h
    simp only [needsF, Bool.true_and] at h
    rw [show decide ((l.length : Int) ≤ 6) = decide (l.length ≤ 6) from decide_eq_decide.2 (by omega)]
    exact h
  | succ m ih =>
    intro i last hm h
    have hx := hl2 _ (memD l ([], []) i (by omega))
    rw [dropD l ([], []) i (by omega)] at h
    simp only [needsF] at h
    refine v150_3 _ _ _ _ _ _ (condD (fun hc => needJ ⟨by omega, by omega⟩ ?_) fun hc => by omega)
    rw [Int.toNat_natCast]
    generalize l.getD i ([], []) = x at h hx ⊢
    have bad : ∀ {H' : List AObj}, (fitM x.1 = false ∨ leB x.1 last = true ∨ 6 < x.2.length ∨ spanOk x.2 = false) → PB c (.bool false) H' := by
      intro H' hh
      rw [if_pos hh] at h
      exact pb h
    refine ASpec.call (fit_spec (l := x.1) (by unfold big; unfold lim at hx; omega) _) (Les.refl _) ⟨_, rfl, rfl, condBn (fun h1 => bad (.inl h1)) fun h1 => ?_⟩
    rw [B_toList, B_toList]
    refine condB (fun h2 => bad (.inr (.inl h2))) fun h2 => condD (fun h3 => bad (.inr (.inr (.inl (by omega))))) fun h3 => ?_
    refine ASpec.call (spanCheck_spec x.2 hx.2 _) (Les.refl _) ⟨_, rfl, rfl, condBn (fun h4 => bad (.inr (.inr (.inr h4)))) fun h4 => ?_⟩
    have h2' : leB x.1 last = false := h2
    rw [if_neg (by rw [h1, h2', h4]; simp; omega)] at h
    rw [succ64 (by unfold lim at hl1; omega)]
    exact AWP.shape [] [(0, .sl 2 (.map encN ([], []) l) .none), (3, .str (B x.1)), (6, .sl 2 (.map encN ([], []) l) .none), (7, .int .i64 l.length), (8, .int .i64 (i + 1 : Nat))] [] Sel.none
      ⟨rfl, Le.refl _, rfl, Le.refl _, rfl, Le.refl _, rfl, Le.refl _, rfl, Le.refl _, trivial⟩ (ih (i + 1) x.1 (by omega) h)

theorem needCheck_spec (l : List Need) (hl : okN l) (H : List AObj) : ASpec Tryz.prog 150 [.sl 2 (.map encN ([], []) l) .none] H (fun r H' => r = .bool (needOk l) ∧ H' = H) :=
  ASpec.pureH H (ASpec.sel (s150 _ _ (need3 hl l.length 0 [] (by omega) rfl))) _ _ rfl rfl

theorem rneed2 {l : List Need} {c : Bool} (hl : okN l) : ∀ (m i : Nat) (last : List UInt8), m + i = l.length → (i = 0 → last = []) → (0 < i → last = (l.getD (i - 1) ([], [])).1) → (needsF last (l.drop i) && decide (l.length ≤ 6)) = c →
    AWP Tryz.prog 56 0 c7_2 [(0, .sl 2 (.map encN ([], []) l) .none), (3, .int .i64 i)] [] (q7_2 0 (PB c)) := by
  obtain ⟨hl1, hl2⟩ := hl
  intro m
  induction m with
  | zero =>
    intro i last hm _ _ h
    refine v7_2 _ _ _ _ (condD (fun hc => by omega) fun _ => pb ?_)
    rw [List.drop_eq_nil_of_le (by omega)] at h
    simp only [needsF, Bool.true_and] at h
    rw [show decide ((l.length : Int) ≤ 6) = decide (l.length ≤ 6) from decide_eq_decide.2 (by omega)]
    exact h
  | succ m ih =>
    intro i last hm h0 he h
    have hin : (0 : Int) ≤ (i : Int) ∧ (i : Int) < (l.length : Int) := ⟨by omega, by omega⟩
    have hx := hl2 _ (memD l ([], []) i (by omega))
    rw [dropD l ([], []) i (by omega)] at h
    simp only [needsF] at h
    have hnext : ¬ (fitM (l.getD i ([], [])).1 = false ∨ leB (l.getD i ([], [])).1 last = true ∨ 6 < (l.getD i ([], [])).2.length ∨ spanOk (l.getD i ([], [])).2 = false) →
        AWP Tryz.prog 56 0 c7_2 [(0, .sl 2 (.map encN ([], []) l) .none), (3, .int .i64 (IntKind.wrap .i64 ((i : Int) + 1)))] [] (q7_2 0 (PB c)) := by
      intro hn
      rw [if_neg hn] at h
      rw [succ64 (by unfold lim at hl1; omega)]
      exact ih (i + 1) _ (by omega) (fun hh => by omega) (fun _ => rfl) h
    have bad : (fitM (l.getD i ([], [])).1 = false ∨ leB (l.getD i ([], [])).1 last = true ∨ 6 < (l.getD i ([], [])).2.length ∨ spanOk (l.getD i ([], [])).2 = false) → PB c (.bool false) [] := by
      intro hh
      rw [if_pos hh] at h
      exact pb h
    refine v7_2 _ _ _ _ (condD (fun hc => needJ hin ?_) fun hc => by omega)
    rw [Int.toNat_natCast]
    clear h ih
    generalize l.getD i ([], []) = x at hx hnext bad ⊢
    refine ASpec.call (rfit_spec (l := x.1) (by unfold big; unfold lim at hx; omega) _) (Les.refl _) ⟨_, rfl, rfl, condBn (fun h1 => bad (.inl h1)) fun h1 => needJ hin ?_⟩
    refine ASpec.call (rspanCheck_spec x.2 hx.2 _) (Les.refl _) ⟨_, rfl, rfl, condBn (fun h2 => bad (.inr (.inr (.inr h2)))) fun h2 => needJ hin (condD (fun h3 => bad (.inr (.inr (.inl (by omega))))) fun h3 => condD (fun h4 => needJ hin ?_) fun h4 => hnext ?_)⟩
    · rw [pred64 (by unfold lim at hl1; omega) (by omega), Int.toNat_natCast]
      refine needJ ⟨by omega, by omega⟩ ?_
      rw [← he (by omega), B_toList, B_toList]
      refine condB (fun h5 => bad (.inr (.inl h5))) fun h5 => hnext ?_
      have h5' : leB x.1 last = false := h5
      rw [h1, h2, h5']; simp; omega
    · rw [h0 (by omega), h1, h2, leB_nil h1]; simp; omega

theorem rneedCheck_spec (l : List Need) (hl : okN l) (H : List AObj) : ASpec Tryz.prog 7 [.sl 2 (.map encN ([], []) l) .none] H (fun r H' => r = .bool (needOk l) ∧ H' = H) :=
  ASpec.pureH H (ASpec.sel (s7 _ _ (rneed2 hl l.length 0 [] (by omega) (fun _ => rfl) (fun h => by omega) rfl))) _ _ rfl rfl

/-! ### manifests -/

def relF (e : Int) : List Rel → Bool
  | [] => true
  | x :: r => if x.1 ≤ e ∨ 1000000000 ≤ x.1 ∨ needOk x.2 = false then false else relF x.1 r
def manOk (m : Mani) : Bool := relF (-1) m.2 && (fitM m.1 && decide (m.2.length ≤ 8))

def okM (m : Mani) : Prop := m.1.length ≤ lim ∧ m.2.length ≤ lim ∧ ∀ r ∈ m.2, okN r.2

theorem mani3 {m : Mani} {c : Bool} (hl : okM m) : ∀ (k i : Nat) (e : Int), k + i = m.2.length → (relF e (m.2.drop i) && (fitM m.1 && decide (m.2.length ≤ 8))) = c →
    AWP Tryz.prog 40 0 c134_3 [(1, .ptr 0 0), (3, .int .i64 e), (7, .sl 2 (.map T.encR (0, []) m.2) .none), (8, .int .i64 m.2.length), (9, .int .i64 i)] [.cells (encM m)] (q134_2 0 (PB c)) := by
  obtain ⟨hl1, hl2, hl3⟩ := hl
  intro k
  induction k with
  | zero =>
    intro i e hm h
    refine v134_3 _ _ _ _ _ _ (condD (fun hc => by omega) fun _ => ?_)
    rw [List.drop_eq_nil_of_le (by omega)] at h
    simp only [relF, Bool.true_and] at h
    refine ASpec.call (fit_spec (l := m.1) (by unfold big; unfold lim at hl1; omega) _) (Les.refl _) ⟨_, rfl, rfl, condB (fun h1 => pb ?_) fun h1 => pb ?_⟩
    · rw [h1, Bool.true_and] at h
      rw [show decide ((m.2.length : Int) ≤ 8) = decide (m.2.length ≤ 8) from decide_eq_decide.2 (by omega)]
      exact h
    · rw [h1, Bool.false_and] at h
      exact h
  | succ k ih =>
    intro i e hm h
    have hx := hl3 _ (memD m.2 (0, []) i (by omega))
    rw [dropD m.2 (0, []) i (by omega)] at h
    simp only [relF] at h
    refine v134_3 _ _ _ _ _ _ (condD (fun hc => needJ ⟨by omega, by omega⟩ ?_) fun hc => by omega)
    rw [Int.toNat_natCast]
    generalize m.2.getD i (0, []) = x at h hx ⊢
    have bad : ∀ {H' : List AObj}, (x.1 ≤ e ∨ 1000000000 ≤ x.1 ∨ needOk x.2 = false) → PB c (.bool false) H' := by
      intro H' hh
      rw [if_pos hh] at h
      exact pb h
    refine condD (fun h1 => bad (.inl h1)) fun h1 => condD (fun h2 => bad (.inr (.inl h2))) fun h2 => ?_
    refine ASpec.call (needCheck_spec x.2 hx _) (Les.refl _) ⟨_, rfl, rfl, condBn (fun h3 => bad (.inr (.inr h3))) fun h3 => ?_⟩
    rw [if_neg (by rw [h3]; simp; omega)] at h
    rw [succ64 (by unfold lim at hl2; omega)]
    exact AWP.shape [0] [(1, .ptr 0 0), (3, .int .i64 x.1), (7, .sl 2 (.map T.encR (0, []) m.2) .none), (8, .int .i64 m.2.length), (9, .int .i64 (i + 1 : Nat))] [.cells (encM m)] (Sel.one 0 rfl rfl)
      ⟨rfl, Le.refl _, rfl, Le.refl _, rfl, Le.refl _, rfl, Le.refl _, rfl, Le.refl _, trivial⟩ (ih (i + 1) x.1 (by omega) h)

theorem maniCheck_spec (m : Mani) (hl : okM m) (H : List AObj) : ASpec Tryz.prog 134 [.agg (encM m)] H (fun r H' => r = .bool (manOk m) ∧ H' = H) :=
  ASpec.pureH H (ASpec.sel (s134 _ _ (mani3 hl m.2.length 0 (-1) (by omega) rfl))) _ _ rfl rfl

theorem verFit_spec (x : Int) (H : List AObj) : ASpec Tryz.prog 41 [.int .i64 x] H (fun r H' => r = .bool (decide (0 ≤ x ∧ x < 1000000000)) ∧ H' = H) := by
  have k : ASpec Tryz.prog 41 [.int .i64 x] [] (fun r H' => r = .bool (decide (0 ≤ x ∧ x < 1000000000)) ∧ H' = []) := by
    refine s41 _ _ (condD (fun h => ⟨?_, rfl⟩) fun h => ⟨?_, rfl⟩)
    · congr 1; exact decide_eq_decide.2 (by omega)
    · rw [decide_eq_false (by omega)]
  exact ASpec.pureH H k _ _ rfl rfl

theorem rmani2 {m : Mani} {c : Bool} (hl : okM m) : ∀ (k i : Nat) (e : Int), k + i = m.2.length → (i = 0 → e = -1) → (0 < i → e = (m.2.getD (i - 1) (0, [])).1 ∧ 0 ≤ e) → (relF e (m.2.drop i) && (fitM m.1 && decide (m.2.length ≤ 8))) = c →
    AWP Tryz.prog 52 0 c139_2 [(1, .ptr 0 0), (3, .int .i64 i)] [.cells (encM m)] (q139_2 0 (PB c)) := by
  obtain ⟨hl1, hl2, hl3⟩ := hl
  intro k
  induction k with
  | zero =>
    intro i e hm _ _ h
    refine v139_2 _ _ _ _ (condD (fun hc => by omega) fun _ => ?_)
    rw [List.drop_eq_nil_of_le (by omega)] at h
    simp only [relF, Bool.true_and] at h
    refine ASpec.call (rfit_spec (l := m.1) (by unfold big; unfold lim at hl1; omega) _) (Les.refl _) ⟨_, rfl, rfl, condB (fun h1 => pb ?_) fun h1 => pb ?_⟩
    · rw [h1, Bool.true_and] at h
      rw [show decide ((m.2.length : Int) ≤ 8) = decide (m.2.length ≤ 8) from decide_eq_decide.2 (by omega)]
      exact h
    · rw [h1, Bool.false_and] at h
      exact h
  | succ k ih =>
    intro i e hm h0 he h
    have hin : (0 : Int) ≤ (i : Int) ∧ (i : Int) < (m.2.length : Int) := ⟨by omega, by omega⟩
    have hx := hl3 _ (memD m.2 (0, []) i (by omega))
    rw [dropD m.2 (0, []) i (by omega)] at h
    simp only [relF] at h
    have hge : -1 ≤ e := by
      rcases Nat.eq_zero_or_pos i with z | z
      · have := h0 z; omega
      · have := he z; omega
    have hnext : ∀ (q : List AObj), ¬ ((m.2.getD i (0, [])).1 ≤ e ∨ 1000000000 ≤ (m.2.getD i (0, [])).1 ∨ needOk (m.2.getD i (0, [])).2 = false) →
        AWP Tryz.prog 52 0 c139_2 [(1, .ptr 0 0), (3, .int .i64 (IntKind.wrap .i64 ((i : Int) + 1)))] (.cells (encM m) :: q) (q139_2 0 (PB c)) := by
      intro q hn
      rw [if_neg hn] at h
      rw [succ64 (by unfold lim at hl2; omega)]
      exact AWP.shape [0] [(1, .ptr 0 0), (3, .int .i64 (i + 1 : Nat))] [.cells (encM m)] (Sel.one 0 rfl rfl)
        ⟨rfl, Le.refl _, rfl, Le.refl _, trivial⟩ (ih (i + 1) (m.2.getD i (0, [])).1 (by omega) (fun hh => by omega) (fun _ => ⟨rfl, by omega⟩) h)
    have bad : ∀ {H' : List AObj}, ((m.2.getD i (0, [])).1 ≤ e ∨ 1000000000 ≤ (m.2.getD i (0, [])).1 ∨ needOk (m.2.getD i (0, [])).2 = false) → PB c (.bool false) H' := by
      intro H' hh
      rw [if_pos hh] at h
      exact pb h
    refine v139_2 _ _ _ _ (condD (fun hc => needJ hin ?_) fun hc => by omega)
    rw [Int.toNat_natCast]
    clear h ih
    generalize m.2.getD i (0, []) = x at hx hnext bad ⊢
    refine ASpec.call (verFit_spec x.1 _) (Les.refl _) ⟨_, rfl, rfl, condBn (fun h1 => bad ?_) fun h1 => ?_⟩
    · have := of_decide_eq_false h1; omega
    have h1 := of_decide_eq_true h1
    refine ASpec.call (rneedCheck_spec x.2 hx _) (Les.refl _) ⟨_, rfl, rfl, condBn (fun h2 => bad (.inr (.inr h2))) fun h2 => condD (fun h4 => ?_) fun h4 => hnext _ ?_⟩
    · rw [pred64 (by unfold lim at hl2; omega) (by omega), Int.toNat_natCast]
      have hh := he (by omega)
      refine needJ ⟨by omega, by omega⟩ (condD (fun h5 => bad (.inl (by omega))) fun h5 => hnext _ ?_)
      rw [h2]; simp; omega
    · have := h0 (by omega)
      rw [h2]; simp; omega

theorem rmaniCheck_spec (m : Mani) (hl : okM m) (H : List AObj) : ASpec Tryz.prog 139 [.agg (encM m)] H (fun r H' => r = .bool (manOk m) ∧ H' = H) :=
  ASpec.pureH H (ASpec.sel (s139 _ _ (rmani2 hl m.2.length 0 (-1) (by omega) (fun _ => rfl) (fun h => by omega) rfl))) _ _ rfl rfl

/-! ### are they large? -/

def largeNF : List Need → Bool
  | [] => false
  | x :: r => if 40 < x.2.length ∨ 100 < x.1.length then true else largeNF r
def largeN (l : List Need) : Bool := if 40 < l.length then true else largeNF l

theorem large4 {l : List Need} {c : Bool} (hl : l.length ≤ 40) : ∀ (m i : Nat), m + i = l.length → largeNF (l.drop i) = c →
    AWP Tryz.prog 29 0 c6_4 [(0, .sl 2 (.map encN ([], []) l) .none), (3, .int .i64 i)] [] (q6_2 0 (PB c)) := by
  intro m
  induction m with
  | zero =>
    intro i hm h
    refine v6_4 _ _ _ _ (condD (fun hc => by omega) fun _ => pb ?_)
    rw [List.drop_eq_nil_of_le (by omega)] at h
    exact h
  | succ m ih =>
    intro i hm h
    have hin : (0 : Int) ≤ (i : Int) ∧ (i : Int) < (l.length : Int) := ⟨by omega, by omega⟩
    rw [dropD l ([], []) i (by omega)] at h
    simp only [largeNF] at h
    refine v6_4 _ _ _ _ (condD (fun hc => needJ hin ?_) fun hc => by omega)
    rw [Int.toNat_natCast]
    generalize l.getD i ([], []) = x at h ⊢
    rw [B_size]
    refine condD (fun h1 => pb ?_) fun h1 => needJ hin (condD (fun h2 => pb ?_) fun h2 => ?_)
    · rw [if_pos (by omega)] at h; exact h
    · rw [if_pos (by omega)] at h; exact h
    · rw [if_neg (by omega)] at h
      rw [succ64 (by omega)]
      exact ih (i + 1) (by omega) h

theorem largeN_spec (l : List Need) (H : List AObj) : ASpec Tryz.prog 6 [.sl 2 (.map encN ([], []) l) .none] H (fun r H' => r = .bool (largeN l) ∧ H' = H) := by
  have k : ASpec Tryz.prog 6 [.sl 2 (.map encN ([], []) l) .none] [] (fun r H' => r = .bool (largeN l) ∧ H' = []) := by
    refine ASpec.sel (s6 _ _ (condD (fun h => pb ?_) fun h => ?_))
    · rw [largeN, if_pos (by omega)]
    · refine large4 (by omega) l.length 0 (by omega) ?_
      rw [largeN, if_neg (by omega)]; rfl
  exact ASpec.pureH H k _ _ rfl rfl

theorem largeNF_ok : ∀ (l : List Need), largeNF l = false → ∀ n ∈ l, n.1.length ≤ 100 ∧ n.2.length ≤ 40
  | [], _, n, hn => by simp at hn
  | x :: r, h, n, hn => by
    simp only [largeNF] at h
    split at h
    · cases h
    · rcases List.mem_cons.1 hn with rfl | hn
      · omega
      · exact largeNF_ok r h n hn

theorem largeN_ok {l : List Need} (h : largeN l = false) : okN l := by
  unfold largeN at h
  split at h
  · cases h
  · refine ⟨by unfold lim; omega, fun n hn => ?_⟩
    have := largeNF_ok l h n hn
    unfold lim; omega

end C
end

section
/- Manifests as bytes: what the code puts, and the document. -/

set_option linter.unusedVariables false
set_option linter.unusedSimpArgs false
set_option maxRecDepth 100000
open Go Go.Ab Go.Proofs V S T C
namespace W

section
variable {Post : AV → List AObj → Prop}

abbrev sl1 (b : List UInt8) : AV := .sl 1 (.map encB 0 b) .none
noncomputable abbrev slR (l : List Rel) : AV := .sl 2 (.map T.encR (0, []) l) .none
noncomputable abbrev slN (l : List Need) : AV := .sl 2 (.map encN ([], []) l) .none
noncomputable abbrev slS (l : List Span) : AV := .sl 2 (.map encS (0, 0) l) .none

/-! ### the document's -/

end
end W
end

section
/- Manifests out of bytes: what the code reads. -/

set_option linter.unusedVariables false
set_option linter.unusedSimpArgs false
set_option maxRecDepth 100000
open Go Go.Ab Go.Proofs V S T C
namespace W

/-! ### the model -/

def spanR (bs : List UInt8) (p : Nat) (e : Int) : Span × Nat × Int :=
  (((numM bs p e 1000000000).1, IntKind.wrap .i64 ((numM bs p e 1000000000).1 + (numM bs (numM bs p e 1000000000).2.1 (numM bs p e 1000000000).2.2 1000000000).1)),
    (numM bs (numM bs p e 1000000000).2.1 (numM bs p e 1000000000).2.2 1000000000).2)

def listR {α : Type} (one : Nat → Int → α × Nat × Int) : Nat → Nat → Int → List α × Nat × Int
  | 0, p, e => ([], p, e)
  | k + 1, p, e => if e = 0 then ((one p e).1 :: (listR one k (one p e).2.1 (one p e).2.2).1, (listR one k (one p e).2.1 (one p e).2.2).2) else ([], p, e)

def listM {α : Type} (one : Nat → Int → α × Nat × Int) (bs : List UInt8) (p : Nat) (e most : Int) : List α × Nat × Int :=
  listR one (numM bs p e most).1.toNat (numM bs p e most).2.1 (numM bs p e most).2.2

def needR (bs : List UInt8) (p : Nat) (e : Int) : Need × Nat × Int :=
  (((strM bs p e 24).1, (listM (spanR bs) bs (strM bs p e 24).2.1 (strM bs p e 24).2.2 6).1), (listM (spanR bs) bs (strM bs p e 24).2.1 (strM bs p e 24).2.2 6).2)

def relR (bs : List UInt8) (p : Nat) (e : Int) : Rel × Nat × Int :=
  (((numM bs p e 1000000000).1, (listM (needR bs) bs (numM bs p e 1000000000).2.1 (numM bs p e 1000000000).2.2 6).1), (listM (needR bs) bs (numM bs p e 1000000000).2.1 (numM bs p e 1000000000).2.2 6).2)

def maniR (bs : List UInt8) : Mani × Nat × Int :=
  (((strM bs 0 0 24).1, (listM (relR bs) bs (strM bs 0 0 24).2.1 (strM bs 0 0 24).2.2 8).1), (listM (relR bs) bs (strM bs 0 0 24).2.1 (strM bs 0 0 24).2.2 8).2)

def endM (m : Mani) (c : Int) : Mani × Int := if c ≠ 0 then (([], []), c) else if manOk m = true then (m, 0) else (([], []), 3)

def readM (bs : List UInt8) : Mani × Int :=
  if 8192 < bs.length then (([], []), 4) else endM (maniR bs).1 (closeM (maniR bs).2.2 (bs.length - (maniR bs).2.1))

theorem lookM_most (s : List UInt8) (most : Int) (h : 0 ≤ most) : (lookM s most).1 ≤ most := by
  cases s with
  | nil => simpa [lookM] using h
  | cons c s =>
    simp only [lookM]
    split
    · exact h
    · split
      · exact h
      · split
        · exact h
        · simp only; omega

theorem numM_most (bs : List UInt8) (p : Nat) (e most : Int) (h : 0 ≤ most) : 0 ≤ (numM bs p e most).1 ∧ (numM bs p e most).1 ≤ most := by
  unfold numM
  split
  · exact ⟨Int.le_refl _, h⟩
  · exact ⟨(lookM_le _ _).2.1, lookM_most _ _ h⟩

theorem numM_p {bs : List UInt8} {p : Nat} {e most : Int} (hp : p ≤ bs.length) : (numM bs p e most).2.1 ≤ bs.length := (num_doc bs p e most hp).2
theorem strM_p {bs : List UInt8} {p : Nat} {e most : Int} (hp : p ≤ bs.length) : (strM bs p e most).2.1 ≤ bs.length := (str_doc bs p e most hp).2

theorem strM_len (bs : List UInt8) (p : Nat) (e most : Int) (h : 0 ≤ most) : ((strM bs p e most).1.length : Int) ≤ most := by
  unfold strM
  have := lookM_most (bs.drop p) most h
  have h2 := (lookM_le (bs.drop p) most).2.1
  repeat' split
  all_goals (simp only [List.length_nil, List.length_take]; omega)

/-- one keeps its place in the bytes -/
def Inside {α : Type} (bs : List UInt8) (one : Nat → Int → α × Nat × Int) : Prop := ∀ p e, p ≤ bs.length → (one p e).2.1 ≤ bs.length

theorem listR_p {α : Type} {bs : List UInt8} {one : Nat → Int → α × Nat × Int} (h : Inside bs one) : ∀ (k p : Nat) (e : Int), p ≤ bs.length → (listR one k p e).2.1 ≤ bs.length
  | 0, p, e, hp => hp
  | k + 1, p, e, hp => by
    simp only [listR]
    split
    · exact listR_p h k _ _ (h p e hp)
    · exact hp

theorem listM_p {α : Type} {bs : List UInt8} {one : Nat → Int → α × Nat × Int} (h : Inside bs one) {p : Nat} {e most : Int} (hp : p ≤ bs.length) : (listM one bs p e most).2.1 ≤ bs.length :=
  listR_p h _ _ _ (numM_p hp)

theorem listR_len {α : Type} (one : Nat → Int → α × Nat × Int) : ∀ (k p : Nat) (e : Int), (listR one k p e).1.length ≤ k
  | 0, p, e => by simp [listR]
  | k + 1, p, e => by
    simp only [listR]
    split
    · have := listR_len one k (one p e).2.1 (one p e).2.2
      simp only [List.length_cons]; omega
    · simp

theorem listM_len {α : Type} (one : Nat → Int → α × Nat × Int) (bs : List UInt8) (p : Nat) (e most : Int) (h : 0 ≤ most) : ((listM one bs p e most).1.length : Int) ≤ most := by
  have h1 := numM_most bs p e most h
  have h2 := listR_len one (numM bs p e most).1.toNat (numM bs p e most).2.1 (numM bs p e most).2.2
  unfold listM
  omega

theorem listR_all {α : Type} {one : Nat → Int → α × Nat × Int} {Q : α → Prop} (h : ∀ p e, Q (one p e).1) : ∀ (k p : Nat) (e : Int), ∀ x ∈ (listR one k p e).1, Q x
  | 0, p, e, x, hx => by simp [listR] at hx
  | k + 1, p, e, x, hx => by
    simp only [listR] at hx
    split at hx
    · rcases List.mem_cons.1 hx with rfl | hx
      · exact h p e
      · exact listR_all h k _ _ x hx
    · simp at hx

theorem spanR_p (bs : List UInt8) : Inside bs (spanR bs) := fun p e hp => numM_p (numM_p hp)
theorem needR_p (bs : List UInt8) : Inside bs (needR bs) := fun p e hp => listM_p (spanR_p bs) (strM_p hp)
theorem relR_p (bs : List UInt8) : Inside bs (relR bs) := fun p e hp => listM_p (needR_p bs) (numM_p hp)
theorem maniR_p (bs : List UInt8) : (maniR bs).2.1 ≤ bs.length := listM_p (relR_p bs) (strM_p (Nat.zero_le _))

theorem needR_ok (bs : List UInt8) (p : Nat) (e : Int) : (needR bs p e).1.1.length ≤ 24 ∧ (needR bs p e).1.2.length ≤ 6 := by
  have h1 := strM_len bs p e 24 (by omega)
  have h2 := listM_len (spanR bs) bs (strM bs p e 24).2.1 (strM bs p e 24).2.2 6 (by omega)
  simp only [needR]; omega

theorem relR_ok (bs : List UInt8) (p : Nat) (e : Int) : (relR bs p e).1.2.length ≤ 6 ∧ okN (relR bs p e).1.2 := by
  have h2 := listM_len (needR bs) bs (numM bs p e 1000000000).2.1 (numM bs p e 1000000000).2.2 6 (by omega)
  refine ⟨by simp only [relR]; omega, by simp only [relR]; unfold lim; omega, fun n hn => ?_⟩
  have := listR_all (Q := fun n : Need => n.1.length ≤ 24 ∧ n.2.length ≤ 6) (needR_ok bs) _ _ _ n hn
  unfold lim; omega

theorem maniR_ok (bs : List UInt8) : okM (maniR bs).1 := by
  have h1 := strM_len bs 0 0 24 (by omega)
  have h2 := listM_len (relR bs) bs (strM bs 0 0 24).2.1 (strM bs 0 0 24).2.2 8 (by omega)
  refine ⟨by simp only [maniR]; unfold lim; omega, by simp only [maniR]; unfold lim; omega, fun r hr => ?_⟩
  exact (listR_all (Q := fun r : Rel => r.2.length ≤ 6 ∧ okN r.2) (relR_ok bs) _ _ _ r hr).2

theorem readM_ok (bs : List UInt8) : okM (readM bs).1 := by
  have h0 : okM (([], []) : Mani) := ⟨by simp, by simp, fun r hr => by simp at hr⟩
  unfold readM
  split
  · exact h0
  · unfold endM
    split
    · exact h0
    · split
      · exact maniR_ok bs
      · exact h0

/-! ### the walk -/

section
variable {bs : List UInt8} {p : Nat} {e : Int}

theorem selHR (q : List AObj) : Sel 5 [0, 1, 2, 3, 4] (HR bs p e ++ q) (HR bs p e) := by
  refine ⟨by decide, rfl, by decide, fun i hi => ?_, fun i hi => .inl ?_⟩
  · match i, hi with
    | 0, _ | 1, _ | 2, _ | 3, _ | 4, _ => rfl
  · match i, hi with
    | 0, _ | 1, _ | 2, _ | 3, _ | 4, _ => rfl

theorem selTokR : Sel 5 [0, 1, 2, 3, 4, 6] (HR bs p e ++ [.gone, .tok]) (HR bs p e ++ [.tok]) := by
  refine ⟨by decide, rfl, by decide, fun i hi => ?_, fun i hi => .inl ?_⟩
  · match i, hi with
    | 0, _ | 1, _ | 2, _ | 3, _ | 4, _ => rfl
  · match i, hi with
    | 0, _ | 1, _ | 2, _ | 3, _ | 4, _ | 5, _ => rfl

theorem subHR {f : FuncId} {args : List AV} {r0 : AV} {p' : Nat} {e' : Int} (q : List AObj) (k : ASpec Tryz.prog f args (HR bs p e) (fun r H' => r = r0 ∧ H' = HR bs p' e'))
    (ha : args.map (AV.ren (callR [0, 1, 2, 3, 4] (HR bs p e ++ q).length)) = args) (hr : AV.ren (callR [0, 1, 2, 3, 4] (HR bs p e ++ q).length) r0 = r0) :
    ASpec Tryz.prog f args (HR bs p e ++ q) (fun r H' => r = r0 ∧ H' = HR bs p' e' ++ q) := by
  refine ASpec.subH [0, 1, 2, 3, 4] _ _ k args r0 (by decide) rfl ha hr (fun i hi => ?_) ?_
  · match i, hi with
    | 0, _ | 1, _ | 2, _ | 3, _ | 4, _ => rfl
  · show HR bs p' e' ++ q ++ [] = _
    rw [List.append_nil]

theorem leAppT {α : Type} {en : α → List AV} {d : α} (hr : ∀ ρ x, renL ρ (en x) = en x) {acc : List α} {x : α} {sz k j : Nat} {ρ : Nat → Nat} {ex : List AV} (hx : ex = en x) (hk : ρ j = k) :
    Le (.sl sz (.app (.map en d acc) (.raw [ex])) (.tok k)) (AV.ren ρ (.sl sz (.map en d (acc ++ [x])) (.tok j))) := by
  subst hk; subst hx
  refine Le.sl (s' := Seq.ren ρ (.map en d (acc ++ [x]))) ?_ (.inl rfl) (.inl rfl)
  simp [Ab.Seq.toList, Seq.ren, hr]

theorem leNone {α : Type} {en : α → List AV} {d : α} (hr : ∀ ρ x, renL ρ (en x) = en x) {acc : List α} {sz : Nat} {tip : Tip} {ρ : Nat → Nat} :
    Le (.sl sz (.map en d acc) tip) (AV.ren ρ (.sl sz (.map en d acc) .none)) :=
  Le.sl (s' := Seq.ren ρ (.map en d acc)) (by simp [Ab.Seq.toList, Seq.ren, hr]) (.inl rfl) (.inr rfl)

theorem renS (ρ : Nat → Nat) (x : Span) : renL ρ (encS x) = encS x := rfl
theorem renN (ρ : Nat → Nat) (x : Need) : renL ρ (encN x) = encN x := rfl
theorem renR (ρ : Nat → Nat) (x : Rel) : renL ρ (T.encR x) = T.encR x := rfl

theorem name98 (hb : bs.length ≤ big) (hp : p ≤ bs.length) : ASpec Tryz.prog 124 [.ptr 1 0] (HR bs p e) (fun r H' => r = .str (B (strM bs p e 24).1) ∧ H' = HR bs (strM bs p e 24).2.1 (strM bs p e 24).2.2) :=
  s124 _ _ _ _ (ASpec.call (str_spec (H := HR bs p e) (id := 0) (bs := bs) (p := p) (e := e) 24 hb hp rfl) (Les.refl _) ⟨(B (strM bs p e 24).1, ((strM bs p e 24).2.1 : Nat), (strM bs p e 24).2.2), rfl, rfl, rfl, rfl⟩)

theorem span99 (hb : bs.length ≤ big) (hp : p ≤ bs.length) : ASpec Tryz.prog 126 [.ptr 1 0] (HR bs p e) (fun r H' => r = .agg (encS (spanR bs p e).1) ∧ H' = HR bs (spanR bs p e).2.1 (spanR bs p e).2.2) := by
  have h1 := numM_p (e := e) (most := 1000000000) hp
  refine ASpec.sel (s126 _ _ _ _ (ASpec.call (num_spec (H := HR bs p e ++ [.cells [.int .i64 0, .int .i64 0]]) (id := 0) (bs := bs) (p := p) (e := e) 1000000000 hb hp rfl) (Les.refl _) ⟨((numM bs p e 1000000000).1, ((numM bs p e 1000000000).2.1 : Nat), (numM bs p e 1000000000).2.2), rfl, rfl, ?_⟩))
  refine ASpec.call (num_spec (H := HR bs (numM bs p e 1000000000).2.1 (numM bs p e 1000000000).2.2 ++ [.cells [.int .i64 0, .int .i64 0]]) (id := 0) (bs := bs) (p := (numM bs p e 1000000000).2.1) (e := (numM bs p e 1000000000).2.2) 1000000000 hb h1 rfl) (Les.refl _)
    ⟨((numM bs (numM bs p e 1000000000).2.1 (numM bs p e 1000000000).2.2 1000000000).1, ((numM bs (numM bs p e 1000000000).2.1 (numM bs p e 1000000000).2.2 1000000000).2.1 : Nat), (numM bs (numM bs p e 1000000000).2.1 (numM bs p e 1000000000).2.2 1000000000).2.2), rfl, rfl, ?_⟩
  exact ⟨[0, 1, 2, 3, 4], HR bs (spanR bs p e).2.1 (spanR bs p e).2.2, .agg (encS (spanR bs p e).1), selHR _, Le.refl _, rfl, rfl⟩

theorem loop101 {Post : AV → List AObj → Prop} (hb : bs.length ≤ big) : ∀ (k p : Nat) (e : Int) (acc : List Span), p ≤ bs.length → acc.length + k ≤ 100 →
    Post (.sl 2 (.map encS (0, 0) (acc ++ (listR (spanR bs) k p e).1)) (.tok 5)) (HR bs (listR (spanR bs) k p e).2.1 (listR (spanR bs) k p e).2.2 ++ [.tok]) →
    AWP Tryz.prog 27 5 c129_3 [(0, .ptr 0 0), (2, .fn 126 [.ptr 1 0]), (7, .sl 2 (.map encS (0, 0) acc) (.tok 5)), (8, .int .i64 k)] (HR bs p e ++ [.tok]) (q129_2 5 Post) := by
  intro k
  induction k with
  | zero =>
    intro p e acc hp ha h
    refine v129_3 _ _ _ _ _ _ _ (condD (fun hc => by omega) fun _ => ?_)
    simp only [listR, List.append_nil] at h
    exact h
  | succ k ih =>
    intro p e acc hp ha h
    simp only [listR] at h
    refine v129_3 _ _ _ _ _ _ _ (condD (fun _ => ?_) fun hc => by omega)
    refine ASpec.call (err_spec (H := HR bs p e ++ [.tok]) (id := 0) (bs := bs) (p := p) (e := e) rfl) (Les.refl _) ⟨e, rfl, rfl, condE (fun he => ?_) fun he => ?_⟩
    · rw [if_pos he] at h
      refine ASpec.call (subHR [.tok] (span99 (e := e) hb hp) rfl rfl) (Les.refl _) ⟨((spanR bs p e).1, ((spanR bs p e).2.1 : Nat), (spanR bs p e).2.2), rfl, rfl, needJ (by omega) ?_⟩
      rw [show IntKind.wrap .i64 (((k + 1 : Nat) : Int) - 1) = (k : Int) by rw [wrap64 (by omega) (by omega)]; omega]
      refine AWP.shape [0, 1, 2, 3, 4, 6] [(0, .ptr 0 0), (2, .fn 126 [.ptr 1 0]), (7, .sl 2 (.map encS (0, 0) (acc ++ [(spanR bs p e).1])) (.tok 5)), (8, .int .i64 k)] _ selTokR
        ⟨rfl, Le.refl _, rfl, Le.refl _, rfl, leAppT renS rfl rfl, rfl, Le.refl _, trivial⟩ (ih _ _ _ (spanR_p bs p e hp) (by simp; omega) ?_)
      simpa using h
    · rw [if_neg he] at h
      simp only [List.append_nil] at h
      exact h

theorem list101 {most : Int} (hm : 0 ≤ most ∧ most ≤ 100) (hb : bs.length ≤ big) (hp : p ≤ bs.length) : ASpec Tryz.prog 129 [.ptr 0 0, .int .i64 most, .fn 126 [.ptr 1 0]] (HR bs p e)
    (fun r H' => r = slS (listM (spanR bs) bs p e most).1 ∧ H' = HR bs (listM (spanR bs) bs p e most).2.1 (listM (spanR bs) bs p e most).2.2) := by
  have hn := numM_most bs p e most hm.1
  refine ASpec.sel (s129 _ _ _ _ _ (ASpec.call (num_spec (H := HR bs p e) (id := 0) (bs := bs) (p := p) (e := e) most hb hp rfl) (Les.refl _) ⟨((numM bs p e most).1, ((numM bs p e most).2.1 : Nat), (numM bs p e most).2.2), rfl, rfl, ?_⟩))
  refine AWP.re (ReSt.tok (H := HR bs (numM bs p e most).2.1 (numM bs p e most).2.2) (k := 7) (q' := .map encS (0, 0) []) (sz' := 2) (s2 := [(0, .ptr 0 0), (2, .fn 126 [.ptr 1 0]), (7, .sl 2 (.map encS (0, 0) []) (.tok 5)), (8, .int .i64 (numM bs p e most).1)]) rfl (.inl rfl) rfl (.inr rfl) (fun d hd => ?_) rfl) ?_
  · simp only [Ab.get]
    have e : Nat.beq 7 d = false := by
      cases hx : Nat.beq 7 d with
      | false => rfl
      | true => exact absurd (Nat.eq_of_beq_eq_true hx).symm hd
    rw [e]; rfl
  · obtain ⟨k, hk⟩ := Int.eq_ofNat_of_zero_le hn.1
    rw [hk]
    refine loop101 hb k _ _ [] (numM_p hp) (by simp; omega) ?_
    have hL : listR (spanR bs) k (numM bs p e most).2.1 (numM bs p e most).2.2 = listM (spanR bs) bs p e most := by rw [listM, hk]; rfl
    rw [hL, List.nil_append]
    exact ⟨[0, 1, 2, 3, 4], _, slS (listM (spanR bs) bs p e most).1, selHR _, leNone renS, rfl, rfl⟩

theorem need100 (hb : bs.length ≤ big) (hp : p ≤ bs.length) : ASpec Tryz.prog 128 [.ptr 2 0, .ptr 1 0, .ptr 3 0] (HR bs p e) (fun r H' => r = .agg (encN (needR bs p e).1) ∧ H' = HR bs (needR bs p e).2.1 (needR bs p e).2.2) := by
  have h1 := strM_p (e := e) (most := 24) hp
  refine ASpec.sel (s128 _ _ _ _ (ASpec.call (subHR [.cells [.str ⟨#[]⟩, .sl 0 (.raw []) .nil]] (name98 (e := e) hb hp) rfl rfl) (Les.refl _) ⟨(B (strM bs p e 24).1, ((strM bs p e 24).2.1 : Nat), (strM bs p e 24).2.2), rfl, rfl, ?_⟩))
  refine ASpec.call (subHR [.cells [.str ⟨#[]⟩, .sl 0 (.raw []) .nil], .cells [.str (B (strM bs p e 24).1), .sl 0 (.raw []) .nil]] (list101 (e := (strM bs p e 24).2.2) (most := 6) (by omega) hb h1) rfl rfl) (Les.refl _)
    ⟨((listM (spanR bs) bs (strM bs p e 24).2.1 (strM bs p e 24).2.2 6).1, ((listM (spanR bs) bs (strM bs p e 24).2.1 (strM bs p e 24).2.2 6).2.1 : Nat), (listM (spanR bs) bs (strM bs p e 24).2.1 (strM bs p e 24).2.2 6).2.2), rfl, rfl, ?_⟩
  exact ⟨[0, 1, 2, 3, 4], HR bs (needR bs p e).2.1 (needR bs p e).2.2, .agg (encN (needR bs p e).1), selHR _, Le.refl _, rfl, rfl⟩

theorem loop104 {Post : AV → List AObj → Prop} (hb : bs.length ≤ big) : ∀ (k p : Nat) (e : Int) (acc : List Need), p ≤ bs.length → acc.length + k ≤ 100 →
    Post (.sl 2 (.map encN ([], []) (acc ++ (listR (needR bs) k p e).1)) (.tok 5)) (HR bs (listR (needR bs) k p e).2.1 (listR (needR bs) k p e).2.2 ++ [.tok]) →
    AWP Tryz.prog 27 5 c132_3 [(0, .ptr 0 0), (2, .fn 128 [.ptr 2 0, .ptr 1 0, .ptr 3 0]), (7, .sl 2 (.map encN ([], []) acc) (.tok 5)), (8, .int .i64 k)] (HR bs p e ++ [.tok]) (q132_2 5 Post) := by
  intro k
  induction k with
  | zero =>
    intro p e acc hp ha h
    refine v132_3 _ _ _ _ _ _ _ (condD (fun hc => by omega) fun _ => ?_)
    simp only [listR, List.append_nil] at h
    exact h
  | succ k ih =>
    intro p e acc hp ha h
    simp only [listR] at h
    refine v132_3 _ _ _ _ _ _ _ (condD (fun _ => ?_) fun hc => by omega)
    refine ASpec.call (err_spec (H := HR bs p e ++ [.tok]) (id := 0) (bs := bs) (p := p) (e := e) rfl) (Les.refl _) ⟨e, rfl, rfl, condE (fun he => ?_) fun he => ?_⟩
    · rw [if_pos he] at h
      refine ASpec.call (subHR [.tok] (need100 (e := e) hb hp) rfl rfl) (Les.refl _) ⟨((needR bs p e).1, ((needR bs p e).2.1 : Nat), (needR bs p e).2.2), rfl, rfl, needJ (by omega) ?_⟩
      rw [show IntKind.wrap .i64 (((k + 1 : Nat) : Int) - 1) = (k : Int) by rw [wrap64 (by omega) (by omega)]; omega]
      refine AWP.shape [0, 1, 2, 3, 4, 6] [(0, .ptr 0 0), (2, .fn 128 [.ptr 2 0, .ptr 1 0, .ptr 3 0]), (7, .sl 2 (.map encN ([], []) (acc ++ [(needR bs p e).1])) (.tok 5)), (8, .int .i64 k)] _ selTokR
        ⟨rfl, Le.refl _, rfl, Le.refl _, rfl, leAppT renN rfl rfl, rfl, Le.refl _, trivial⟩ (ih _ _ _ (needR_p bs p e hp) (by simp; omega) ?_)
      simpa using h
    · rw [if_neg he] at h
      simp only [List.append_nil] at h
      exact h

theorem list104 {most : Int} (hm : 0 ≤ most ∧ most ≤ 100) (hb : bs.length ≤ big) (hp : p ≤ bs.length) : ASpec Tryz.prog 132 [.ptr 0 0, .int .i64 most, .fn 128 [.ptr 2 0, .ptr 1 0, .ptr 3 0]] (HR bs p e)
    (fun r H' => r = slN (listM (needR bs) bs p e most).1 ∧ H' = HR bs (listM (needR bs) bs p e most).2.1 (listM (needR bs) bs p e most).2.2) := by
  have hn := numM_most bs p e most hm.1
  refine ASpec.sel (s132 _ _ _ _ _ (ASpec.call (num_spec (H := HR bs p e) (id := 0) (bs := bs) (p := p) (e := e) most hb hp rfl) (Les.refl _) ⟨((numM bs p e most).1, ((numM bs p e most).2.1 : Nat), (numM bs p e most).2.2), rfl, rfl, ?_⟩))
  refine AWP.re (ReSt.tok (H := HR bs (numM bs p e most).2.1 (numM bs p e most).2.2) (k := 7) (q' := .map encN ([], []) []) (sz' := 2) (s2 := [(0, .ptr 0 0), (2, .fn 128 [.ptr 2 0, .ptr 1 0, .ptr 3 0]), (7, .sl 2 (.map encN ([], []) []) (.tok 5)), (8, .int .i64 (numM bs p e most).1)]) rfl (.inl rfl) rfl (.inr rfl) (fun d hd => ?_) rfl) ?_
  · simp only [Ab.get]
    have e : Nat.beq 7 d = false := by
      cases hx : Nat.beq 7 d with
      | false => rfl
      | true => exact absurd (Nat.eq_of_beq_eq_true hx).symm hd
    rw [e]; rfl
  · obtain ⟨k, hk⟩ := Int.eq_ofNat_of_zero_le hn.1
    rw [hk]
    refine loop104 hb k _ _ [] (numM_p hp) (by simp; omega) ?_
    have hL : listR (needR bs) k (numM bs p e most).2.1 (numM bs p e most).2.2 = listM (needR bs) bs p e most := by rw [listM, hk]; rfl
    rw [hL, List.nil_append]
    exact ⟨[0, 1, 2, 3, 4], _, slN (listM (needR bs) bs p e most).1, selHR _, leNone renN, rfl, rfl⟩

theorem rel103 (hb : bs.length ≤ big) (hp : p ≤ bs.length) : ASpec Tryz.prog 131 [.ptr 1 0, .ptr 4 0] (HR bs p e) (fun r H' => r = .agg (T.encR (relR bs p e).1) ∧ H' = HR bs (relR bs p e).2.1 (relR bs p e).2.2) := by
  have h1 := numM_p (e := e) (most := 1000000000) hp
  refine ASpec.sel (s131 _ _ _ _ (ASpec.call (num_spec (H := HR bs p e ++ [.cells [.int .i64 0, .sl 0 (.raw []) .nil]]) (id := 0) (bs := bs) (p := p) (e := e) 1000000000 hb hp rfl) (Les.refl _) ⟨((numM bs p e 1000000000).1, ((numM bs p e 1000000000).2.1 : Nat), (numM bs p e 1000000000).2.2), rfl, rfl, ?_⟩))
  refine ASpec.call (subHR [.cells [.int .i64 0, .sl 0 (.raw []) .nil], .cells [.int .i64 (numM bs p e 1000000000).1, .sl 0 (.raw []) .nil]] (list104 (e := (numM bs p e 1000000000).2.2) (most := 6) (by omega) hb h1) rfl rfl) (Les.refl _)
    ⟨((listM (needR bs) bs (numM bs p e 1000000000).2.1 (numM bs p e 1000000000).2.2 6).1, ((listM (needR bs) bs (numM bs p e 1000000000).2.1 (numM bs p e 1000000000).2.2 6).2.1 : Nat), (listM (needR bs) bs (numM bs p e 1000000000).2.1 (numM bs p e 1000000000).2.2 6).2.2), rfl, rfl, ?_⟩
  exact ⟨[0, 1, 2, 3, 4], HR bs (relR bs p e).2.1 (relR bs p e).2.2, .agg (T.encR (relR bs p e).1), selHR _, Le.refl _, rfl, rfl⟩

theorem loop102 {Post : AV → List AObj → Prop} (hb : bs.length ≤ big) : ∀ (k p : Nat) (e : Int) (acc : List Rel), p ≤ bs.length → acc.length + k ≤ 100 →
    Post (.sl 2 (.map T.encR (0, []) (acc ++ (listR (relR bs) k p e).1)) (.tok 5)) (HR bs (listR (relR bs) k p e).2.1 (listR (relR bs) k p e).2.2 ++ [.tok]) →
    AWP Tryz.prog 27 5 c130_3 [(0, .ptr 0 0), (2, .fn 131 [.ptr 1 0, .ptr 4 0]), (7, .sl 2 (.map T.encR (0, []) acc) (.tok 5)), (8, .int .i64 k)] (HR bs p e ++ [.tok]) (q130_2 5 Post) := by
  intro k
  induction k with
  | zero =>
    intro p e acc hp ha h
    refine v130_3 _ _ _ _ _ _ _ (condD (fun hc => by omega) fun _ => ?_)
    simp only [listR, List.append_nil] at h
    exact h
  | succ k ih =>
    intro p e acc hp ha h
    simp only [listR] at h
    refine v130_3 _ _ _ _ _ _ _ (condD (fun _ => ?_) fun hc => by omega)
    refine ASpec.call (err_spec (H := HR bs p e ++ [.tok]) (id := 0) (bs := bs) (p := p) (e := e) rfl) (Les.refl _) ⟨e, rfl, rfl, condE (fun he => ?_) fun he => ?_⟩
    · rw [if_pos he] at h
      refine ASpec.call (subHR [.tok] (rel103 (e := e) hb hp) rfl rfl) (Les.refl _) ⟨((relR bs p e).1, ((relR bs p e).2.1 : Nat), (relR bs p e).2.2), rfl, rfl, needJ (by omega) ?_⟩
      rw [show IntKind.wrap .i64 (((k + 1 : Nat) : Int) - 1) = (k : Int) by rw [wrap64 (by omega) (by omega)]; omega]
      refine AWP.shape [0, 1, 2, 3, 4, 6] [(0, .ptr 0 0), (2, .fn 131 [.ptr 1 0, .ptr 4 0]), (7, .sl 2 (.map T.encR (0, []) (acc ++ [(relR bs p e).1])) (.tok 5)), (8, .int .i64 k)] _ selTokR
        ⟨rfl, Le.refl _, rfl, Le.refl _, rfl, leAppT renR rfl rfl, rfl, Le.refl _, trivial⟩ (ih _ _ _ (relR_p bs p e hp) (by simp; omega) ?_)
      simpa using h
    · rw [if_neg he] at h
      simp only [List.append_nil] at h
      exact h

theorem list102 {most : Int} (hm : 0 ≤ most ∧ most ≤ 100) (hb : bs.length ≤ big) (hp : p ≤ bs.length) : ASpec Tryz.prog 130 [.ptr 0 0, .int .i64 most, .fn 131 [.ptr 1 0, .ptr 4 0]] (HR bs p e)
    (fun r H' => r = slR (listM (relR bs) bs p e most).1 ∧ H' = HR bs (listM (relR bs) bs p e most).2.1 (listM (relR bs) bs p e most).2.2) := by
  have hn := numM_most bs p e most hm.1
  refine ASpec.sel (s130 _ _ _ _ _ (ASpec.call (num_spec (H := HR bs p e) (id := 0) (bs := bs) (p := p) (e := e) most hb hp rfl) (Les.refl _) ⟨((numM bs p e most).1, ((numM bs p e most).2.1 : Nat), (numM bs p e most).2.2), rfl, rfl, ?_⟩))
  refine AWP.re (ReSt.tok (H := HR bs (numM bs p e most).2.1 (numM bs p e most).2.2) (k := 7) (q' := .map T.encR (0, []) []) (sz' := 2) (s2 := [(0, .ptr 0 0), (2, .fn 131 [.ptr 1 0, .ptr 4 0]), (7, .sl 2 (.map T.encR (0, []) []) (.tok 5)), (8, .int .i64 (numM bs p e most).1)]) rfl (.inl rfl) rfl (.inr rfl) (fun d hd => ?_) rfl) ?_
  · simp only [Ab.get]
    have e : Nat.beq 7 d = false := by
      cases hx : Nat.beq 7 d with
      | false => rfl
      | true => exact absurd (Nat.eq_of_beq_eq_true hx).symm hd
    rw [e]; rfl
  · obtain ⟨k, hk⟩ := Int.eq_ofNat_of_zero_le hn.1
    rw [hk]
    refine loop102 hb k _ _ [] (numM_p hp) (by simp; omega) ?_
    have hL : listR (relR bs) k (numM bs p e most).2.1 (numM bs p e most).2.2 = listM (relR bs) bs p e most := by rw [listM, hk]; rfl
    rw [hL, List.nil_append]
    exact ⟨[0, 1, 2, 3, 4], _, slR (listM (relR bs) bs p e most).1, selHR _, leNone renR, rfl, rfl⟩

end

abbrev zM : AObj := .cells [.str ⟨#[]⟩, .sl 0 (.raw []) .nil]

theorem read_spec (bs : List UInt8) (hb : bs.length ≤ 1000000) (H : List AObj) : ASpec Tryz.prog 93 [sl1 bs] H (fun r H' => r = .tup [.agg (encM (readM bs).1), .int .i64 (readM bs).2] ∧ H' = H) := by
  have k : ASpec Tryz.prog 93 [sl1 bs] [] (fun r H' => r = .tup [.agg (encM (readM bs).1), .int .i64 (readM bs).2] ∧ H' = []) := by
    have hb' : bs.length ≤ big := by unfold big; omega
    have none_ : ∀ (c : Int) (H' : List AObj), readM bs = (([], []), c) → ∃ l H2 r2, Sel 0 l H' H2 ∧ Le (.tup [.agg [.str ⟨#[]⟩, .sl 0 (.raw []) .nil], .int .i64 c]) (AV.ren (selR l H'.length) r2) ∧
        r2 = .tup [.agg (encM (readM bs).1), .int .i64 (readM bs).2] ∧ H2 = [] := by
      intro c H' e
      rw [e]
      exact ⟨[], [], .tup [.agg (encM ([], [])), .int .i64 c], Sel.none,
        Le.tup ⟨Le.agg ⟨Le.refl _, Le.sl (s' := Seq.ren _ (.map T.encR (0, []) [])) rfl (.inr ⟨rfl, fun _ h => by cases h⟩) (.inr rfl), trivial⟩, Le.refl _, trivial⟩, rfl, rfl⟩
    refine ASpec.sel (s93 _ _ (condD (fun h => none_ 4 _ ?_) fun h => ?_))
    · rw [readM, if_pos (by omega)]
    have hR : readM bs = endM (maniR bs).1 (closeM (maniR bs).2.2 (bs.length - (maniR bs).2.1)) := by rw [readM, if_neg (by omega)]
    refine ASpec.call (V.open_spec bs hb' [zM]) (Les.refl _) ⟨bs, rfl, rfl, ?_⟩
    have c1 : ASpec Tryz.prog 124 [.ptr 2 0] [zM, rd bs 0 0, .cells [.ptr 1 0], .cells [.fn 124 [.ptr 2 0]], .cells [.fn 126 [.ptr 2 0]], .cells [.fn 128 [.ptr 3 0, .ptr 2 0, .ptr 4 0]]]
        (fun r H' => r = .str (B (strM bs 0 0 24).1) ∧ H' = [zM, rd bs (strM bs 0 0 24).2.1 (strM bs 0 0 24).2.2, .cells [.ptr 1 0], .cells [.fn 124 [.ptr 2 0]], .cells [.fn 126 [.ptr 2 0]], .cells [.fn 128 [.ptr 3 0, .ptr 2 0, .ptr 4 0]]]) := by
      refine ASpec.subH [1, 2, 3, 4, 5] _ _ (name98 (bs := bs) (p := 0) (e := 0) hb' (by omega)) _ _ (by decide) rfl rfl rfl (fun i hi => ?_) rfl
      match i, hi with
      | 0, _ | 1, _ | 2, _ | 3, _ | 4, _ => rfl
    refine ASpec.call c1 (Les.refl _) ⟨(B (strM bs 0 0 24).1, ((strM bs 0 0 24).2.1 : Nat), (strM bs 0 0 24).2.2), rfl, rfl, ?_⟩
    have hp1 : (strM bs 0 0 24).2.1 ≤ bs.length := strM_p (by omega)
    have c2 : ASpec Tryz.prog 130 [.ptr 1 0, .int .i64 8, .fn 131 [.ptr 2 0, .ptr 5 0]] [zM, rd bs (strM bs 0 0 24).2.1 (strM bs 0 0 24).2.2, .cells [.ptr 1 0], .cells [.fn 124 [.ptr 2 0]], .cells [.fn 126 [.ptr 2 0]], .cells [.fn 128 [.ptr 3 0, .ptr 2 0, .ptr 4 0]], .cells [.str (B (strM bs 0 0 24).1), .sl 0 (.raw []) .nil]]
        (fun r H' => r = slR (maniR bs).1.2 ∧ H' = [zM, rd bs (maniR bs).2.1 (maniR bs).2.2, .cells [.ptr 1 0], .cells [.fn 124 [.ptr 2 0]], .cells [.fn 126 [.ptr 2 0]], .cells [.fn 128 [.ptr 3 0, .ptr 2 0, .ptr 4 0]], .cells [.str (B (strM bs 0 0 24).1), .sl 0 (.raw []) .nil]]) := by
      refine ASpec.subH [1, 2, 3, 4, 5] _ _ (list102 (bs := bs) (p := (strM bs 0 0 24).2.1) (e := (strM bs 0 0 24).2.2) (most := 8) (by omega) hb' hp1) _ _ (by decide) rfl rfl rfl (fun i hi => ?_) rfl
      match i, hi with
      | 0, _ | 1, _ | 2, _ | 3, _ | 4, _ => rfl
    refine ASpec.call c2 (Les.refl _) ⟨((maniR bs).1.2, ((maniR bs).2.1 : Nat), (maniR bs).2.2), rfl, rfl, ?_⟩
    refine ASpec.call (close_spec (id := 1) (bs := bs) (p := (maniR bs).2.1) (e := (maniR bs).2.2) hb' (maniR_p bs) rfl) (Les.refl _) ⟨_, rfl, rfl, ?_⟩
    generalize hc : closeM (maniR bs).2.2 (bs.length - (maniR bs).2.1) = c at hR
    refine condE (fun h0 => ?_) fun h0 => condNe (fun _ => none_ _ _ (by rw [hR, endM, if_pos h0])) fun h1 => (h0 h1).elim
    refine ASpec.call (maniCheck_spec (maniR bs).1 (maniR_ok bs) _) (Les.refl _) ⟨_, rfl, rfl, condBn (fun hm => none_ _ _ ?_) fun hm => condNe (fun h1 => (h1 h0).elim) fun _ => ?_⟩
    · rw [hR, endM, if_neg (by simpa using h0), if_neg (by rw [hm]; simp)]
    · rw [hR, endM, if_neg (by simpa using h0), if_pos hm]
      exact ⟨[], [], .tup [.agg (encM (maniR bs).1), .int .i64 0], Sel.none, Le.refl _, rfl, rfl⟩
  exact ASpec.pureH H k _ _ rfl rfl

end W
end
