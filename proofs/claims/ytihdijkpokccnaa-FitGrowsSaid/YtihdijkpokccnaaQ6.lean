/- Q6: several of this proof's own texts, one behind the other: what each proves stands at its head. -/
import Derived.Test.YtihdijkpokccnaaProg
import Derived.Test.YtihdijkpokccnaaQ5
import Derived.Test.YtihdijkpokccnaaA3
import Derived.Sort.Walk0
import Derived.Lib.Bytealg
section
/- Printed: what the code of functions 72, 131, 130, 108, 73, 54, 101, 67, 68, 69, 70, 71, 103, 104, 106, 107, 105, 129, 102, 128, 51, 32, 52, 33, 31, 7 asks for, by the framework's own reading of it; each line is checked against the code. -/

set_option linter.unusedVariables false
set_option maxRecDepth 100000
set_option maxHeartbeats 4000000
open Go Go.Ab Go.Proofs
namespace Ft
noncomputable section

noncomputable def retFt : List (Nat × Ret) := [
  (101, ⟨Bool, fun _ _ x => .bool x, fun _ H _ => H⟩),
  (103, ⟨Bool, fun _ _ x => .bool x, fun _ H _ => H⟩),
  (104, ⟨Bool, fun _ _ x => .bool x, fun _ H _ => H⟩),
  (105, ⟨Bool, fun _ _ x => .bool x, fun _ H _ => H⟩),
  (106, ⟨Bool, fun _ _ x => .bool x, fun _ H _ => H⟩),
  (107, ⟨Bool, fun _ _ x => .bool x, fun _ H _ => H⟩),
  (128, ⟨Int, fun _ _ x => .int .i64 x, fun _ H _ => H⟩),
  (129, ⟨Int, fun _ _ x => .int .i64 x, fun _ H _ => H⟩),
  (67, ⟨ByteArray × Bool, fun _ _ x => .tup [.str x.1, .bool x.2], fun _ H _ => H⟩),
  (68, ⟨ByteArray × Bool, fun _ _ x => .tup [.str x.1, .bool x.2], fun _ H _ => H⟩),
  (69, ⟨ByteArray × Bool, fun _ _ x => .tup [.str x.1, .bool x.2], fun _ H _ => H⟩),
  (70, ⟨ByteArray × Bool, fun _ _ x => .tup [.str x.1, .bool x.2], fun _ H _ => H⟩),
  (71, ⟨ByteArray × Bool, fun _ _ x => .tup [.str x.1, .bool x.2], fun _ H _ => H⟩),
  (102, ⟨ByteArray × Bool, fun _ _ x => .tup [.str x.1, .bool x.2], fun _ H _ => H⟩),
  (54, ⟨T.Rel × Bool, fun _ _ x => .tup [.agg (T.encR x.1), .bool x.2], fun _ H _ => H⟩),
  (73, ⟨T.Rel × Bool, fun _ _ x => .tup [.agg (T.encR x.1), .bool x.2], fun _ H _ => H⟩),
  (53, ⟨Int × Bool, fun _ _ x => .tup [.int .i64 x.1, .bool x.2], fun _ H _ => H⟩),
  (72, ⟨Int, fun _ _ x => .int .i64 x, fun _ H _ => H⟩),
  (100, ⟨Bool, fun _ _ x => .bool x, fun _ H _ => H⟩),
  (126, ⟨Bool, fun _ _ x => .bool x, fun _ H _ => H⟩),
  (108, ⟨Int × Bool, fun _ _ x => .tup [.int .i64 x.1, .bool x.2], fun _ H _ => H⟩),
  (131, ⟨Int, fun _ _ x => .int .i64 x, fun _ H _ => H⟩),
  (127, ⟨Bool, fun _ _ x => .bool x, fun _ H _ => H⟩),
  (32, ⟨Bool, fun _ _ x => .bool x, fun _ H _ => H⟩),
  (33, ⟨List (List UInt8), fun _ _ x => .sl 1 (.map T.encL [] x) .none, fun _ H _ => H⟩),
  (34, ⟨List T.Pk, fun _ _ x => .sl 2 (.map T.encPk T.noPk x) .none, fun _ H _ => H⟩),
  (30, ⟨Bool, fun _ _ x => .bool x, fun _ H _ => H⟩),
  (130, ⟨Int × Bool, fun _ _ x => .tup [.int .i64 x.1, .bool x.2], fun _ H _ => H⟩),
  (51, ⟨Int × ByteArray, fun _ _ x => .tup [.int .i64 x.1, .str x.2], fun _ H _ => H⟩),
  (52, ⟨List (List UInt8), fun _ _ _ => .tup [], fun _ H x => H.set 5 (.mp (.typed T.EB (T.seenM x)))⟩),
  (76, ⟨T.Rel, fun _ _ x => .agg (T.encR x), fun _ H _ => H⟩),
  (31, ⟨Unit, fun _ _ _ => .bool true, fun _ H _ => H⟩)]
noncomputable def rets : FuncId → List Ret := fun f => match lookupR retFt f with
  | [] => (match Wn.rets f with | [] => Rc.rets f | l => l)
  | l => l

-- 72
noncomputable def l72 : Nat → List Nat
  | 2 => [0, 1, 5, 6]
  | _ => []
noncomputable def m72 : Nat → Bool
  | _ => false
noncomputable def l131 : Nat → List Nat
  | _ => []
noncomputable def u131 : Nat → Bool
  | _ => false
noncomputable def m131 : Nat → Bool
  | _ => false
noncomputable def g131 : Cfg := { N := 9, live := l131, cut := u131, mu := m131, ret := rets }
theorem s131 : ∀ (x : T.Rel) (v : Int) (Post : AV → List AObj → Prop),
  Post (AV.int IntKind.i64 (IntKind.wrap IntKind.i64 (Prod.fst x - v))) [AObj.cells [AV.int IntKind.i64 (Prod.fst x), AV.sl 2 (Seq.map T.encN ([], []) (Prod.snd x)) Tip.none]] →
    ASpec Try.prog 131 [AV.agg (T.encR x), AV.int IntKind.i64 v] [] Post := fun x v Post h => Go.Ab.ASpec.of_vc g131 Go.Proofs.Try.func131 (by kernel_rfl) (by kernel_rfl) (by kernel_rfl) (Go.Ab.kc (by kernel_rfl) h)

-- 130
noncomputable def l130 : Nat → List Nat
  | 3 => [0, 1, 2, 8, 9, 10]
  | _ => []
noncomputable def u130 : Nat → Bool
  | _ => false
noncomputable def m130 : Nat → Bool
  | _ => false
noncomputable def g130 : Cfg := { N := 49, live := l130, cut := u130, mu := m130, ret := rets }
noncomputable def c130 : Go.Code := Go.Ab.bodyOf Go.Proofs.Try.f130
noncomputable def q130_0 : Nat → (AV → List AObj → Prop) → AQ := fun (n : Nat) (Post : AV → List AObj → Prop) => endQ Try.prog (resultsOf Try.f130) Post
noncomputable def q130_1 : Nat → (AV → List AObj → Prop) → AQ := fun (n : Nat) (Post : AV → List AObj → Prop) => seqQ (fun (s' : Slots) (H' : List AObj) => awp Try.prog g130 n (codeSnd (codeSnd (codeSnd (codeSnd c130)))) s' H' (q130_0 n Post)) (q130_0 n Post)
noncomputable def q130_2 : Nat → (AV → List AObj → Prop) → AQ := fun (n : Nat) (Post : AV → List AObj → Prop) => blockQ 0 (q130_1 n Post)
noncomputable def c130_3 : Go.Code := codeFst (codeFst (codeSnd (codeSnd (codeSnd c130))))
theorem s130 : ∀ (rs : List T.Rel) (v : Int) (Post : AV → List AObj → Prop),
  AWP Try.prog 49 0 c130_3
      [(0, AV.sl 2 (Seq.map T.encR ((0 : Int), []) rs) Tip.none), (1, AV.int IntKind.i64 v), (2, AV.fn (131 : FuncId) []),
        (8, AV.int IntKind.i64 (↑(List.length rs) : Int)), (9, AV.int IntKind.i64 (0 : Int)), (10, AV.int IntKind.i64 (↑(List.length rs) : Int))]
      [] (q130_2 0 Post) →
    ASpec Try.prog 130 [AV.sl 2 (Seq.map T.encR ((0 : Int), []) rs) Tip.none, AV.int IntKind.i64 v, AV.fn (131 : FuncId) []] [] Post := fun rs v Post h => Go.Ab.ASpec.of_vc g130 Go.Proofs.Try.func130 (by kernel_rfl) (by kernel_rfl) (by kernel_rfl) (Go.Ab.kc (by kernel_rfl) h)
theorem v130_3 : ∀ (rs : List T.Rel) (v n i j : Int) (n_1 : Nat) (Post : AV → List AObj → Prop),
  condP (decide (i < j))
      (needP ((0 : Int) ≤ (1 : Int))
        (needP
         ((0 : Int) ≤ IntKind.wrap IntKind.i64 (Int.fdiv (IntKind.wrap IntKind.u64 (IntKind.wrap IntKind.i64 (i + j))) (2 : Int)) ∧
         IntKind.wrap IntKind.i64 (Int.fdiv (IntKind.wrap IntKind.u64 (IntKind.wrap IntKind.i64 (i + j))) (2 : Int)) < (↑(List.length rs) : Int))
         (ASpec Try.prog 131
         [AV.agg
         [AV.int IntKind.i64 (Prod.fst (List.getD rs (Int.toNat (IntKind.wrap IntKind.i64 (Int.fdiv (IntKind.wrap IntKind.u64 (IntKind.wrap IntKind.i64 (i + j))) (2 : Int)))) ((0 : Int), []))),
         AV.sl 2
         (Seq.map T.encN ([], [])
         (Prod.snd (List.getD rs (Int.toNat (IntKind.wrap IntKind.i64 (Int.fdiv (IntKind.wrap IntKind.u64 (IntKind.wrap IntKind.i64 (i + j))) (2 : Int)))) ((0 : Int), []))))
         Tip.none],
         AV.int IntKind.i64 v]
         [] fun (r : AV) (H' : List AObj) =>
         ∃ (x : Int),
         r = AV.int IntKind.i64 x ∧
         H' = [] ∧
         condP (decide (x < (0 : Int)))
         (AWP Try.prog 49 n_1 c130_3
         [(0, AV.sl 2 (Seq.map T.encR ((0 : Int), []) rs) Tip.none), (1, AV.int IntKind.i64 v), (2, AV.fn (131 : FuncId) []),
         (8, AV.int IntKind.i64 n),
         (9,
         AV.int IntKind.i64 (IntKind.wrap IntKind.i64 (IntKind.wrap IntKind.i64 (Int.fdiv (IntKind.wrap IntKind.u64 (IntKind.wrap IntKind.i64 (i + j))) (2 : Int)) + (1 : Int)))),
         (10, AV.int IntKind.i64 j)]
         [] (q130_2 n_1 Post))
         (AWP Try.prog 49 n_1 c130_3
         [(0, AV.sl 2 (Seq.map T.encR ((0 : Int), []) rs) Tip.none), (1, AV.int IntKind.i64 v), (2, AV.fn (131 : FuncId) []),
         (8, AV.int IntKind.i64 n), (9, AV.int IntKind.i64 i),
         (10, AV.int IntKind.i64 (IntKind.wrap IntKind.i64 (Int.fdiv (IntKind.wrap IntKind.u64 (IntKind.wrap IntKind.i64 (i + j))) (2 : Int))))]
         [] (q130_2 n_1 Post)))))
      (condP (decide (i < n))
        (needP ((0 : Int) ≤ i ∧ i < (↑(List.length rs) : Int))
         (ASpec Try.prog 131
         [AV.agg
         [AV.int IntKind.i64 (Prod.fst (List.getD rs (Int.toNat i) ((0 : Int), []))),
         AV.sl 2 (Seq.map T.encN ([], []) (Prod.snd (List.getD rs (Int.toNat i) ((0 : Int), [])))) Tip.none],
         AV.int IntKind.i64 v]
         [] fun (r : AV) (H' : List AObj) => ∃ (x : Int), r = AV.int IntKind.i64 x ∧ H' = [] ∧ Post (AV.tup [AV.int IntKind.i64 i, AV.bool (x == (0 : Int))]) []))
        (Post (AV.tup [AV.int IntKind.i64 i, AV.bool false]) [])) →
    AWP Try.prog 49 n_1 c130_3
      [(0, AV.sl 2 (Seq.map T.encR ((0 : Int), []) rs) Tip.none), (1, AV.int IntKind.i64 v), (2, AV.fn (131 : FuncId) []), (8, AV.int IntKind.i64 n),
        (9, AV.int IntKind.i64 i), (10, AV.int IntKind.i64 j)]
      [] (q130_2 n_1 Post) := fun rs v n i j n Post h => Go.Ab.AWP.loop' g130 (Cfg.live g130) c130_3 (by kernel_rfl) (by kernel_rfl) (Go.Ab.kc (by kernel_rfl) h)

-- 108
noncomputable def l108 : Nat → List Nat
  | _ => []
noncomputable def u108 : Nat → Bool
  | _ => false
noncomputable def m108 : Nat → Bool
  | _ => false
noncomputable def g108 : Cfg := { N := 12, live := l108, cut := u108, mu := m108, ret := rets }
theorem s108 : ∀ (m : T.Mani) (v : Int) (Post : AV → List AObj → Prop),
  (ASpec Try.prog 130 [AV.sl 2 (Seq.map T.encR ((0 : Int), []) (Prod.snd m)) Tip.none, AV.int IntKind.i64 v, AV.fn 131 []]
      [AObj.cells [AV.str { data := List.toArray (Prod.fst m) }, AV.sl 2 (Seq.map T.encR ((0 : Int), []) (Prod.snd m)) Tip.none]] fun (r : AV) (H' : List AObj) =>
      ∃ (x : Int × Bool),
        r = AV.tup [AV.int IntKind.i64 (Prod.fst x), AV.bool (Prod.snd x)] ∧
         H' = [AObj.cells [AV.str { data := List.toArray (Prod.fst m) }, AV.sl 2 (Seq.map T.encR ((0 : Int), []) (Prod.snd m)) Tip.none]] ∧
         Post (AV.tup [AV.int IntKind.i64 (Prod.fst x), AV.bool (Prod.snd x)])
         [AObj.cells [AV.str { data := List.toArray (Prod.fst m) }, AV.sl 2 (Seq.map T.encR ((0 : Int), []) (Prod.snd m)) Tip.none]]) →
    ASpec Try.prog 108 [AV.agg (T.encM m), AV.int IntKind.i64 v] [] Post := fun m v Post h => Go.Ab.ASpec.of_vc g108 Go.Proofs.Try.func108 (by kernel_rfl) (by kernel_rfl) (by kernel_rfl) (Go.Ab.kc (by kernel_rfl) h)

-- 73
noncomputable def l73 : Nat → List Nat
  | _ => []
noncomputable def u73 : Nat → Bool
  | _ => false
noncomputable def m73 : Nat → Bool
  | _ => false
noncomputable def g73 : Cfg := { N := 30, live := l73, cut := u73, mu := m73, ret := rets }
theorem s73 : ∀ (m : T.Mani) (v : Int) (Post : AV → List AObj → Prop),
  condP (decide (v < (0 : Int)))
      (Post (AV.tup [AV.agg [AV.int IntKind.i64 (0 : Int), AV.sl 0 (Seq.raw []) Tip.nil], AV.bool false])
        [AObj.cells [AV.str { data := List.toArray (Prod.fst m) }, AV.sl 2 (Seq.map T.encR ((0 : Int), []) (Prod.snd m)) Tip.none],
         AObj.cells [AV.int IntKind.i64 (0 : Int), AV.sl 0 (Seq.raw []) Tip.nil]])
      (condP (decide (v ≥ (1000000000 : Int)))
        (Post (AV.tup [AV.agg [AV.int IntKind.i64 (0 : Int), AV.sl 0 (Seq.raw []) Tip.nil], AV.bool false])
         [AObj.cells [AV.str { data := List.toArray (Prod.fst m) }, AV.sl 2 (Seq.map T.encR ((0 : Int), []) (Prod.snd m)) Tip.none],
         AObj.cells [AV.int IntKind.i64 (0 : Int), AV.sl 0 (Seq.raw []) Tip.nil]])
        (ASpec Try.prog 108 [AV.agg [AV.str { data := List.toArray (Prod.fst m) }, AV.sl 2 (Seq.map T.encR ((0 : Int), []) (Prod.snd m)) Tip.none], AV.int IntKind.i64 v]
         [AObj.cells [AV.str { data := List.toArray (Prod.fst m) }, AV.sl 2 (Seq.map T.encR ((0 : Int), []) (Prod.snd m)) Tip.none],
         AObj.cells [AV.int IntKind.i64 (0 : Int), AV.sl 0 (Seq.raw []) Tip.nil]]
         fun (r : AV) (H' : List AObj) =>
         ∃ (x : Int × Bool),
         r = AV.tup [AV.int IntKind.i64 (Prod.fst x), AV.bool (Prod.snd x)] ∧
         H' =
         [AObj.cells [AV.str { data := List.toArray (Prod.fst m) }, AV.sl 2 (Seq.map T.encR ((0 : Int), []) (Prod.snd m)) Tip.none],
         AObj.cells [AV.int IntKind.i64 (0 : Int), AV.sl 0 (Seq.raw []) Tip.nil]] ∧
         condP (!Prod.snd x)
         (Post (AV.tup [AV.agg [AV.int IntKind.i64 (0 : Int), AV.sl 0 (Seq.raw []) Tip.nil], AV.bool false])
         [AObj.cells [AV.str { data := List.toArray (Prod.fst m) }, AV.sl 2 (Seq.map T.encR ((0 : Int), []) (Prod.snd m)) Tip.none],
         AObj.cells [AV.int IntKind.i64 (0 : Int), AV.sl 0 (Seq.raw []) Tip.nil]])
         (needP ((0 : Int) ≤ Prod.fst x ∧ Prod.fst x < (↑(List.length (Prod.snd m)) : Int))
         (ASpec Try.prog 76
         [AV.agg
         [AV.int IntKind.i64 (Prod.fst (List.getD (Prod.snd m) (Int.toNat (Prod.fst x)) ((0 : Int), []))),
         AV.sl 2 (Seq.map T.encN ([], []) (Prod.snd (List.getD (Prod.snd m) (Int.toNat (Prod.fst x)) ((0 : Int), [])))) Tip.none]]
         [AObj.cells [AV.str { data := List.toArray (Prod.fst m) }, AV.sl 2 (Seq.map T.encR ((0 : Int), []) (Prod.snd m)) Tip.none],
         AObj.cells [AV.int IntKind.i64 (0 : Int), AV.sl 0 (Seq.raw []) Tip.nil]]
         fun (r : AV) (H' : List AObj) =>
         ∃ (x : Int × List T.Need),
         r = AV.agg [AV.int IntKind.i64 (Prod.fst x), AV.sl 2 (Seq.map T.encN ([], []) (Prod.snd x)) Tip.none] ∧
         H' =
         [AObj.cells [AV.str { data := List.toArray (Prod.fst m) }, AV.sl 2 (Seq.map T.encR ((0 : Int), []) (Prod.snd m)) Tip.none],
         AObj.cells [AV.int IntKind.i64 (0 : Int), AV.sl 0 (Seq.raw []) Tip.nil]] ∧
         Post (AV.tup [AV.agg [AV.int IntKind.i64 (Prod.fst x), AV.sl 2 (Seq.map T.encN ([], []) (Prod.snd x)) Tip.none], AV.bool true])
         [AObj.cells [AV.str { data := List.toArray (Prod.fst m) }, AV.sl 2 (Seq.map T.encR ((0 : Int), []) (Prod.snd m)) Tip.none],
         AObj.cells [AV.int IntKind.i64 (Prod.fst x), AV.sl 2 (Seq.map T.encN ([], []) (Prod.snd x)) Tip.none]])))) →
    ASpec Try.prog 73 [AV.agg (T.encM m), AV.int IntKind.i64 v] [] Post := fun m v Post h => Go.Ab.ASpec.of_vc g73 Go.Proofs.Try.func73 (by kernel_rfl) (by kernel_rfl) (by kernel_rfl) (Go.Ab.kc (by kernel_rfl) h)

-- 54
noncomputable def l54 : Nat → List Nat
  | _ => []
noncomputable def u54 : Nat → Bool
  | _ => false
noncomputable def m54 : Nat → Bool
  | _ => false
noncomputable def g54 : Cfg := { N := 24, live := l54, cut := u54, mu := m54, ret := rets }
theorem s54 : ∀ (es : T.Kn) (root : List T.Need) (l : List T.Pk) (p : T.Pk) (Post : AV → List AObj → Prop),
  (ASpec Try.prog 41 [AV.ptr 1 0, AV.str { data := List.toArray (Prod.fst p) }]
      [AObj.mp (MM.typed T.EK es), AObj.cells [AV.map 0],
        AObj.cells [AV.ptr 1 0, AV.sl 2 (Seq.map T.encN ([], []) root) Tip.none, AV.sl 2 (Seq.map T.encPk T.noPk l) Tip.none],
        AObj.cells [AV.str { data := List.toArray (Prod.fst p) }, AV.int IntKind.i64 (Prod.snd p)], AObj.cells [AV.int IntKind.i64 (0 : Int), AV.sl 0 (Seq.raw []) Tip.nil]]
      fun (r : AV) (H' : List AObj) =>
      ∃ (x : T.Mani × Bool),
        r = AV.tup [AV.agg [AV.str { data := List.toArray (Prod.fst (Prod.fst x)) }, AV.sl 2 (Seq.map T.encR ((0 : Int), []) (Prod.snd (Prod.fst x))) Tip.none], AV.bool (Prod.snd x)] ∧
         H' =
         [AObj.mp (MM.typed T.EK es), AObj.cells [AV.map 0],
         AObj.cells [AV.ptr 1 0, AV.sl 2 (Seq.map T.encN ([], []) root) Tip.none, AV.sl 2 (Seq.map T.encPk T.noPk l) Tip.none],
         AObj.cells [AV.str { data := List.toArray (Prod.fst p) }, AV.int IntKind.i64 (Prod.snd p)], AObj.cells [AV.int IntKind.i64 (0 : Int), AV.sl 0 (Seq.raw []) Tip.nil]] ∧
         (AV.str { data := List.toArray (Prod.fst p) } = AV.str { data := List.toArray (Prod.fst p) } ∧
         [AObj.mp (MM.typed T.EK es), AObj.cells [AV.map 0],
         AObj.cells [AV.ptr 1 0, AV.sl 2 (Seq.map T.encN ([], []) root) Tip.none, AV.sl 2 (Seq.map T.encPk T.noPk l) Tip.none],
         AObj.cells [AV.str { data := List.toArray (Prod.fst p) }, AV.int IntKind.i64 (Prod.snd p)], AObj.cells [AV.int IntKind.i64 (0 : Int), AV.sl 0 (Seq.raw []) Tip.nil],
         AObj.cells [AV.str { data := #[] }, AV.sl 0 (Seq.raw []) Tip.nil]] =
         [AObj.mp (MM.typed T.EK es), AObj.cells [AV.map 0],
         AObj.cells [AV.ptr 1 0, AV.sl 2 (Seq.map T.encN ([], []) root) Tip.none, AV.sl 2 (Seq.map T.encPk T.noPk l) Tip.none],
         AObj.cells [AV.str { data := List.toArray (Prod.fst p) }, AV.int IntKind.i64 (Prod.snd p)], AObj.cells [AV.int IntKind.i64 (0 : Int), AV.sl 0 (Seq.raw []) Tip.nil],
         AObj.cells [AV.str { data := #[] }, AV.sl 0 (Seq.raw []) Tip.nil]]) ∧
         (AV.ptr 1 0 = AV.ptr 1 0 ∧
         [AObj.mp (MM.typed T.EK es), AObj.cells [AV.map 0],
         AObj.cells [AV.ptr 1 0, AV.sl 2 (Seq.map T.encN ([], []) root) Tip.none, AV.sl 2 (Seq.map T.encPk T.noPk l) Tip.none],
         AObj.cells [AV.str { data := List.toArray (Prod.fst p) }, AV.int IntKind.i64 (Prod.snd p)], AObj.cells [AV.int IntKind.i64 (0 : Int), AV.sl 0 (Seq.raw []) Tip.nil],
         AObj.cells [AV.str { data := #[] }, AV.sl 0 (Seq.raw []) Tip.nil]] =
         [AObj.mp (MM.typed T.EK es), AObj.cells [AV.map 0],
         AObj.cells [AV.ptr 1 0, AV.sl 2 (Seq.map T.encN ([], []) root) Tip.none, AV.sl 2 (Seq.map T.encPk T.noPk l) Tip.none],
         AObj.cells [AV.str { data := List.toArray (Prod.fst p) }, AV.int IntKind.i64 (Prod.snd p)], AObj.cells [AV.int IntKind.i64 (0 : Int), AV.sl 0 (Seq.raw []) Tip.nil],
         AObj.cells [AV.str { data := #[] }, AV.sl 0 (Seq.raw []) Tip.nil]]) ∧
         ASpec Try.prog 73
         [AV.agg [AV.str { data := List.toArray (Prod.fst (Prod.fst x)) }, AV.sl 2 (Seq.map T.encR ((0 : Int), []) (Prod.snd (Prod.fst x))) Tip.none], AV.int IntKind.i64 (Prod.snd p)]
         [AObj.mp (MM.typed T.EK es), AObj.cells [AV.map 0],
         AObj.cells [AV.ptr 1 0, AV.sl 2 (Seq.map T.encN ([], []) root) Tip.none, AV.sl 2 (Seq.map T.encPk T.noPk l) Tip.none],
         AObj.cells [AV.str { data := List.toArray (Prod.fst p) }, AV.int IntKind.i64 (Prod.snd p)], AObj.cells [AV.int IntKind.i64 (0 : Int), AV.sl 0 (Seq.raw []) Tip.nil],
         AObj.cells [AV.str { data := List.toArray (Prod.fst (Prod.fst x)) }, AV.sl 2 (Seq.map T.encR ((0 : Int), []) (Prod.snd (Prod.fst x))) Tip.none]]
         fun (r : AV) (H' : List AObj) =>
         ∃ (x_1 : T.Rel × Bool),
         r = AV.tup [AV.agg [AV.int IntKind.i64 (Prod.fst (Prod.fst x_1)), AV.sl 2 (Seq.map T.encN ([], []) (Prod.snd (Prod.fst x_1))) Tip.none], AV.bool (Prod.snd x_1)] ∧
         H' =
         [AObj.mp (MM.typed T.EK es), AObj.cells [AV.map 0],
         AObj.cells [AV.ptr 1 0, AV.sl 2 (Seq.map T.encN ([], []) root) Tip.none, AV.sl 2 (Seq.map T.encPk T.noPk l) Tip.none],
         AObj.cells [AV.str { data := List.toArray (Prod.fst p) }, AV.int IntKind.i64 (Prod.snd p)], AObj.cells [AV.int IntKind.i64 (0 : Int), AV.sl 0 (Seq.raw []) Tip.nil],
         AObj.cells [AV.str { data := List.toArray (Prod.fst (Prod.fst x)) }, AV.sl 2 (Seq.map T.encR ((0 : Int), []) (Prod.snd (Prod.fst x))) Tip.none]] ∧
         Post (AV.tup [AV.agg [AV.int IntKind.i64 (Prod.fst (Prod.fst x_1)), AV.sl 2 (Seq.map T.encN ([], []) (Prod.snd (Prod.fst x_1))) Tip.none], AV.bool (Prod.snd x_1)])
         [AObj.mp (MM.typed T.EK es), AObj.cells [AV.map 0],
         AObj.cells [AV.ptr 1 0, AV.sl 2 (Seq.map T.encN ([], []) root) Tip.none, AV.sl 2 (Seq.map T.encPk T.noPk l) Tip.none],
         AObj.cells [AV.str { data := List.toArray (Prod.fst p) }, AV.int IntKind.i64 (Prod.snd p)],
         AObj.cells [AV.int IntKind.i64 (Prod.fst (Prod.fst x_1)), AV.sl 2 (Seq.map T.encN ([], []) (Prod.snd (Prod.fst x_1))) Tip.none],
         AObj.cells [AV.str { data := List.toArray (Prod.fst (Prod.fst x)) }, AV.sl 2 (Seq.map T.encR ((0 : Int), []) (Prod.snd (Prod.fst x))) Tip.none]]) →
    ASpec Try.prog 54 [AV.ptr 2 0, AV.agg (T.encPk p)] (T.HF es root l) Post := fun es root l p Post h => Go.Ab.ASpec.of_vc g54 Go.Proofs.Try.func54 (by kernel_rfl) (by kernel_rfl) (by kernel_rfl) (Go.Ab.kc (by kernel_rfl) h)

-- 101
noncomputable def l101 : Nat → List Nat
  | _ => []
noncomputable def u101 : Nat → Bool
  | _ => false
noncomputable def m101 : Nat → Bool
  | _ => false
noncomputable def g101 : Cfg := { N := 24, live := l101, cut := u101, mu := m101, ret := rets }
theorem s101 : ∀ (es : T.Kn) (root : List T.Need) (l : List T.Pk) (n : T.Need) (Post : AV → List AObj → Prop),
  (ASpec Try.prog 53 [AV.sl 2 (Seq.map T.encPk T.noPk l) Tip.none, AV.str { data := List.toArray (Prod.fst n) }]
      [AObj.mp (MM.typed T.EK es), AObj.cells [AV.map 0],
        AObj.cells [AV.ptr 1 0, AV.sl 2 (Seq.map T.encN ([], []) root) Tip.none, AV.sl 2 (Seq.map T.encPk T.noPk l) Tip.none],
        AObj.cells [AV.str { data := List.toArray (Prod.fst n) }, AV.sl 2 (Seq.map T.encS ((0 : Int), (0 : Int)) (Prod.snd n)) Tip.none]]
      fun (r : AV) (H' : List AObj) =>
      ∃ (x : Int × Bool),
        r = AV.tup [AV.int IntKind.i64 (Prod.fst x), AV.bool (Prod.snd x)] ∧
         H' =
         [AObj.mp (MM.typed T.EK es), AObj.cells [AV.map 0],
         AObj.cells [AV.ptr 1 0, AV.sl 2 (Seq.map T.encN ([], []) root) Tip.none, AV.sl 2 (Seq.map T.encPk T.noPk l) Tip.none],
         AObj.cells [AV.str { data := List.toArray (Prod.fst n) }, AV.sl 2 (Seq.map T.encS ((0 : Int), (0 : Int)) (Prod.snd n)) Tip.none]] ∧
         condP (Prod.snd x)
         (ASpec Try.prog 127 [AV.sl 2 (Seq.map T.encS ((0 : Int), (0 : Int)) (Prod.snd n)) Tip.none, AV.int IntKind.i64 (Prod.fst x)]
         [AObj.mp (MM.typed T.EK es), AObj.cells [AV.map 0],
         AObj.cells [AV.ptr 1 0, AV.sl 2 (Seq.map T.encN ([], []) root) Tip.none, AV.sl 2 (Seq.map T.encPk T.noPk l) Tip.none],
         AObj.cells [AV.str { data := List.toArray (Prod.fst n) }, AV.sl 2 (Seq.map T.encS ((0 : Int), (0 : Int)) (Prod.snd n)) Tip.none]]
         fun (r : AV) (H' : List AObj) =>
         ∃ (x : Bool),
         r = AV.bool x ∧
         H' =
         [AObj.mp (MM.typed T.EK es), AObj.cells [AV.map 0],
         AObj.cells [AV.ptr 1 0, AV.sl 2 (Seq.map T.encN ([], []) root) Tip.none, AV.sl 2 (Seq.map T.encPk T.noPk l) Tip.none],
         AObj.cells [AV.str { data := List.toArray (Prod.fst n) }, AV.sl 2 (Seq.map T.encS ((0 : Int), (0 : Int)) (Prod.snd n)) Tip.none]] ∧
         Post (AV.bool x)
         [AObj.mp (MM.typed T.EK es), AObj.cells [AV.map 0],
         AObj.cells [AV.ptr 1 0, AV.sl 2 (Seq.map T.encN ([], []) root) Tip.none, AV.sl 2 (Seq.map T.encPk T.noPk l) Tip.none],
         AObj.cells [AV.str { data := List.toArray (Prod.fst n) }, AV.sl 2 (Seq.map T.encS ((0 : Int), (0 : Int)) (Prod.snd n)) Tip.none]])
         (Post (AV.bool false)
         [AObj.mp (MM.typed T.EK es), AObj.cells [AV.map 0],
         AObj.cells [AV.ptr 1 0, AV.sl 2 (Seq.map T.encN ([], []) root) Tip.none, AV.sl 2 (Seq.map T.encPk T.noPk l) Tip.none],
         AObj.cells [AV.str { data := List.toArray (Prod.fst n) }, AV.sl 2 (Seq.map T.encS ((0 : Int), (0 : Int)) (Prod.snd n)) Tip.none]])) →
    ASpec Try.prog 101 [AV.ptr 2 0, AV.agg (T.encN n)] (T.HF es root l) Post := fun es root l n Post h => Go.Ab.ASpec.of_vc g101 Go.Proofs.Try.func101 (by kernel_rfl) (by kernel_rfl) (by kernel_rfl) (Go.Ab.kc (by kernel_rfl) h)

-- 67
noncomputable def l67 : Nat → List Nat
  | _ => []
noncomputable def u67 : Nat → Bool
  | _ => false
noncomputable def m67 : Nat → Bool
  | _ => false
noncomputable def g67 : Cfg := { N := 10, live := l67, cut := u67, mu := m67, ret := rets }
theorem s67 : ∀ (es : T.Kn) (root : List T.Need) (l : List T.Pk) (Post : AV → List AObj → Prop),
  (ASpec Try.prog 100 [AV.sl 2 (Seq.map T.encPk T.noPk l) Tip.none]
      [AObj.mp (MM.typed T.EK es), AObj.cells [AV.map 0],
        AObj.cells [AV.ptr 1 0, AV.sl 2 (Seq.map T.encN ([], []) root) Tip.none, AV.sl 2 (Seq.map T.encPk T.noPk l) Tip.none]]
      fun (r : AV) (H' : List AObj) =>
      ∃ (x : Bool),
        r = AV.bool x ∧
         H' =
         [AObj.mp (MM.typed T.EK es), AObj.cells [AV.map 0],
         AObj.cells [AV.ptr 1 0, AV.sl 2 (Seq.map T.encN ([], []) root) Tip.none, AV.sl 2 (Seq.map T.encPk T.noPk l) Tip.none]] ∧
         Post (AV.tup [AV.str { data := #[] }, AV.bool !x])
         [AObj.mp (MM.typed T.EK es), AObj.cells [AV.map 0],
         AObj.cells [AV.ptr 1 0, AV.sl 2 (Seq.map T.encN ([], []) root) Tip.none, AV.sl 2 (Seq.map T.encPk T.noPk l) Tip.none]]) →
    ASpec Try.prog 67 [AV.ptr 2 0] (T.HF es root l) Post := fun es root l Post h => Go.Ab.ASpec.of_vc g67 Go.Proofs.Try.func67 (by kernel_rfl) (by kernel_rfl) (by kernel_rfl) (Go.Ab.kc (by kernel_rfl) h)

-- 68
noncomputable def l68 : Nat → List Nat
  | 2 => [0, 9, 10, 11]
  | _ => []
noncomputable def u68 : Nat → Bool
  | _ => false
noncomputable def m68 : Nat → Bool
  | _ => false
noncomputable def g68 : Cfg := { N := 22, live := l68, cut := u68, mu := m68, ret := rets }
noncomputable def c68 : Go.Code := Go.Ab.bodyOf Go.Proofs.Try.f68
noncomputable def q68_0 : Nat → (AV → List AObj → Prop) → AQ := fun (n : Nat) (Post : AV → List AObj → Prop) => endQ Try.prog (resultsOf Try.f68) Post
noncomputable def q68_1 : Nat → (AV → List AObj → Prop) → AQ := fun (n : Nat) (Post : AV → List AObj → Prop) => seqQ (fun (s' : Slots) (H' : List AObj) => awp Try.prog g68 n (codeSnd (codeSnd c68)) s' H' (q68_0 n Post)) (q68_0 n Post)
noncomputable def q68_2 : Nat → (AV → List AObj → Prop) → AQ := fun (n : Nat) (Post : AV → List AObj → Prop) => blockQ 0 (q68_1 n Post)
noncomputable def c68_2 : Go.Code := codeFst (codeSnd (codeFst (codeSnd c68)))
theorem s68 : ∀ (es : T.Kn) (root : List T.Need) (l : List T.Pk) (Post : AV → List AObj → Prop),
  AWP Try.prog 22 3 c68_2
      [(0, AV.ptr 2 0), (9, AV.sl 2 (Seq.map T.encN ([], []) root) Tip.none), (10, AV.int IntKind.i64 (↑(List.length root) : Int)),
        (11, AV.int IntKind.i64 (0 : Int))]
      [AObj.mp (MM.typed T.EK es), AObj.cells [AV.map 0],
        AObj.cells [AV.ptr 1 0, AV.sl 2 (Seq.map T.encN ([], []) root) Tip.none, AV.sl 2 (Seq.map T.encPk T.noPk l) Tip.none]]
      (q68_2 3 Post) →
    ASpec Try.prog 68 [AV.ptr 2 0] (T.HF es root l) Post := fun es root l Post h => Go.Ab.ASpec.of_vc g68 Go.Proofs.Try.func68 (by kernel_rfl) (by kernel_rfl) (by kernel_rfl) (Go.Ab.kc (by kernel_rfl) h)
theorem v68_2 : ∀ (es : T.Kn) (root : List T.Need) (l : List T.Pk) (n i : Int) (n_1 : Nat) (Post : AV → List AObj → Prop),
  condP (decide (i < n))
      (needP ((0 : Int) ≤ i ∧ i < (↑(List.length root) : Int))
        (ASpec Try.prog 101
         [AV.ptr 2 0,
         AV.agg
         [AV.str { data := List.toArray (Prod.fst (List.getD root (Int.toNat i) ([], []))) },
         AV.sl 2 (Seq.map T.encS ((0 : Int), (0 : Int)) (Prod.snd (List.getD root (Int.toNat i) ([], [])))) Tip.none]]
         [AObj.mp (MM.typed T.EK es), AObj.cells [AV.map 0],
         AObj.cells [AV.ptr 1 0, AV.sl 2 (Seq.map T.encN ([], []) root) Tip.none, AV.sl 2 (Seq.map T.encPk T.noPk l) Tip.none],
         AObj.cells
         [AV.str { data := List.toArray (Prod.fst (List.getD root (Int.toNat i) ([], []))) },
         AV.sl 2 (Seq.map T.encS ((0 : Int), (0 : Int)) (Prod.snd (List.getD root (Int.toNat i) ([], [])))) Tip.none]]
         fun (r : AV) (H' : List AObj) =>
         ∃ (x : Bool),
         r = AV.bool x ∧
         H' =
         [AObj.mp (MM.typed T.EK es), AObj.cells [AV.map 0],
         AObj.cells [AV.ptr 1 0, AV.sl 2 (Seq.map T.encN ([], []) root) Tip.none, AV.sl 2 (Seq.map T.encPk T.noPk l) Tip.none],
         AObj.cells
         [AV.str { data := List.toArray (Prod.fst (List.getD root (Int.toNat i) ([], []))) },
         AV.sl 2 (Seq.map T.encS ((0 : Int), (0 : Int)) (Prod.snd (List.getD root (Int.toNat i) ([], [])))) Tip.none]] ∧
         condP (!x)
         (Post (AV.tup [AV.str { data := List.toArray (Prod.fst (List.getD root (Int.toNat i) ([], []))) }, AV.bool true])
         [AObj.mp (MM.typed T.EK es), AObj.cells [AV.map 0],
         AObj.cells [AV.ptr 1 0, AV.sl 2 (Seq.map T.encN ([], []) root) Tip.none, AV.sl 2 (Seq.map T.encPk T.noPk l) Tip.none],
         AObj.cells
         [AV.str { data := List.toArray (Prod.fst (List.getD root (Int.toNat i) ([], []))) },
         AV.sl 2 (Seq.map T.encS ((0 : Int), (0 : Int)) (Prod.snd (List.getD root (Int.toNat i) ([], [])))) Tip.none]])
         (AWP Try.prog 22 n_1 c68_2
         [(0, AV.ptr 2 0), (9, AV.sl 2 (Seq.map T.encN ([], []) root) Tip.none), (10, AV.int IntKind.i64 n),
         (11, AV.int IntKind.i64 (IntKind.wrap IntKind.i64 (i + (1 : Int))))]
         [AObj.mp (MM.typed T.EK es), AObj.cells [AV.map 0],
         AObj.cells [AV.ptr 1 0, AV.sl 2 (Seq.map T.encN ([], []) root) Tip.none, AV.sl 2 (Seq.map T.encPk T.noPk l) Tip.none],
         AObj.cells
         [AV.str { data := List.toArray (Prod.fst (List.getD root (Int.toNat i) ([], []))) },
         AV.sl 2 (Seq.map T.encS ((0 : Int), (0 : Int)) (Prod.snd (List.getD root (Int.toNat i) ([], [])))) Tip.none]]
         (q68_2 n_1 Post))))
      (Post (AV.tup [AV.str { data := #[] }, AV.bool false])
        [AObj.mp (MM.typed T.EK es), AObj.cells [AV.map 0],
         AObj.cells [AV.ptr 1 0, AV.sl 2 (Seq.map T.encN ([], []) root) Tip.none, AV.sl 2 (Seq.map T.encPk T.noPk l) Tip.none]]) →
    AWP Try.prog 22 n_1 c68_2
      [(0, AV.ptr 2 0), (9, AV.sl 2 (Seq.map T.encN ([], []) root) Tip.none), (10, AV.int IntKind.i64 n), (11, AV.int IntKind.i64 i)]
      (T.HF es root l) (q68_2 n_1 Post) := fun es root l n i n Post h => Go.Ab.AWP.loop' g68 (Cfg.live g68) c68_2 (by kernel_rfl) (by kernel_rfl) (Go.Ab.kc (by kernel_rfl) h)

-- 69
noncomputable def l69 : Nat → List Nat
  | _ => []
noncomputable def u69 : Nat → Bool
  | _ => false
noncomputable def m69 : Nat → Bool
  | _ => false
noncomputable def g69 : Cfg := { N := 9, live := l69, cut := u69, mu := m69, ret := rets }
theorem s69 : ∀ (es : T.Kn) (root : List T.Need) (l : List T.Pk) (Post : AV → List AObj → Prop),
  (ASpec Try.prog 102 [AV.ptr 2 0, AV.fn 103 [AV.ptr 3 0]]
      [AObj.mp (MM.typed T.EK es), AObj.cells [AV.map 0],
        AObj.cells [AV.ptr 1 0, AV.sl 2 (Seq.map T.encN ([], []) root) Tip.none, AV.sl 2 (Seq.map T.encPk T.noPk l) Tip.none], AObj.cells [AV.ptr 2 0]]
      fun (r : AV) (H' : List AObj) =>
      ∃ (x : ByteArray × Bool),
        r = AV.tup [AV.str (Prod.fst x), AV.bool (Prod.snd x)] ∧
         H' =
         [AObj.mp (MM.typed T.EK es), AObj.cells [AV.map 0],
         AObj.cells [AV.ptr 1 0, AV.sl 2 (Seq.map T.encN ([], []) root) Tip.none, AV.sl 2 (Seq.map T.encPk T.noPk l) Tip.none],
         AObj.cells [AV.ptr 2 0]] ∧
         Post (AV.tup [AV.str (Prod.fst x), AV.bool (Prod.snd x)])
         [AObj.mp (MM.typed T.EK es), AObj.cells [AV.map 0],
         AObj.cells [AV.ptr 1 0, AV.sl 2 (Seq.map T.encN ([], []) root) Tip.none, AV.sl 2 (Seq.map T.encPk T.noPk l) Tip.none],
         AObj.cells [AV.ptr 2 0]]) →
    ASpec Try.prog 69 [AV.ptr 2 0] (T.HF es root l) Post := fun es root l Post h => Go.Ab.ASpec.of_vc g69 Go.Proofs.Try.func69 (by kernel_rfl) (by kernel_rfl) (by kernel_rfl) (Go.Ab.kc (by kernel_rfl) h)

-- 70
noncomputable def l70 : Nat → List Nat
  | _ => []
noncomputable def u70 : Nat → Bool
  | _ => false
noncomputable def m70 : Nat → Bool
  | _ => false
noncomputable def g70 : Cfg := { N := 9, live := l70, cut := u70, mu := m70, ret := rets }
theorem s70 : ∀ (es : T.Kn) (root : List T.Need) (l : List T.Pk) (Post : AV → List AObj → Prop),
  (ASpec Try.prog 102 [AV.ptr 2 0, AV.fn 104 [AV.ptr 3 0]]
      [AObj.mp (MM.typed T.EK es), AObj.cells [AV.map 0],
        AObj.cells [AV.ptr 1 0, AV.sl 2 (Seq.map T.encN ([], []) root) Tip.none, AV.sl 2 (Seq.map T.encPk T.noPk l) Tip.none], AObj.cells [AV.ptr 2 0]]
      fun (r : AV) (H' : List AObj) =>
      ∃ (x : ByteArray × Bool),
        r = AV.tup [AV.str (Prod.fst x), AV.bool (Prod.snd x)] ∧
         H' =
         [AObj.mp (MM.typed T.EK es), AObj.cells [AV.map 0],
         AObj.cells [AV.ptr 1 0, AV.sl 2 (Seq.map T.encN ([], []) root) Tip.none, AV.sl 2 (Seq.map T.encPk T.noPk l) Tip.none],
         AObj.cells [AV.ptr 2 0]] ∧
         Post (AV.tup [AV.str (Prod.fst x), AV.bool (Prod.snd x)])
         [AObj.mp (MM.typed T.EK es), AObj.cells [AV.map 0],
         AObj.cells [AV.ptr 1 0, AV.sl 2 (Seq.map T.encN ([], []) root) Tip.none, AV.sl 2 (Seq.map T.encPk T.noPk l) Tip.none],
         AObj.cells [AV.ptr 2 0]]) →
    ASpec Try.prog 70 [AV.ptr 2 0] (T.HF es root l) Post := fun es root l Post h => Go.Ab.ASpec.of_vc g70 Go.Proofs.Try.func70 (by kernel_rfl) (by kernel_rfl) (by kernel_rfl) (Go.Ab.kc (by kernel_rfl) h)

-- 71
noncomputable def l71 : Nat → List Nat
  | _ => []
noncomputable def u71 : Nat → Bool
  | _ => false
noncomputable def m71 : Nat → Bool
  | _ => false
noncomputable def g71 : Cfg := { N := 23, live := l71, cut := u71, mu := m71, ret := rets }
theorem s71 : ∀ (es : T.Kn) (root : List T.Need) (l : List T.Pk) (Post : AV → List AObj → Prop),
  (ASpec Try.prog 33 [AV.ptr 1 0, AV.sl 2 (Seq.map T.encN ([], []) root) Tip.none, AV.sl 2 (Seq.map T.encPk T.noPk l) Tip.none]
      [AObj.mp (MM.typed T.EK es), AObj.cells [AV.map 0],
        AObj.cells [AV.ptr 1 0, AV.sl 2 (Seq.map T.encN ([], []) root) Tip.none, AV.sl 2 (Seq.map T.encPk T.noPk l) Tip.none]]
      fun (r : AV) (H' : List AObj) =>
      ∃ (x : List (List UInt8)),
        r = AV.sl 1 (Seq.map T.encL [] x) Tip.none ∧
         H' =
         [AObj.mp (MM.typed T.EK es), AObj.cells [AV.map 0],
         AObj.cells [AV.ptr 1 0, AV.sl 2 (Seq.map T.encN ([], []) root) Tip.none, AV.sl 2 (Seq.map T.encPk T.noPk l) Tip.none]] ∧
         (AV.sl 2 (Seq.map T.encPk T.noPk l) Tip.none = AV.sl 2 (Seq.map T.encPk T.noPk l) Tip.none ∧
         [AObj.mp (MM.typed T.EK es), AObj.cells [AV.map 0],
         AObj.cells [AV.ptr 1 0, AV.sl 2 (Seq.map T.encN ([], []) root) Tip.none, AV.sl 2 (Seq.map T.encPk T.noPk l) Tip.none],
         AObj.cells [AV.sl 0 (Seq.raw []) Tip.nil]] =
         [AObj.mp (MM.typed T.EK es), AObj.cells [AV.map 0],
         AObj.cells [AV.ptr 1 0, AV.sl 2 (Seq.map T.encN ([], []) root) Tip.none, AV.sl 2 (Seq.map T.encPk T.noPk l) Tip.none],
         AObj.cells [AV.sl 0 (Seq.raw []) Tip.nil]]) ∧
         (AV.sl 2 (Seq.map T.encN ([], []) root) Tip.none = AV.sl 2 (Seq.map T.encN ([], []) root) Tip.none ∧
         [AObj.mp (MM.typed T.EK es), AObj.cells [AV.map 0],
         AObj.cells [AV.ptr 1 0, AV.sl 2 (Seq.map T.encN ([], []) root) Tip.none, AV.sl 2 (Seq.map T.encPk T.noPk l) Tip.none],
         AObj.cells [AV.sl 0 (Seq.raw []) Tip.nil]] =
         [AObj.mp (MM.typed T.EK es), AObj.cells [AV.map 0],
         AObj.cells [AV.ptr 1 0, AV.sl 2 (Seq.map T.encN ([], []) root) Tip.none, AV.sl 2 (Seq.map T.encPk T.noPk l) Tip.none],
         AObj.cells [AV.sl 0 (Seq.raw []) Tip.nil]]) ∧
         (AV.ptr 1 0 = AV.ptr 1 0 ∧
         [AObj.mp (MM.typed T.EK es), AObj.cells [AV.map 0],
         AObj.cells [AV.ptr 1 0, AV.sl 2 (Seq.map T.encN ([], []) root) Tip.none, AV.sl 2 (Seq.map T.encPk T.noPk l) Tip.none],
         AObj.cells [AV.sl 0 (Seq.raw []) Tip.nil]] =
         [AObj.mp (MM.typed T.EK es), AObj.cells [AV.map 0],
         AObj.cells [AV.ptr 1 0, AV.sl 2 (Seq.map T.encN ([], []) root) Tip.none, AV.sl 2 (Seq.map T.encPk T.noPk l) Tip.none],
         AObj.cells [AV.sl 0 (Seq.raw []) Tip.nil]]) ∧
         ASpec Try.prog 102 [AV.ptr 2 0, AV.fn 107 [AV.ptr 3 0]]
         [AObj.mp (MM.typed T.EK es), AObj.cells [AV.map 0],
         AObj.cells [AV.ptr 1 0, AV.sl 2 (Seq.map T.encN ([], []) root) Tip.none, AV.sl 2 (Seq.map T.encPk T.noPk l) Tip.none],
         AObj.cells [AV.sl 1 (Seq.map T.encL [] x) Tip.none]]
         fun (r : AV) (H' : List AObj) =>
         ∃ (x_1 : ByteArray × Bool),
         r = AV.tup [AV.str (Prod.fst x_1), AV.bool (Prod.snd x_1)] ∧
         H' =
         [AObj.mp (MM.typed T.EK es), AObj.cells [AV.map 0],
         AObj.cells [AV.ptr 1 0, AV.sl 2 (Seq.map T.encN ([], []) root) Tip.none, AV.sl 2 (Seq.map T.encPk T.noPk l) Tip.none],
         AObj.cells [AV.sl 1 (Seq.map T.encL [] x) Tip.none]] ∧
         Post (AV.tup [AV.str (Prod.fst x_1), AV.bool (Prod.snd x_1)])
         [AObj.mp (MM.typed T.EK es), AObj.cells [AV.map 0],
         AObj.cells [AV.ptr 1 0, AV.sl 2 (Seq.map T.encN ([], []) root) Tip.none, AV.sl 2 (Seq.map T.encPk T.noPk l) Tip.none],
         AObj.cells [AV.sl 1 (Seq.map T.encL [] x) Tip.none]]) →
    ASpec Try.prog 71 [AV.ptr 2 0] (T.HF es root l) Post := fun es root l Post h => Go.Ab.ASpec.of_vc g71 Go.Proofs.Try.func71 (by kernel_rfl) (by kernel_rfl) (by kernel_rfl) (Go.Ab.kc (by kernel_rfl) h)

-- 103
noncomputable def l103 : Nat → List Nat
  | _ => []
noncomputable def u103 : Nat → Bool
  | _ => false
noncomputable def m103 : Nat → Bool
  | _ => false
noncomputable def g103 : Cfg := { N := 14, live := l103, cut := u103, mu := m103, ret := rets }
theorem s103 : ∀ (es : T.Kn) (root : List T.Need) (l : List T.Pk) (p : T.Pk) (Post : AV → List AObj → Prop),
  (ASpec Try.prog 54 [AV.ptr 2 0, AV.agg [AV.str { data := List.toArray (Prod.fst p) }, AV.int IntKind.i64 (Prod.snd p)]]
      [AObj.mp (MM.typed T.EK es), AObj.cells [AV.map 0],
        AObj.cells [AV.ptr 1 0, AV.sl 2 (Seq.map T.encN ([], []) root) Tip.none, AV.sl 2 (Seq.map T.encPk T.noPk l) Tip.none], AObj.cells [AV.ptr 2 0],
        AObj.cells [AV.str { data := List.toArray (Prod.fst p) }, AV.int IntKind.i64 (Prod.snd p)]]
      fun (r : AV) (H' : List AObj) =>
      ∃ (x : T.Rel × Bool),
        r = AV.tup [AV.agg [AV.int IntKind.i64 (Prod.fst (Prod.fst x)), AV.sl 2 (Seq.map T.encN ([], []) (Prod.snd (Prod.fst x))) Tip.none], AV.bool (Prod.snd x)] ∧
         H' =
         [AObj.mp (MM.typed T.EK es), AObj.cells [AV.map 0],
         AObj.cells [AV.ptr 1 0, AV.sl 2 (Seq.map T.encN ([], []) root) Tip.none, AV.sl 2 (Seq.map T.encPk T.noPk l) Tip.none],
         AObj.cells [AV.ptr 2 0], AObj.cells [AV.str { data := List.toArray (Prod.fst p) }, AV.int IntKind.i64 (Prod.snd p)]] ∧
         Post (AV.bool !Prod.snd x)
         [AObj.mp (MM.typed T.EK es), AObj.cells [AV.map 0],
         AObj.cells [AV.ptr 1 0, AV.sl 2 (Seq.map T.encN ([], []) root) Tip.none, AV.sl 2 (Seq.map T.encPk T.noPk l) Tip.none],
         AObj.cells [AV.ptr 2 0], AObj.cells [AV.str { data := List.toArray (Prod.fst p) }, AV.int IntKind.i64 (Prod.snd p)],
         AObj.cells [AV.int IntKind.i64 (Prod.fst (Prod.fst x)), AV.sl 2 (Seq.map T.encN ([], []) (Prod.snd (Prod.fst x))) Tip.none]]) →
    ASpec Try.prog 103 [AV.agg (T.encPk p), AV.ptr 3 0] (T.HF es root l ++ [AObj.cells [AV.ptr 2 0]]) Post := fun es root l p Post h => Go.Ab.ASpec.of_vc g103 Go.Proofs.Try.func103 (by kernel_rfl) (by kernel_rfl) (by kernel_rfl) (Go.Ab.kc (by kernel_rfl) h)

-- 104
noncomputable def l104 : Nat → List Nat
  | _ => []
noncomputable def u104 : Nat → Bool
  | _ => false
noncomputable def m104 : Nat → Bool
  | _ => false
noncomputable def g104 : Cfg := { N := 16, live := l104, cut := u104, mu := m104, ret := rets }
theorem s104 : ∀ (es : T.Kn) (root : List T.Need) (l : List T.Pk) (p : T.Pk) (Post : AV → List AObj → Prop),
  (ASpec Try.prog 54 [AV.ptr 2 0, AV.agg [AV.str { data := List.toArray (Prod.fst p) }, AV.int IntKind.i64 (Prod.snd p)]]
      [AObj.mp (MM.typed T.EK es), AObj.cells [AV.map 0],
        AObj.cells [AV.ptr 1 0, AV.sl 2 (Seq.map T.encN ([], []) root) Tip.none, AV.sl 2 (Seq.map T.encPk T.noPk l) Tip.none], AObj.cells [AV.ptr 2 0],
        AObj.cells [AV.str { data := List.toArray (Prod.fst p) }, AV.int IntKind.i64 (Prod.snd p)]]
      fun (r : AV) (H' : List AObj) =>
      ∃ (x : T.Rel × Bool),
        r = AV.tup [AV.agg [AV.int IntKind.i64 (Prod.fst (Prod.fst x)), AV.sl 2 (Seq.map T.encN ([], []) (Prod.snd (Prod.fst x))) Tip.none], AV.bool (Prod.snd x)] ∧
         H' =
         [AObj.mp (MM.typed T.EK es), AObj.cells [AV.map 0],
         AObj.cells [AV.ptr 1 0, AV.sl 2 (Seq.map T.encN ([], []) root) Tip.none, AV.sl 2 (Seq.map T.encPk T.noPk l) Tip.none],
         AObj.cells [AV.ptr 2 0], AObj.cells [AV.str { data := List.toArray (Prod.fst p) }, AV.int IntKind.i64 (Prod.snd p)]] ∧
         ASpec Try.prog 105 [AV.sl 2 (Seq.map T.encN ([], []) (Prod.snd (Prod.fst x))) Tip.none, AV.fn 106 [AV.ptr 3 0]]
         [AObj.mp (MM.typed T.EK es), AObj.cells [AV.map 0],
         AObj.cells [AV.ptr 1 0, AV.sl 2 (Seq.map T.encN ([], []) root) Tip.none, AV.sl 2 (Seq.map T.encPk T.noPk l) Tip.none],
         AObj.cells [AV.ptr 2 0], AObj.cells [AV.str { data := List.toArray (Prod.fst p) }, AV.int IntKind.i64 (Prod.snd p)],
         AObj.cells [AV.int IntKind.i64 (Prod.fst (Prod.fst x)), AV.sl 2 (Seq.map T.encN ([], []) (Prod.snd (Prod.fst x))) Tip.none]]
         fun (r : AV) (H' : List AObj) =>
         ∃ (x_1 : Bool),
         r = AV.bool x_1 ∧
         H' =
         [AObj.mp (MM.typed T.EK es), AObj.cells [AV.map 0],
         AObj.cells [AV.ptr 1 0, AV.sl 2 (Seq.map T.encN ([], []) root) Tip.none, AV.sl 2 (Seq.map T.encPk T.noPk l) Tip.none],
         AObj.cells [AV.ptr 2 0], AObj.cells [AV.str { data := List.toArray (Prod.fst p) }, AV.int IntKind.i64 (Prod.snd p)],
         AObj.cells [AV.int IntKind.i64 (Prod.fst (Prod.fst x)), AV.sl 2 (Seq.map T.encN ([], []) (Prod.snd (Prod.fst x))) Tip.none]] ∧
         Post (AV.bool x_1)
         [AObj.mp (MM.typed T.EK es), AObj.cells [AV.map 0],
         AObj.cells [AV.ptr 1 0, AV.sl 2 (Seq.map T.encN ([], []) root) Tip.none, AV.sl 2 (Seq.map T.encPk T.noPk l) Tip.none],
         AObj.cells [AV.ptr 2 0], AObj.cells [AV.str { data := List.toArray (Prod.fst p) }, AV.int IntKind.i64 (Prod.snd p)],
         AObj.cells [AV.int IntKind.i64 (Prod.fst (Prod.fst x)), AV.sl 2 (Seq.map T.encN ([], []) (Prod.snd (Prod.fst x))) Tip.none]]) →
    ASpec Try.prog 104 [AV.agg (T.encPk p), AV.ptr 3 0] (T.HF es root l ++ [AObj.cells [AV.ptr 2 0]]) Post := fun es root l p Post h => Go.Ab.ASpec.of_vc g104 Go.Proofs.Try.func104 (by kernel_rfl) (by kernel_rfl) (by kernel_rfl) (Go.Ab.kc (by kernel_rfl) h)

-- 106
noncomputable def l106 : Nat → List Nat
  | _ => []
noncomputable def u106 : Nat → Bool
  | _ => false
noncomputable def m106 : Nat → Bool
  | _ => false
noncomputable def g106 : Cfg := { N := 8, live := l106, cut := u106, mu := m106, ret := rets }
theorem s106 : ∀ (es : T.Kn) (root : List T.Need) (l : List T.Pk) (n : T.Need) (Post : AV → List AObj → Prop),
  (ASpec Try.prog 101 [AV.ptr 2 0, AV.agg [AV.str { data := List.toArray (Prod.fst n) }, AV.sl 2 (Seq.map T.encS ((0 : Int), (0 : Int)) (Prod.snd n)) Tip.none]]
      [AObj.mp (MM.typed T.EK es), AObj.cells [AV.map 0],
        AObj.cells [AV.ptr 1 0, AV.sl 2 (Seq.map T.encN ([], []) root) Tip.none, AV.sl 2 (Seq.map T.encPk T.noPk l) Tip.none], AObj.cells [AV.ptr 2 0],
        AObj.cells [AV.str { data := List.toArray (Prod.fst n) }, AV.sl 2 (Seq.map T.encS ((0 : Int), (0 : Int)) (Prod.snd n)) Tip.none]]
      fun (r : AV) (H' : List AObj) =>
      ∃ (x : Bool),
        r = AV.bool x ∧
         H' =
         [AObj.mp (MM.typed T.EK es), AObj.cells [AV.map 0],
         AObj.cells [AV.ptr 1 0, AV.sl 2 (Seq.map T.encN ([], []) root) Tip.none, AV.sl 2 (Seq.map T.encPk T.noPk l) Tip.none],
         AObj.cells [AV.ptr 2 0], AObj.cells [AV.str { data := List.toArray (Prod.fst n) }, AV.sl 2 (Seq.map T.encS ((0 : Int), (0 : Int)) (Prod.snd n)) Tip.none]] ∧
         Post (AV.bool !x)
         [AObj.mp (MM.typed T.EK es), AObj.cells [AV.map 0],
         AObj.cells [AV.ptr 1 0, AV.sl 2 (Seq.map T.encN ([], []) root) Tip.none, AV.sl 2 (Seq.map T.encPk T.noPk l) Tip.none],
         AObj.cells [AV.ptr 2 0], AObj.cells [AV.str { data := List.toArray (Prod.fst n) }, AV.sl 2 (Seq.map T.encS ((0 : Int), (0 : Int)) (Prod.snd n)) Tip.none]]) →
    ASpec Try.prog 106 [AV.agg (T.encN n), AV.ptr 3 0] (T.HF es root l ++ [AObj.cells [AV.ptr 2 0]]) Post := fun es root l n Post h => Go.Ab.ASpec.of_vc g106 Go.Proofs.Try.func106 (by kernel_rfl) (by kernel_rfl) (by kernel_rfl) (Go.Ab.kc (by kernel_rfl) h)

-- 107
noncomputable def l107 : Nat → List Nat
  | _ => []
noncomputable def u107 : Nat → Bool
  | _ => false
noncomputable def m107 : Nat → Bool
  | _ => false
noncomputable def g107 : Cfg := { N := 9, live := l107, cut := u107, mu := m107, ret := rets }
theorem s107 : ∀ (es : T.Kn) (root : List T.Need) (l : List T.Pk) (q : List (List UInt8)) (p : T.Pk) (Post : AV → List AObj → Prop),
  (ASpec Try.prog 50 [AV.sl 1 (Seq.map T.encL [] q) Tip.none, AV.str { data := List.toArray (Prod.fst p) }]
      [AObj.mp (MM.typed T.EK es), AObj.cells [AV.map 0],
        AObj.cells [AV.ptr 1 0, AV.sl 2 (Seq.map T.encN ([], []) root) Tip.none, AV.sl 2 (Seq.map T.encPk T.noPk l) Tip.none],
        AObj.cells [AV.sl 1 (Seq.map T.encL [] q) Tip.none], AObj.cells [AV.str { data := List.toArray (Prod.fst p) }, AV.int IntKind.i64 (Prod.snd p)]]
      fun (r : AV) (H' : List AObj) =>
      ∃ (x : Bool),
        r = AV.bool x ∧
         H' =
         [AObj.mp (MM.typed T.EK es), AObj.cells [AV.map 0],
         AObj.cells [AV.ptr 1 0, AV.sl 2 (Seq.map T.encN ([], []) root) Tip.none, AV.sl 2 (Seq.map T.encPk T.noPk l) Tip.none],
         AObj.cells [AV.sl 1 (Seq.map T.encL [] q) Tip.none], AObj.cells [AV.str { data := List.toArray (Prod.fst p) }, AV.int IntKind.i64 (Prod.snd p)]] ∧
         Post (AV.bool !x)
         [AObj.mp (MM.typed T.EK es), AObj.cells [AV.map 0],
         AObj.cells [AV.ptr 1 0, AV.sl 2 (Seq.map T.encN ([], []) root) Tip.none, AV.sl 2 (Seq.map T.encPk T.noPk l) Tip.none],
         AObj.cells [AV.sl 1 (Seq.map T.encL [] q) Tip.none], AObj.cells [AV.str { data := List.toArray (Prod.fst p) }, AV.int IntKind.i64 (Prod.snd p)]]) →
    ASpec Try.prog 107 [AV.agg (T.encPk p), AV.ptr 3 0] (T.HF es root l ++ [AObj.cells [AV.sl 1 (Seq.map T.encL [] q) Tip.none]]) Post := fun es root l q p Post h => Go.Ab.ASpec.of_vc g107 Go.Proofs.Try.func107 (by kernel_rfl) (by kernel_rfl) (by kernel_rfl) (Go.Ab.kc (by kernel_rfl) h)

-- 105
noncomputable def l105 : Nat → List Nat
  | _ => []
noncomputable def u105 : Nat → Bool
  | _ => false
noncomputable def m105 : Nat → Bool
  | _ => false
noncomputable def g105 : Cfg := { N := 9, live := l105, cut := u105, mu := m105, ret := rets }
theorem s105 : ∀ (es : T.Kn) (root : List T.Need) (l : List T.Pk) (ns : List T.Need) (Post : AV → List AObj → Prop),
  (ASpec Try.prog 129 [AV.sl 2 (Seq.map T.encN ([], []) ns) Tip.none, AV.fn (106 : FuncId) [AV.ptr 3 0]]
      [AObj.mp (MM.typed T.EK es), AObj.cells [AV.map 0],
        AObj.cells [AV.ptr 1 0, AV.sl 2 (Seq.map T.encN ([], []) root) Tip.none, AV.sl 2 (Seq.map T.encPk T.noPk l) Tip.none], AObj.cells [AV.ptr 2 0]]
      fun (r : AV) (H' : List AObj) =>
      ∃ (x : Int),
        r = AV.int IntKind.i64 x ∧
         H' =
         [AObj.mp (MM.typed T.EK es), AObj.cells [AV.map 0],
         AObj.cells [AV.ptr 1 0, AV.sl 2 (Seq.map T.encN ([], []) root) Tip.none, AV.sl 2 (Seq.map T.encPk T.noPk l) Tip.none],
         AObj.cells [AV.ptr 2 0]] ∧
         Post (AV.bool (decide (x ≥ (0 : Int))))
         [AObj.mp (MM.typed T.EK es), AObj.cells [AV.map 0],
         AObj.cells [AV.ptr 1 0, AV.sl 2 (Seq.map T.encN ([], []) root) Tip.none, AV.sl 2 (Seq.map T.encPk T.noPk l) Tip.none],
         AObj.cells [AV.ptr 2 0]]) →
    ASpec Try.prog 105 [AV.sl 2 (Seq.map T.encN ([], []) ns) Tip.none, AV.fn (106 : FuncId) [AV.ptr 3 0]] (T.HF es root l ++ [AObj.cells [AV.ptr 2 0]])
      Post := fun es root l ns Post h => Go.Ab.ASpec.of_vc g105 Go.Proofs.Try.func105 (by kernel_rfl) (by kernel_rfl) (by kernel_rfl) (Go.Ab.kc (by kernel_rfl) h)

-- 129
noncomputable def l129 : Nat → List Nat
  | 2 => [0, 1, 7, 8]
  | _ => []
noncomputable def u129 : Nat → Bool
  | _ => false
noncomputable def m129 : Nat → Bool
  | _ => false
noncomputable def g129 : Cfg := { N := 19, live := l129, cut := u129, mu := m129, ret := rets }
noncomputable def c129 : Go.Code := Go.Ab.bodyOf Go.Proofs.Try.f129
noncomputable def q129_0 : Nat → (AV → List AObj → Prop) → AQ := fun (n : Nat) (Post : AV → List AObj → Prop) => endQ Try.prog (resultsOf Try.f129) Post
noncomputable def q129_1 : Nat → (AV → List AObj → Prop) → AQ := fun (n : Nat) (Post : AV → List AObj → Prop) => seqQ (fun (s' : Slots) (H' : List AObj) => awp Try.prog g129 n (codeSnd (codeSnd c129)) s' H' (q129_0 n Post)) (q129_0 n Post)
noncomputable def q129_2 : Nat → (AV → List AObj → Prop) → AQ := fun (n : Nat) (Post : AV → List AObj → Prop) => blockQ 0 (q129_1 n Post)
noncomputable def c129_2 : Go.Code := codeFst (codeSnd (codeFst (codeSnd c129)))
theorem s129 : ∀ (es : T.Kn) (root : List T.Need) (l : List T.Pk) (ns : List T.Need) (Post : AV → List AObj → Prop),
  AWP Try.prog 19 4 c129_2
      [(0, AV.sl 2 (Seq.map T.encN ([], []) ns) Tip.none), (1, AV.fn (106 : FuncId) [AV.ptr 3 0]), (7, AV.int IntKind.i64 (↑(List.length ns) : Int)),
        (8, AV.int IntKind.i64 (0 : Int))]
      [AObj.mp (MM.typed T.EK es), AObj.cells [AV.map 0],
        AObj.cells [AV.ptr 1 0, AV.sl 2 (Seq.map T.encN ([], []) root) Tip.none, AV.sl 2 (Seq.map T.encPk T.noPk l) Tip.none], AObj.cells [AV.ptr 2 0]]
      (q129_2 4 Post) →
    ASpec Try.prog 129 [AV.sl 2 (Seq.map T.encN ([], []) ns) Tip.none, AV.fn (106 : FuncId) [AV.ptr 3 0]] (T.HF es root l ++ [AObj.cells [AV.ptr 2 0]])
      Post := fun es root l ns Post h => Go.Ab.ASpec.of_vc g129 Go.Proofs.Try.func129 (by kernel_rfl) (by kernel_rfl) (by kernel_rfl) (Go.Ab.kc (by kernel_rfl) h)
theorem v129_2 : ∀ (es : T.Kn) (root : List T.Need) (l : List T.Pk) (ns : List T.Need) (n i : Int) (n_1 : Nat) (Post : AV → List AObj → Prop),
  condP (decide (i < n))
      (needP ((0 : Int) ≤ i ∧ i < (↑(List.length ns) : Int))
        (ASpec Try.prog 106
         [AV.agg
         [AV.str { data := List.toArray (Prod.fst (List.getD ns (Int.toNat i) ([], []))) },
         AV.sl 2 (Seq.map T.encS ((0 : Int), (0 : Int)) (Prod.snd (List.getD ns (Int.toNat i) ([], [])))) Tip.none],
         AV.ptr 3 0]
         [AObj.mp (MM.typed T.EK es), AObj.cells [AV.map 0],
         AObj.cells [AV.ptr 1 0, AV.sl 2 (Seq.map T.encN ([], []) root) Tip.none, AV.sl 2 (Seq.map T.encPk T.noPk l) Tip.none],
         AObj.cells [AV.ptr 2 0]]
         fun (r : AV) (H' : List AObj) =>
         ∃ (x : Bool),
         r = AV.bool x ∧
         H' =
         [AObj.mp (MM.typed T.EK es), AObj.cells [AV.map 0],
         AObj.cells [AV.ptr 1 0, AV.sl 2 (Seq.map T.encN ([], []) root) Tip.none, AV.sl 2 (Seq.map T.encPk T.noPk l) Tip.none],
         AObj.cells [AV.ptr 2 0]] ∧
         condP x
         (Post (AV.int IntKind.i64 i)
         [AObj.mp (MM.typed T.EK es), AObj.cells [AV.map 0],
         AObj.cells [AV.ptr 1 0, AV.sl 2 (Seq.map T.encN ([], []) root) Tip.none, AV.sl 2 (Seq.map T.encPk T.noPk l) Tip.none],
         AObj.cells [AV.ptr 2 0]])
         (AWP Try.prog 19 n_1 c129_2
         [(0, AV.sl 2 (Seq.map T.encN ([], []) ns) Tip.none), (1, AV.fn (106 : FuncId) [AV.ptr 3 0]), (7, AV.int IntKind.i64 n),
         (8, AV.int IntKind.i64 (IntKind.wrap IntKind.i64 (i + (1 : Int))))]
         [AObj.mp (MM.typed T.EK es), AObj.cells [AV.map 0],
         AObj.cells [AV.ptr 1 0, AV.sl 2 (Seq.map T.encN ([], []) root) Tip.none, AV.sl 2 (Seq.map T.encPk T.noPk l) Tip.none],
         AObj.cells [AV.ptr 2 0]]
         (q129_2 n_1 Post))))
      (Post (AV.int IntKind.i64 (-1 : Int))
        [AObj.mp (MM.typed T.EK es), AObj.cells [AV.map 0],
         AObj.cells [AV.ptr 1 0, AV.sl 2 (Seq.map T.encN ([], []) root) Tip.none, AV.sl 2 (Seq.map T.encPk T.noPk l) Tip.none],
         AObj.cells [AV.ptr 2 0]]) →
    AWP Try.prog 19 n_1 c129_2
      [(0, AV.sl 2 (Seq.map T.encN ([], []) ns) Tip.none), (1, AV.fn (106 : FuncId) [AV.ptr 3 0]), (7, AV.int IntKind.i64 n),
        (8, AV.int IntKind.i64 i)]
      (T.HF es root l ++ [AObj.cells [AV.ptr 2 0]]) (q129_2 n_1 Post) := fun es root l ns n i n Post h => Go.Ab.AWP.loop' g129 (Cfg.live g129) c129_2 (by kernel_rfl) (by kernel_rfl) (Go.Ab.kc (by kernel_rfl) h)

-- 102
noncomputable def l102 : Nat → List Nat
  | _ => []
noncomputable def u102 : Nat → Bool
  | _ => false
noncomputable def m102 : Nat → Bool
  | _ => false
noncomputable def g102 : Cfg := { N := 23, live := l102, cut := u102, mu := m102, ret := rets }
theorem s102a : ∀ (es : T.Kn) (root : List T.Need) (l : List T.Pk) (Post : AV → List AObj → Prop),
  (ASpec Try.prog 128 [AV.sl 2 (Seq.map T.encPk T.noPk l) Tip.none, AV.fn (103 : FuncId) [AV.ptr 3 0]]
      [AObj.mp (MM.typed T.EK es), AObj.cells [AV.map 0],
        AObj.cells [AV.ptr 1 0, AV.sl 2 (Seq.map T.encN ([], []) root) Tip.none, AV.sl 2 (Seq.map T.encPk T.noPk l) Tip.none], AObj.cells [AV.ptr 2 0]]
      fun (r : AV) (H' : List AObj) =>
      ∃ (x : Int),
        r = AV.int IntKind.i64 x ∧
         H' =
         [AObj.mp (MM.typed T.EK es), AObj.cells [AV.map 0],
         AObj.cells [AV.ptr 1 0, AV.sl 2 (Seq.map T.encN ([], []) root) Tip.none, AV.sl 2 (Seq.map T.encPk T.noPk l) Tip.none],
         AObj.cells [AV.ptr 2 0]] ∧
         condP (decide (x < (0 : Int)))
         (Post (AV.tup [AV.str { data := #[] }, AV.bool false])
         [AObj.mp (MM.typed T.EK es), AObj.cells [AV.map 0],
         AObj.cells [AV.ptr 1 0, AV.sl 2 (Seq.map T.encN ([], []) root) Tip.none, AV.sl 2 (Seq.map T.encPk T.noPk l) Tip.none],
         AObj.cells [AV.ptr 2 0]])
         (needP ((0 : Int) ≤ x ∧ x < (↑(List.length l) : Int))
         (Post (AV.tup [AV.str { data := List.toArray (Prod.fst (List.getD l (Int.toNat x) T.noPk)) }, AV.bool true])
         [AObj.mp (MM.typed T.EK es), AObj.cells [AV.map 0],
         AObj.cells [AV.ptr 1 0, AV.sl 2 (Seq.map T.encN ([], []) root) Tip.none, AV.sl 2 (Seq.map T.encPk T.noPk l) Tip.none],
         AObj.cells [AV.ptr 2 0]]))) →
    ASpec Try.prog 102 [AV.ptr 2 0, AV.fn (103 : FuncId) [AV.ptr 3 0]] (T.HF es root l ++ [AObj.cells [AV.ptr 2 0]]) Post := fun es root l Post h => Go.Ab.ASpec.of_vc g102 Go.Proofs.Try.func102 (by kernel_rfl) (by kernel_rfl) (by kernel_rfl) (Go.Ab.kc (by kernel_rfl) h)
theorem s102l : ∀ (es : T.Kn) (root : List T.Need) (l : List T.Pk) (Post : AV → List AObj → Prop),
  (ASpec Try.prog 128 [AV.sl 2 (Seq.map T.encPk T.noPk l) Tip.none, AV.fn (104 : FuncId) [AV.ptr 3 0]]
      [AObj.mp (MM.typed T.EK es), AObj.cells [AV.map 0],
        AObj.cells [AV.ptr 1 0, AV.sl 2 (Seq.map T.encN ([], []) root) Tip.none, AV.sl 2 (Seq.map T.encPk T.noPk l) Tip.none], AObj.cells [AV.ptr 2 0]]
      fun (r : AV) (H' : List AObj) =>
      ∃ (x : Int),
        r = AV.int IntKind.i64 x ∧
         H' =
         [AObj.mp (MM.typed T.EK es), AObj.cells [AV.map 0],
         AObj.cells [AV.ptr 1 0, AV.sl 2 (Seq.map T.encN ([], []) root) Tip.none, AV.sl 2 (Seq.map T.encPk T.noPk l) Tip.none],
         AObj.cells [AV.ptr 2 0]] ∧
         condP (decide (x < (0 : Int)))
         (Post (AV.tup [AV.str { data := #[] }, AV.bool false])
         [AObj.mp (MM.typed T.EK es), AObj.cells [AV.map 0],
         AObj.cells [AV.ptr 1 0, AV.sl 2 (Seq.map T.encN ([], []) root) Tip.none, AV.sl 2 (Seq.map T.encPk T.noPk l) Tip.none],
         AObj.cells [AV.ptr 2 0]])
         (needP ((0 : Int) ≤ x ∧ x < (↑(List.length l) : Int))
         (Post (AV.tup [AV.str { data := List.toArray (Prod.fst (List.getD l (Int.toNat x) T.noPk)) }, AV.bool true])
         [AObj.mp (MM.typed T.EK es), AObj.cells [AV.map 0],
         AObj.cells [AV.ptr 1 0, AV.sl 2 (Seq.map T.encN ([], []) root) Tip.none, AV.sl 2 (Seq.map T.encPk T.noPk l) Tip.none],
         AObj.cells [AV.ptr 2 0]]))) →
    ASpec Try.prog 102 [AV.ptr 2 0, AV.fn (104 : FuncId) [AV.ptr 3 0]] (T.HF es root l ++ [AObj.cells [AV.ptr 2 0]]) Post := fun es root l Post h => Go.Ab.ASpec.of_vc g102 Go.Proofs.Try.func102 (by kernel_rfl) (by kernel_rfl) (by kernel_rfl) (Go.Ab.kc (by kernel_rfl) h)
theorem s102i : ∀ (es : T.Kn) (root : List T.Need) (l : List T.Pk) (q : List (List UInt8)) (Post : AV → List AObj → Prop),
  (ASpec Try.prog 128 [AV.sl 2 (Seq.map T.encPk T.noPk l) Tip.none, AV.fn (107 : FuncId) [AV.ptr 3 0]]
      [AObj.mp (MM.typed T.EK es), AObj.cells [AV.map 0],
        AObj.cells [AV.ptr 1 0, AV.sl 2 (Seq.map T.encN ([], []) root) Tip.none, AV.sl 2 (Seq.map T.encPk T.noPk l) Tip.none],
        AObj.cells [AV.sl 1 (Seq.map T.encL [] q) Tip.none]]
      fun (r : AV) (H' : List AObj) =>
      ∃ (x : Int),
        r = AV.int IntKind.i64 x ∧
         H' =
         [AObj.mp (MM.typed T.EK es), AObj.cells [AV.map 0],
         AObj.cells [AV.ptr 1 0, AV.sl 2 (Seq.map T.encN ([], []) root) Tip.none, AV.sl 2 (Seq.map T.encPk T.noPk l) Tip.none],
         AObj.cells [AV.sl 1 (Seq.map T.encL [] q) Tip.none]] ∧
         condP (decide (x < (0 : Int)))
         (Post (AV.tup [AV.str { data := #[] }, AV.bool false])
         [AObj.mp (MM.typed T.EK es), AObj.cells [AV.map 0],
         AObj.cells [AV.ptr 1 0, AV.sl 2 (Seq.map T.encN ([], []) root) Tip.none, AV.sl 2 (Seq.map T.encPk T.noPk l) Tip.none],
         AObj.cells [AV.sl 1 (Seq.map T.encL [] q) Tip.none]])
         (needP ((0 : Int) ≤ x ∧ x < (↑(List.length l) : Int))
         (Post (AV.tup [AV.str { data := List.toArray (Prod.fst (List.getD l (Int.toNat x) T.noPk)) }, AV.bool true])
         [AObj.mp (MM.typed T.EK es), AObj.cells [AV.map 0],
         AObj.cells [AV.ptr 1 0, AV.sl 2 (Seq.map T.encN ([], []) root) Tip.none, AV.sl 2 (Seq.map T.encPk T.noPk l) Tip.none],
         AObj.cells [AV.sl 1 (Seq.map T.encL [] q) Tip.none]]))) →
    ASpec Try.prog 102 [AV.ptr 2 0, AV.fn (107 : FuncId) [AV.ptr 3 0]] (T.HF es root l ++ [AObj.cells [AV.sl 1 (Seq.map T.encL [] q) Tip.none]]) Post := fun es root l q Post h => Go.Ab.ASpec.of_vc g102 Go.Proofs.Try.func102 (by kernel_rfl) (by kernel_rfl) (by kernel_rfl) (Go.Ab.kc (by kernel_rfl) h)

-- 128
noncomputable def l128 : Nat → List Nat
  | 2 => [0, 1, 7, 8]
  | _ => []
noncomputable def u128 : Nat → Bool
  | _ => false
noncomputable def m128 : Nat → Bool
  | _ => false
noncomputable def g128 : Cfg := { N := 19, live := l128, cut := u128, mu := m128, ret := rets }
noncomputable def c128 : Go.Code := Go.Ab.bodyOf Go.Proofs.Try.f128
noncomputable def q128_0 : Nat → (AV → List AObj → Prop) → AQ := fun (n : Nat) (Post : AV → List AObj → Prop) => endQ Try.prog (resultsOf Try.f128) Post
noncomputable def q128_1 : Nat → (AV → List AObj → Prop) → AQ := fun (n : Nat) (Post : AV → List AObj → Prop) => seqQ (fun (s' : Slots) (H' : List AObj) => awp Try.prog g128 n (codeSnd (codeSnd c128)) s' H' (q128_0 n Post)) (q128_0 n Post)
noncomputable def q128_2 : Nat → (AV → List AObj → Prop) → AQ := fun (n : Nat) (Post : AV → List AObj → Prop) => blockQ 0 (q128_1 n Post)
noncomputable def c128_2 : Go.Code := codeFst (codeSnd (codeFst (codeSnd c128)))
theorem s128a : ∀ (es : T.Kn) (root : List T.Need) (l : List T.Pk) (Post : AV → List AObj → Prop),
  AWP Try.prog 19 4 c128_2
      [(0, AV.sl 2 (Seq.map T.encPk T.noPk l) Tip.none), (1, AV.fn (103 : FuncId) [AV.ptr 3 0]), (7, AV.int IntKind.i64 (↑(List.length l) : Int)),
        (8, AV.int IntKind.i64 (0 : Int))]
      [AObj.mp (MM.typed T.EK es), AObj.cells [AV.map 0],
        AObj.cells [AV.ptr 1 0, AV.sl 2 (Seq.map T.encN ([], []) root) Tip.none, AV.sl 2 (Seq.map T.encPk T.noPk l) Tip.none], AObj.cells [AV.ptr 2 0]]
      (q128_2 4 Post) →
    ASpec Try.prog 128 [AV.sl 2 (Seq.map T.encPk T.noPk l) Tip.none, AV.fn (103 : FuncId) [AV.ptr 3 0]] (T.HF es root l ++ [AObj.cells [AV.ptr 2 0]])
      Post := fun es root l Post h => Go.Ab.ASpec.of_vc g128 Go.Proofs.Try.func128 (by kernel_rfl) (by kernel_rfl) (by kernel_rfl) (Go.Ab.kc (by kernel_rfl) h)
theorem s128l : ∀ (es : T.Kn) (root : List T.Need) (l : List T.Pk) (Post : AV → List AObj → Prop),
  AWP Try.prog 19 4 c128_2
      [(0, AV.sl 2 (Seq.map T.encPk T.noPk l) Tip.none), (1, AV.fn (104 : FuncId) [AV.ptr 3 0]), (7, AV.int IntKind.i64 (↑(List.length l) : Int)),
        (8, AV.int IntKind.i64 (0 : Int))]
      [AObj.mp (MM.typed T.EK es), AObj.cells [AV.map 0],
        AObj.cells [AV.ptr 1 0, AV.sl 2 (Seq.map T.encN ([], []) root) Tip.none, AV.sl 2 (Seq.map T.encPk T.noPk l) Tip.none], AObj.cells [AV.ptr 2 0]]
      (q128_2 4 Post) →
    ASpec Try.prog 128 [AV.sl 2 (Seq.map T.encPk T.noPk l) Tip.none, AV.fn (104 : FuncId) [AV.ptr 3 0]] (T.HF es root l ++ [AObj.cells [AV.ptr 2 0]])
      Post := fun es root l Post h => Go.Ab.ASpec.of_vc g128 Go.Proofs.Try.func128 (by kernel_rfl) (by kernel_rfl) (by kernel_rfl) (Go.Ab.kc (by kernel_rfl) h)
theorem s128i : ∀ (es : T.Kn) (root : List T.Need) (l : List T.Pk) (q : List (List UInt8)) (Post : AV → List AObj → Prop),
  AWP Try.prog 19 4 c128_2
      [(0, AV.sl 2 (Seq.map T.encPk T.noPk l) Tip.none), (1, AV.fn (107 : FuncId) [AV.ptr 3 0]), (7, AV.int IntKind.i64 (↑(List.length l) : Int)),
        (8, AV.int IntKind.i64 (0 : Int))]
      [AObj.mp (MM.typed T.EK es), AObj.cells [AV.map 0],
        AObj.cells [AV.ptr 1 0, AV.sl 2 (Seq.map T.encN ([], []) root) Tip.none, AV.sl 2 (Seq.map T.encPk T.noPk l) Tip.none],
        AObj.cells [AV.sl 1 (Seq.map T.encL [] q) Tip.none]]
      (q128_2 4 Post) →
    ASpec Try.prog 128 [AV.sl 2 (Seq.map T.encPk T.noPk l) Tip.none, AV.fn (107 : FuncId) [AV.ptr 3 0]]
      (T.HF es root l ++ [AObj.cells [AV.sl 1 (Seq.map T.encL [] q) Tip.none]]) Post := fun es root l q Post h => Go.Ab.ASpec.of_vc g128 Go.Proofs.Try.func128 (by kernel_rfl) (by kernel_rfl) (by kernel_rfl) (Go.Ab.kc (by kernel_rfl) h)
theorem v128_2a : ∀ (es : T.Kn) (root : List T.Need) (l : List T.Pk) (n i : Int) (n_1 : Nat) (Post : AV → List AObj → Prop),
  condP (decide (i < n))
      (needP ((0 : Int) ≤ i ∧ i < (↑(List.length l) : Int))
        (ASpec Try.prog 103
         [AV.agg [AV.str { data := List.toArray (Prod.fst (List.getD l (Int.toNat i) T.noPk)) }, AV.int IntKind.i64 (Prod.snd (List.getD l (Int.toNat i) T.noPk))], AV.ptr 3 0]
         [AObj.mp (MM.typed T.EK es), AObj.cells [AV.map 0],
         AObj.cells [AV.ptr 1 0, AV.sl 2 (Seq.map T.encN ([], []) root) Tip.none, AV.sl 2 (Seq.map T.encPk T.noPk l) Tip.none],
         AObj.cells [AV.ptr 2 0]]
         fun (r : AV) (H' : List AObj) =>
         ∃ (x : Bool),
         r = AV.bool x ∧
         H' =
         [AObj.mp (MM.typed T.EK es), AObj.cells [AV.map 0],
         AObj.cells [AV.ptr 1 0, AV.sl 2 (Seq.map T.encN ([], []) root) Tip.none, AV.sl 2 (Seq.map T.encPk T.noPk l) Tip.none],
         AObj.cells [AV.ptr 2 0]] ∧
         condP x
         (Post (AV.int IntKind.i64 i)
         [AObj.mp (MM.typed T.EK es), AObj.cells [AV.map 0],
         AObj.cells [AV.ptr 1 0, AV.sl 2 (Seq.map T.encN ([], []) root) Tip.none, AV.sl 2 (Seq.map T.encPk T.noPk l) Tip.none],
         AObj.cells [AV.ptr 2 0]])
         (AWP Try.prog 19 n_1 c128_2
         [(0, AV.sl 2 (Seq.map T.encPk T.noPk l) Tip.none), (1, AV.fn (103 : FuncId) [AV.ptr 3 0]), (7, AV.int IntKind.i64 n),
         (8, AV.int IntKind.i64 (IntKind.wrap IntKind.i64 (i + (1 : Int))))]
         [AObj.mp (MM.typed T.EK es), AObj.cells [AV.map 0],
         AObj.cells [AV.ptr 1 0, AV.sl 2 (Seq.map T.encN ([], []) root) Tip.none, AV.sl 2 (Seq.map T.encPk T.noPk l) Tip.none],
         AObj.cells [AV.ptr 2 0]]
         (q128_2 n_1 Post))))
      (Post (AV.int IntKind.i64 (-1 : Int))
        [AObj.mp (MM.typed T.EK es), AObj.cells [AV.map 0],
         AObj.cells [AV.ptr 1 0, AV.sl 2 (Seq.map T.encN ([], []) root) Tip.none, AV.sl 2 (Seq.map T.encPk T.noPk l) Tip.none],
         AObj.cells [AV.ptr 2 0]]) →
    AWP Try.prog 19 n_1 c128_2
      [(0, AV.sl 2 (Seq.map T.encPk T.noPk l) Tip.none), (1, AV.fn (103 : FuncId) [AV.ptr 3 0]), (7, AV.int IntKind.i64 n),
        (8, AV.int IntKind.i64 i)]
      (T.HF es root l ++ [AObj.cells [AV.ptr 2 0]]) (q128_2 n_1 Post) := fun es root l n i n Post h => Go.Ab.AWP.loop' g128 (Cfg.live g128) c128_2 (by kernel_rfl) (by kernel_rfl) (Go.Ab.kc (by kernel_rfl) h)
theorem v128_2l : ∀ (es : T.Kn) (root : List T.Need) (l : List T.Pk) (n i : Int) (n_1 : Nat) (Post : AV → List AObj → Prop),
  condP (decide (i < n))
      (needP ((0 : Int) ≤ i ∧ i < (↑(List.length l) : Int))
        (ASpec Try.prog 104
         [AV.agg [AV.str { data := List.toArray (Prod.fst (List.getD l (Int.toNat i) T.noPk)) }, AV.int IntKind.i64 (Prod.snd (List.getD l (Int.toNat i) T.noPk))], AV.ptr 3 0]
         [AObj.mp (MM.typed T.EK es), AObj.cells [AV.map 0],
         AObj.cells [AV.ptr 1 0, AV.sl 2 (Seq.map T.encN ([], []) root) Tip.none, AV.sl 2 (Seq.map T.encPk T.noPk l) Tip.none],
         AObj.cells [AV.ptr 2 0]]
         fun (r : AV) (H' : List AObj) =>
         ∃ (x : Bool),
         r = AV.bool x ∧
         H' =
         [AObj.mp (MM.typed T.EK es), AObj.cells [AV.map 0],
         AObj.cells [AV.ptr 1 0, AV.sl 2 (Seq.map T.encN ([], []) root) Tip.none, AV.sl 2 (Seq.map T.encPk T.noPk l) Tip.none],
         AObj.cells [AV.ptr 2 0]] ∧
         condP x
         (Post (AV.int IntKind.i64 i)
         [AObj.mp (MM.typed T.EK es), AObj.cells [AV.map 0],
         AObj.cells [AV.ptr 1 0, AV.sl 2 (Seq.map T.encN ([], []) root) Tip.none, AV.sl 2 (Seq.map T.encPk T.noPk l) Tip.none],
         AObj.cells [AV.ptr 2 0]])
         (AWP Try.prog 19 n_1 c128_2
         [(0, AV.sl 2 (Seq.map T.encPk T.noPk l) Tip.none), (1, AV.fn (104 : FuncId) [AV.ptr 3 0]), (7, AV.int IntKind.i64 n),
         (8, AV.int IntKind.i64 (IntKind.wrap IntKind.i64 (i + (1 : Int))))]
         [AObj.mp (MM.typed T.EK es), AObj.cells [AV.map 0],
         AObj.cells [AV.ptr 1 0, AV.sl 2 (Seq.map T.encN ([], []) root) Tip.none, AV.sl 2 (Seq.map T.encPk T.noPk l) Tip.none],
         AObj.cells [AV.ptr 2 0]]
         (q128_2 n_1 Post))))
      (Post (AV.int IntKind.i64 (-1 : Int))
        [AObj.mp (MM.typed T.EK es), AObj.cells [AV.map 0],
         AObj.cells [AV.ptr 1 0, AV.sl 2 (Seq.map T.encN ([], []) root) Tip.none, AV.sl 2 (Seq.map T.encPk T.noPk l) Tip.none],
         AObj.cells [AV.ptr 2 0]]) →
    AWP Try.prog 19 n_1 c128_2
      [(0, AV.sl 2 (Seq.map T.encPk T.noPk l) Tip.none), (1, AV.fn (104 : FuncId) [AV.ptr 3 0]), (7, AV.int IntKind.i64 n),
        (8, AV.int IntKind.i64 i)]
      (T.HF es root l ++ [AObj.cells [AV.ptr 2 0]]) (q128_2 n_1 Post) := fun es root l n i n Post h => Go.Ab.AWP.loop' g128 (Cfg.live g128) c128_2 (by kernel_rfl) (by kernel_rfl) (Go.Ab.kc (by kernel_rfl) h)
theorem v128_2i : ∀ (es : T.Kn) (root : List T.Need) (l : List T.Pk) (q : List (List UInt8)) (n i : Int) (n_1 : Nat) (Post : AV → List AObj → Prop),
  condP (decide (i < n))
      (needP ((0 : Int) ≤ i ∧ i < (↑(List.length l) : Int))
        (ASpec Try.prog 107
         [AV.agg [AV.str { data := List.toArray (Prod.fst (List.getD l (Int.toNat i) T.noPk)) }, AV.int IntKind.i64 (Prod.snd (List.getD l (Int.toNat i) T.noPk))], AV.ptr 3 0]
         [AObj.mp (MM.typed T.EK es), AObj.cells [AV.map 0],
         AObj.cells [AV.ptr 1 0, AV.sl 2 (Seq.map T.encN ([], []) root) Tip.none, AV.sl 2 (Seq.map T.encPk T.noPk l) Tip.none],
         AObj.cells [AV.sl 1 (Seq.map T.encL [] q) Tip.none]]
         fun (r : AV) (H' : List AObj) =>
         ∃ (x : Bool),
         r = AV.bool x ∧
         H' =
         [AObj.mp (MM.typed T.EK es), AObj.cells [AV.map 0],
         AObj.cells [AV.ptr 1 0, AV.sl 2 (Seq.map T.encN ([], []) root) Tip.none, AV.sl 2 (Seq.map T.encPk T.noPk l) Tip.none],
         AObj.cells [AV.sl 1 (Seq.map T.encL [] q) Tip.none]] ∧
         condP x
         (Post (AV.int IntKind.i64 i)
         [AObj.mp (MM.typed T.EK es), AObj.cells [AV.map 0],
         AObj.cells [AV.ptr 1 0, AV.sl 2 (Seq.map T.encN ([], []) root) Tip.none, AV.sl 2 (Seq.map T.encPk T.noPk l) Tip.none],
         AObj.cells [AV.sl 1 (Seq.map T.encL [] q) Tip.none]])
         (AWP Try.prog 19 n_1 c128_2
         [(0, AV.sl 2 (Seq.map T.encPk T.noPk l) Tip.none), (1, AV.fn (107 : FuncId) [AV.ptr 3 0]), (7, AV.int IntKind.i64 n),
         (8, AV.int IntKind.i64 (IntKind.wrap IntKind.i64 (i + (1 : Int))))]
         [AObj.mp (MM.typed T.EK es), AObj.cells [AV.map 0],
         AObj.cells [AV.ptr 1 0, AV.sl 2 (Seq.map T.encN ([], []) root) Tip.none, AV.sl 2 (Seq.map T.encPk T.noPk l) Tip.none],
         AObj.cells [AV.sl 1 (Seq.map T.encL [] q) Tip.none]]
         (q128_2 n_1 Post))))
      (Post (AV.int IntKind.i64 (-1 : Int))
        [AObj.mp (MM.typed T.EK es), AObj.cells [AV.map 0],
         AObj.cells [AV.ptr 1 0, AV.sl 2 (Seq.map T.encN ([], []) root) Tip.none, AV.sl 2 (Seq.map T.encPk T.noPk l) Tip.none],
         AObj.cells [AV.sl 1 (Seq.map T.encL [] q) Tip.none]]) →
    AWP Try.prog 19 n_1 c128_2
      [(0, AV.sl 2 (Seq.map T.encPk T.noPk l) Tip.none), (1, AV.fn (107 : FuncId) [AV.ptr 3 0]), (7, AV.int IntKind.i64 n),
        (8, AV.int IntKind.i64 i)]
      (T.HF es root l ++ [AObj.cells [AV.sl 1 (Seq.map T.encL [] q) Tip.none]]) (q128_2 n_1 Post) := fun es root l q n i n Post h => Go.Ab.AWP.loop' g128 (Cfg.live g128) c128_2 (by kernel_rfl) (by kernel_rfl) (Go.Ab.kc (by kernel_rfl) h)

-- 51
noncomputable def l51 : Nat → List Nat
  | 4 => [30, 31]
  | _ => []
noncomputable def u51 : Nat → Bool
  | _ => false
noncomputable def m51 : Nat → Bool
  | _ => false
noncomputable def g51 : Cfg := { N := 45, live := l51, cut := u51, mu := m51, ret := rets }
noncomputable def c51 : Go.Code := Go.Ab.bodyOf Go.Proofs.Try.f51
noncomputable def q51_0 : Nat → (AV → List AObj → Prop) → AQ := fun (n : Nat) (Post : AV → List AObj → Prop) => endQ Try.prog (resultsOf Try.f51) Post
noncomputable def q51_1 : Nat → (AV → List AObj → Prop) → AQ := fun (n : Nat) (Post : AV → List AObj → Prop) => seqQ (fun (s' : Slots) (H' : List AObj) => awp Try.prog g51 n (codeSnd (codeSnd (codeSnd (codeSnd c51)))) s' H' (q51_0 n Post)) (q51_0 n Post)
noncomputable def q51_2 : Nat → (AV → List AObj → Prop) → AQ := fun (n : Nat) (Post : AV → List AObj → Prop) => blockQ 0 (q51_1 n Post)
noncomputable def c51_4 : Go.Code := codeFst (codeSnd (codeFst (codeSnd (codeSnd (codeSnd c51)))))
theorem s51 : ∀ (es : T.Kn) (root : List T.Need) (l : List T.Pk) (Post : AV → List AObj → Prop),
  AWP Try.prog 45 2 c51_4
      [(30,
         AV.agg
         [AV.bfn 67 [AV.ptr 2 0], AV.bfn 68 [AV.ptr 2 0], AV.bfn 69 [AV.ptr 2 0],
         AV.bfn 70 [AV.ptr 2 0], AV.bfn 71 [AV.ptr 2 0]]),
        (31, AV.int IntKind.i64 (0 : Int))]
      [AObj.mp (MM.typed T.EK es), AObj.cells [AV.map 0],
        AObj.cells [AV.ptr 1 0, AV.sl 2 (Seq.map T.encN ([], []) root) Tip.none, AV.sl 2 (Seq.map T.encPk T.noPk l) Tip.none],
        AObj.cells
         [AV.bfn 67 [AV.ptr 2 0], AV.bfn 68 [AV.ptr 2 0], AV.bfn 69 [AV.ptr 2 0],
         AV.bfn 70 [AV.ptr 2 0], AV.bfn 71 [AV.ptr 2 0]]]
      (q51_2 2 Post) →
    ASpec Try.prog 51 [AV.ptr 1 0, AV.sl 2 (Seq.map T.encN ([], []) root) Tip.none, AV.sl 2 (Seq.map T.encPk T.noPk l) Tip.none] (T.HX es) Post := fun es root l Post h => Go.Ab.ASpec.of_vc g51 Go.Proofs.Try.func51 (by kernel_rfl) (by kernel_rfl) (by kernel_rfl) (Go.Ab.kc (by kernel_rfl) h)
theorem v51_4a : ∀ (es : T.Kn) (root : List T.Need) (l : List T.Pk) (n : Nat) (Post : AV → List AObj → Prop),
  needP ((0 : Int) ≤ (0 : Int) ∧ (0 : Int) < (5 : Int))
      (ASpec Try.prog 67 [AV.ptr 2 0]
        [AObj.mp (MM.typed T.EK es), AObj.cells [AV.map 0],
         AObj.cells [AV.ptr 1 0, AV.sl 2 (Seq.map T.encN ([], []) root) Tip.none, AV.sl 2 (Seq.map T.encPk T.noPk l) Tip.none]]
        fun (r : AV) (H' : List AObj) =>
        ∃ (x : ByteArray × Bool),
         r = AV.tup [AV.str (Prod.fst x), AV.bool (Prod.snd x)] ∧
         H' =
         [AObj.mp (MM.typed T.EK es), AObj.cells [AV.map 0],
         AObj.cells [AV.ptr 1 0, AV.sl 2 (Seq.map T.encN ([], []) root) Tip.none, AV.sl 2 (Seq.map T.encPk T.noPk l) Tip.none]] ∧
         condP (Prod.snd x)
         (Post (AV.tup [AV.int IntKind.i64 (1 : Int), AV.str (Prod.fst x)])
         [AObj.mp (MM.typed T.EK es), AObj.cells [AV.map 0],
         AObj.cells [AV.ptr 1 0, AV.sl 2 (Seq.map T.encN ([], []) root) Tip.none, AV.sl 2 (Seq.map T.encPk T.noPk l) Tip.none]])
         (AWP Try.prog 45 n c51_4
         [(30,
         AV.agg
         [AV.bfn (67 : FuncId) [AV.ptr 2 0], AV.bfn (68 : FuncId) [AV.ptr 2 0], AV.bfn (69 : FuncId) [AV.ptr 2 0],
         AV.bfn (70 : FuncId) [AV.ptr 2 0], AV.bfn (71 : FuncId) [AV.ptr 2 0]]),
         (31, AV.int IntKind.i64 (1 : Int))]
         [AObj.mp (MM.typed T.EK es), AObj.cells [AV.map 0],
         AObj.cells [AV.ptr 1 0, AV.sl 2 (Seq.map T.encN ([], []) root) Tip.none, AV.sl 2 (Seq.map T.encPk T.noPk l) Tip.none]]
         (q51_2 n Post))) →
    AWP Try.prog 45 n c51_4
      [(30,
         AV.agg
         [AV.bfn (67 : FuncId) [AV.ptr 2 0], AV.bfn (68 : FuncId) [AV.ptr 2 0], AV.bfn (69 : FuncId) [AV.ptr 2 0],
         AV.bfn (70 : FuncId) [AV.ptr 2 0], AV.bfn (71 : FuncId) [AV.ptr 2 0]]),
        (31, AV.int IntKind.i64 (0 : Int))]
      (T.HF es root l) (q51_2 n Post) := fun es root l n Post h => Go.Ab.AWP.loop' g51 (Cfg.live g51) c51_4 (by kernel_rfl) (by kernel_rfl) (Go.Ab.kc (by kernel_rfl) h)
theorem v51_4b : ∀ (es : T.Kn) (root : List T.Need) (l : List T.Pk) (n : Nat) (Post : AV → List AObj → Prop),
  needP ((0 : Int) ≤ (1 : Int) ∧ (1 : Int) < (5 : Int))
      (ASpec Try.prog 68 [AV.ptr 2 0]
        [AObj.mp (MM.typed T.EK es), AObj.cells [AV.map 0],
         AObj.cells [AV.ptr 1 0, AV.sl 2 (Seq.map T.encN ([], []) root) Tip.none, AV.sl 2 (Seq.map T.encPk T.noPk l) Tip.none]]
        fun (r : AV) (H' : List AObj) =>
        ∃ (x : ByteArray × Bool),
         r = AV.tup [AV.str (Prod.fst x), AV.bool (Prod.snd x)] ∧
         H' =
         [AObj.mp (MM.typed T.EK es), AObj.cells [AV.map 0],
         AObj.cells [AV.ptr 1 0, AV.sl 2 (Seq.map T.encN ([], []) root) Tip.none, AV.sl 2 (Seq.map T.encPk T.noPk l) Tip.none]] ∧
         condP (Prod.snd x)
         (Post (AV.tup [AV.int IntKind.i64 (2 : Int), AV.str (Prod.fst x)])
         [AObj.mp (MM.typed T.EK es), AObj.cells [AV.map 0],
         AObj.cells [AV.ptr 1 0, AV.sl 2 (Seq.map T.encN ([], []) root) Tip.none, AV.sl 2 (Seq.map T.encPk T.noPk l) Tip.none]])
         (AWP Try.prog 45 n c51_4
         [(30,
         AV.agg
         [AV.bfn (67 : FuncId) [AV.ptr 2 0], AV.bfn (68 : FuncId) [AV.ptr 2 0], AV.bfn (69 : FuncId) [AV.ptr 2 0],
         AV.bfn (70 : FuncId) [AV.ptr 2 0], AV.bfn (71 : FuncId) [AV.ptr 2 0]]),
         (31, AV.int IntKind.i64 (2 : Int))]
         [AObj.mp (MM.typed T.EK es), AObj.cells [AV.map 0],
         AObj.cells [AV.ptr 1 0, AV.sl 2 (Seq.map T.encN ([], []) root) Tip.none, AV.sl 2 (Seq.map T.encPk T.noPk l) Tip.none]]
         (q51_2 n Post))) →
    AWP Try.prog 45 n c51_4
      [(30,
         AV.agg
         [AV.bfn (67 : FuncId) [AV.ptr 2 0], AV.bfn (68 : FuncId) [AV.ptr 2 0], AV.bfn (69 : FuncId) [AV.ptr 2 0],
         AV.bfn (70 : FuncId) [AV.ptr 2 0], AV.bfn (71 : FuncId) [AV.ptr 2 0]]),
        (31, AV.int IntKind.i64 (1 : Int))]
      (T.HF es root l) (q51_2 n Post) := fun es root l n Post h => Go.Ab.AWP.loop' g51 (Cfg.live g51) c51_4 (by kernel_rfl) (by kernel_rfl) (Go.Ab.kc (by kernel_rfl) h)
theorem v51_4c : ∀ (es : T.Kn) (root : List T.Need) (l : List T.Pk) (n : Nat) (Post : AV → List AObj → Prop),
  needP ((0 : Int) ≤ (2 : Int) ∧ (2 : Int) < (5 : Int))
      (ASpec Try.prog 69 [AV.ptr 2 0]
        [AObj.mp (MM.typed T.EK es), AObj.cells [AV.map 0],
         AObj.cells [AV.ptr 1 0, AV.sl 2 (Seq.map T.encN ([], []) root) Tip.none, AV.sl 2 (Seq.map T.encPk T.noPk l) Tip.none]]
        fun (r : AV) (H' : List AObj) =>
        ∃ (x : ByteArray × Bool),
         r = AV.tup [AV.str (Prod.fst x), AV.bool (Prod.snd x)] ∧
         H' =
         [AObj.mp (MM.typed T.EK es), AObj.cells [AV.map 0],
         AObj.cells [AV.ptr 1 0, AV.sl 2 (Seq.map T.encN ([], []) root) Tip.none, AV.sl 2 (Seq.map T.encPk T.noPk l) Tip.none]] ∧
         condP (Prod.snd x)
         (Post (AV.tup [AV.int IntKind.i64 (3 : Int), AV.str (Prod.fst x)])
         [AObj.mp (MM.typed T.EK es), AObj.cells [AV.map 0],
         AObj.cells [AV.ptr 1 0, AV.sl 2 (Seq.map T.encN ([], []) root) Tip.none, AV.sl 2 (Seq.map T.encPk T.noPk l) Tip.none]])
         (AWP Try.prog 45 n c51_4
         [(30,
         AV.agg
         [AV.bfn (67 : FuncId) [AV.ptr 2 0], AV.bfn (68 : FuncId) [AV.ptr 2 0], AV.bfn (69 : FuncId) [AV.ptr 2 0],
         AV.bfn (70 : FuncId) [AV.ptr 2 0], AV.bfn (71 : FuncId) [AV.ptr 2 0]]),
         (31, AV.int IntKind.i64 (3 : Int))]
         [AObj.mp (MM.typed T.EK es), AObj.cells [AV.map 0],
         AObj.cells [AV.ptr 1 0, AV.sl 2 (Seq.map T.encN ([], []) root) Tip.none, AV.sl 2 (Seq.map T.encPk T.noPk l) Tip.none]]
         (q51_2 n Post))) →
    AWP Try.prog 45 n c51_4
      [(30,
         AV.agg
         [AV.bfn (67 : FuncId) [AV.ptr 2 0], AV.bfn (68 : FuncId) [AV.ptr 2 0], AV.bfn (69 : FuncId) [AV.ptr 2 0],
         AV.bfn (70 : FuncId) [AV.ptr 2 0], AV.bfn (71 : FuncId) [AV.ptr 2 0]]),
        (31, AV.int IntKind.i64 (2 : Int))]
      (T.HF es root l) (q51_2 n Post) := fun es root l n Post h => Go.Ab.AWP.loop' g51 (Cfg.live g51) c51_4 (by kernel_rfl) (by kernel_rfl) (Go.Ab.kc (by kernel_rfl) h)
theorem v51_4d : ∀ (es : T.Kn) (root : List T.Need) (l : List T.Pk) (n : Nat) (Post : AV → List AObj → Prop),
  needP ((0 : Int) ≤ (3 : Int) ∧ (3 : Int) < (5 : Int))
      (ASpec Try.prog 70 [AV.ptr 2 0]
        [AObj.mp (MM.typed T.EK es), AObj.cells [AV.map 0],
         AObj.cells [AV.ptr 1 0, AV.sl 2 (Seq.map T.encN ([], []) root) Tip.none, AV.sl 2 (Seq.map T.encPk T.noPk l) Tip.none]]
        fun (r : AV) (H' : List AObj) =>
        ∃ (x : ByteArray × Bool),
         r = AV.tup [AV.str (Prod.fst x), AV.bool (Prod.snd x)] ∧
         H' =
         [AObj.mp (MM.typed T.EK es), AObj.cells [AV.map 0],
         AObj.cells [AV.ptr 1 0, AV.sl 2 (Seq.map T.encN ([], []) root) Tip.none, AV.sl 2 (Seq.map T.encPk T.noPk l) Tip.none]] ∧
         condP (Prod.snd x)
         (Post (AV.tup [AV.int IntKind.i64 (4 : Int), AV.str (Prod.fst x)])
         [AObj.mp (MM.typed T.EK es), AObj.cells [AV.map 0],
         AObj.cells [AV.ptr 1 0, AV.sl 2 (Seq.map T.encN ([], []) root) Tip.none, AV.sl 2 (Seq.map T.encPk T.noPk l) Tip.none]])
         (AWP Try.prog 45 n c51_4
         [(30,
         AV.agg
         [AV.bfn (67 : FuncId) [AV.ptr 2 0], AV.bfn (68 : FuncId) [AV.ptr 2 0], AV.bfn (69 : FuncId) [AV.ptr 2 0],
         AV.bfn (70 : FuncId) [AV.ptr 2 0], AV.bfn (71 : FuncId) [AV.ptr 2 0]]),
         (31, AV.int IntKind.i64 (4 : Int))]
         [AObj.mp (MM.typed T.EK es), AObj.cells [AV.map 0],
         AObj.cells [AV.ptr 1 0, AV.sl 2 (Seq.map T.encN ([], []) root) Tip.none, AV.sl 2 (Seq.map T.encPk T.noPk l) Tip.none]]
         (q51_2 n Post))) →
    AWP Try.prog 45 n c51_4
      [(30,
         AV.agg
         [AV.bfn (67 : FuncId) [AV.ptr 2 0], AV.bfn (68 : FuncId) [AV.ptr 2 0], AV.bfn (69 : FuncId) [AV.ptr 2 0],
         AV.bfn (70 : FuncId) [AV.ptr 2 0], AV.bfn (71 : FuncId) [AV.ptr 2 0]]),
        (31, AV.int IntKind.i64 (3 : Int))]
      (T.HF es root l) (q51_2 n Post) := fun es root l n Post h => Go.Ab.AWP.loop' g51 (Cfg.live g51) c51_4 (by kernel_rfl) (by kernel_rfl) (Go.Ab.kc (by kernel_rfl) h)
theorem v51_4e : ∀ (es : T.Kn) (root : List T.Need) (l : List T.Pk) (n : Nat) (Post : AV → List AObj → Prop),
  needP ((0 : Int) ≤ (4 : Int) ∧ (4 : Int) < (5 : Int))
      (ASpec Try.prog 71 [AV.ptr 2 0]
        [AObj.mp (MM.typed T.EK es), AObj.cells [AV.map 0],
         AObj.cells [AV.ptr 1 0, AV.sl 2 (Seq.map T.encN ([], []) root) Tip.none, AV.sl 2 (Seq.map T.encPk T.noPk l) Tip.none]]
        fun (r : AV) (H' : List AObj) =>
        ∃ (x : ByteArray × Bool),
         r = AV.tup [AV.str (Prod.fst x), AV.bool (Prod.snd x)] ∧
         H' =
         [AObj.mp (MM.typed T.EK es), AObj.cells [AV.map 0],
         AObj.cells [AV.ptr 1 0, AV.sl 2 (Seq.map T.encN ([], []) root) Tip.none, AV.sl 2 (Seq.map T.encPk T.noPk l) Tip.none]] ∧
         condP (Prod.snd x)
         (Post (AV.tup [AV.int IntKind.i64 (5 : Int), AV.str (Prod.fst x)])
         [AObj.mp (MM.typed T.EK es), AObj.cells [AV.map 0],
         AObj.cells [AV.ptr 1 0, AV.sl 2 (Seq.map T.encN ([], []) root) Tip.none, AV.sl 2 (Seq.map T.encPk T.noPk l) Tip.none]])
         (AWP Try.prog 45 n c51_4
         [(30,
         AV.agg
         [AV.bfn (67 : FuncId) [AV.ptr 2 0], AV.bfn (68 : FuncId) [AV.ptr 2 0], AV.bfn (69 : FuncId) [AV.ptr 2 0],
         AV.bfn (70 : FuncId) [AV.ptr 2 0], AV.bfn (71 : FuncId) [AV.ptr 2 0]]),
         (31, AV.int IntKind.i64 (5 : Int))]
         [AObj.mp (MM.typed T.EK es), AObj.cells [AV.map 0],
         AObj.cells [AV.ptr 1 0, AV.sl 2 (Seq.map T.encN ([], []) root) Tip.none, AV.sl 2 (Seq.map T.encPk T.noPk l) Tip.none]]
         (q51_2 n Post))) →
    AWP Try.prog 45 n c51_4
      [(30,
         AV.agg
         [AV.bfn (67 : FuncId) [AV.ptr 2 0], AV.bfn (68 : FuncId) [AV.ptr 2 0], AV.bfn (69 : FuncId) [AV.ptr 2 0],
         AV.bfn (70 : FuncId) [AV.ptr 2 0], AV.bfn (71 : FuncId) [AV.ptr 2 0]]),
        (31, AV.int IntKind.i64 (4 : Int))]
      (T.HF es root l) (q51_2 n Post) := fun es root l n Post h => Go.Ab.AWP.loop' g51 (Cfg.live g51) c51_4 (by kernel_rfl) (by kernel_rfl) (Go.Ab.kc (by kernel_rfl) h)
theorem v51_4f : ∀ (es : T.Kn) (root : List T.Need) (l : List T.Pk) (n : Nat) (Post : AV → List AObj → Prop),
  Post (AV.tup [AV.int IntKind.i64 (0 : Int), AV.str { data := #[] }])
      [AObj.mp (MM.typed T.EK es), AObj.cells [AV.map 0],
        AObj.cells [AV.ptr 1 0, AV.sl 2 (Seq.map T.encN ([], []) root) Tip.none, AV.sl 2 (Seq.map T.encPk T.noPk l) Tip.none]] →
    AWP Try.prog 45 n c51_4
      [(30,
         AV.agg
         [AV.bfn (67 : FuncId) [AV.ptr 2 0], AV.bfn (68 : FuncId) [AV.ptr 2 0], AV.bfn (69 : FuncId) [AV.ptr 2 0],
         AV.bfn (70 : FuncId) [AV.ptr 2 0], AV.bfn (71 : FuncId) [AV.ptr 2 0]]),
        (31, AV.int IntKind.i64 (5 : Int))]
      (T.HF es root l) (q51_2 n Post) := fun es root l n Post h => Go.Ab.AWP.loop' g51 (Cfg.live g51) c51_4 (by kernel_rfl) (by kernel_rfl) (Go.Ab.kc (by kernel_rfl) h)

-- 32
noncomputable def l32 : Nat → List Nat
  | _ => []
noncomputable def u32 : Nat → Bool
  | _ => false
noncomputable def m32 : Nat → Bool
  | _ => false
noncomputable def g32 : Cfg := { N := 18, live := l32, cut := u32, mu := m32, ret := rets }
theorem s32 : ∀ (es : T.Kn) (root : List T.Need) (l : List T.Pk) (Post : AV → List AObj → Prop),
  (ASpec Try.prog 51 [AV.ptr 1 0, AV.sl 2 (Seq.map T.encN ([], []) root) Tip.none, AV.sl 2 (Seq.map T.encPk T.noPk l) Tip.none]
      [AObj.mp (MM.typed T.EK es), AObj.cells [AV.map 0]] fun (r : AV) (H' : List AObj) =>
      ∃ (x : Int × ByteArray),
        r = AV.tup [AV.int IntKind.i64 (Prod.fst x), AV.str (Prod.snd x)] ∧
         H' = [AObj.mp (MM.typed T.EK es), AObj.cells [AV.map 0]] ∧ Post (AV.bool (Prod.fst x == (0 : Int))) [AObj.mp (MM.typed T.EK es), AObj.cells [AV.map 0]]) →
    ASpec Try.prog 32 [AV.ptr 1 0, AV.sl 2 (Seq.map T.encN ([], []) root) Tip.none, AV.sl 2 (Seq.map T.encPk T.noPk l) Tip.none] (T.HX es) Post := fun es root l Post h => Go.Ab.ASpec.of_vc g32 Go.Proofs.Try.func32 (by kernel_rfl) (by kernel_rfl) (by kernel_rfl) (Go.Ab.kc (by kernel_rfl) h)

-- 52
noncomputable def l52 : Nat → List Nat
  | 1 => [1, 2, 3, 4, 12, 13, 14]
  | 5 => [1, 2, 3, 4, 7, 12, 13, 14]
  | _ => []
noncomputable def u52 : Nat → Bool
  | 5 => true
  | _ => false
noncomputable def m52 : Nat → Bool
  | _ => false
noncomputable def g52 : Cfg := { N := 47, live := l52, cut := u52, mu := m52, ret := rets }
noncomputable def c52 : Go.Code := Go.Ab.bodyOf Go.Proofs.Try.f52
noncomputable def q52_0 : Nat → (AV → List AObj → Prop) → AQ := fun (n : Nat) (Post : AV → List AObj → Prop) => endQ Try.prog (resultsOf Try.f52) Post
noncomputable def q52_1 : Nat → (AV → List AObj → Prop) → AQ := fun (n : Nat) (Post : AV → List AObj → Prop) => blockQ 0 (q52_0 n Post)
noncomputable def c52_1 : Go.Code := codeFst (codeSnd c52)
theorem s52 : ∀ (es : T.Kn) (root : List T.Need) (l : List T.Pk) (o : List (List UInt8)) (ns : List T.Need) (Post : AV → List AObj → Prop),
  AWP Try.prog 47 8 c52_1
      [(1, AV.ptr 6 0), (2, AV.ptr 2 0), (3, AV.ptr 4 0), (4, AV.ptr 7 0),
        (12, AV.sl 2 (Seq.map T.encN ([], []) ns) Tip.none), (13, AV.int IntKind.i64 (↑(List.length ns) : Int)), (14, AV.int IntKind.i64 (0 : Int))]
      [AObj.mp (MM.typed T.EK es), AObj.cells [AV.map 0], AObj.cells [AV.sl 2 (Seq.map T.encPk T.noPk l) Tip.none],
        AObj.cells [AV.ptr 1 0, AV.sl 2 (Seq.map T.encN ([], []) root) Tip.none, AV.sl 2 (Seq.map T.encPk T.noPk l) Tip.none], AObj.cells [AV.ptr 3 0],
        AObj.mp (MM.typed T.EB (T.seenM o)), AObj.cells [AV.map 5],
        AObj.cells [AV.fn (52 : FuncId) [AV.ptr 6 0, AV.ptr 2 0, AV.ptr 4 0, AV.ptr 7 0]]]
      (q52_1 8 Post) →
    ASpec Try.prog 52 [AV.sl 2 (Seq.map T.encN ([], []) ns) Tip.none, AV.ptr 6 0, AV.ptr 2 0, AV.ptr 4 0, AV.ptr 7 0]
      (T.HV es root l o) Post := fun es root l o ns Post h => Go.Ab.ASpec.of_vc g52 Go.Proofs.Try.func52 (by kernel_rfl) (by kernel_rfl) (by kernel_rfl) (Go.Ab.kc (by kernel_rfl) h)
noncomputable def q52_2 : Nat → (AV → List AObj → Prop) → AQ := fun (n : Nat) (Post : AV → List AObj → Prop) => loopQ Try.prog 47 n c52_1 (q52_1 n Post) (Cfg.live g52)
noncomputable def q52_3 : Nat → (AV → List AObj → Prop) → AQ := fun (n : Nat) (Post : AV → List AObj → Prop) => seqQ (fun (s' : Slots) (H' : List AObj) => awp Try.prog g52 n (codeSnd (codeSnd (codeSnd (codeFst c52_1)))) s' H' (q52_2 n Post)) (q52_2 n Post)
noncomputable def q52_4 : Nat → (AV → List AObj → Prop) → AQ := fun (n : Nat) (Post : AV → List AObj → Prop) => blockQ 1 (q52_3 n Post)
noncomputable def c52_5 : Go.Code := codeSnd (codeSnd (codeSnd (codeFst (codeFst (codeSnd (codeSnd (codeFst c52_1)))))))
theorem v52_1 : ∀ (es : T.Kn) (root : List T.Need) (l : List T.Pk) (o : List (List UInt8)) (ns : List T.Need) (n i : Int) (n_1 : Nat) (Post : AV → List AObj → Prop),
  condP (decide (i < n))
      (needP ((0 : Int) ≤ i ∧ i < (↑(List.length ns) : Int))
        (optionP (findM (T.seenM o) { data := List.toArray (Prod.fst (List.getD ns (Int.toNat i) ([], []))) })
         (fun (x : Bool) =>
         condP x
         (AWP Try.prog 47 n_1 c52_1
         [(1, AV.ptr 6 0), (2, AV.ptr 2 0), (3, AV.ptr 4 0), (4, AV.ptr 7 0),
         (12, AV.sl 2 (Seq.map T.encN ([], []) ns) Tip.none), (13, AV.int IntKind.i64 n), (14, AV.int IntKind.i64 (IntKind.wrap IntKind.i64 (i + (1 : Int))))]
         [AObj.mp (MM.typed T.EK es), AObj.cells [AV.map 0], AObj.cells [AV.sl 2 (Seq.map T.encPk T.noPk l) Tip.none],
         AObj.cells [AV.ptr 1 0, AV.sl 2 (Seq.map T.encN ([], []) root) Tip.none, AV.sl 2 (Seq.map T.encPk T.noPk l) Tip.none],
         AObj.cells [AV.ptr 3 0], AObj.mp (MM.typed T.EB (T.seenM o)), AObj.cells [AV.map 5],
         AObj.cells [AV.fn (52 : FuncId) [AV.ptr 6 0, AV.ptr 2 0, AV.ptr 4 0, AV.ptr 7 0]],
         AObj.cells
         [AV.str { data := List.toArray (Prod.fst (List.getD ns (Int.toNat i) ([], []))) },
         AV.sl 2 (Seq.map T.encS ((0 : Int), (0 : Int)) (Prod.snd (List.getD ns (Int.toNat i) ([], [])))) Tip.none]]
         (q52_1 n_1 Post))
         (AWP Try.prog 47 n_1 c52_5
         [(1, AV.ptr 6 0), (2, AV.ptr 2 0), (3, AV.ptr 4 0), (4, AV.ptr 7 0),
         (7, AV.ptr 8 0), (12, AV.sl 2 (Seq.map T.encN ([], []) ns) Tip.none), (13, AV.int IntKind.i64 n), (14, AV.int IntKind.i64 i)]
         [AObj.mp (MM.typed T.EK es), AObj.cells [AV.map 0], AObj.cells [AV.sl 2 (Seq.map T.encPk T.noPk l) Tip.none],
         AObj.cells [AV.ptr 1 0, AV.sl 2 (Seq.map T.encN ([], []) root) Tip.none, AV.sl 2 (Seq.map T.encPk T.noPk l) Tip.none],
         AObj.cells [AV.ptr 3 0], AObj.mp (MM.put (MM.typed T.EB (T.seenM o)) { data := List.toArray (Prod.fst (List.getD ns (Int.toNat i) ([], []))) } (AV.bool true)),
         AObj.cells [AV.map 5], AObj.cells [AV.fn (52 : FuncId) [AV.ptr 6 0, AV.ptr 2 0, AV.ptr 4 0, AV.ptr 7 0]],
         AObj.cells
         [AV.str { data := List.toArray (Prod.fst (List.getD ns (Int.toNat i) ([], []))) },
         AV.sl 2 (Seq.map T.encS ((0 : Int), (0 : Int)) (Prod.snd (List.getD ns (Int.toNat i) ([], [])))) Tip.none]]
         (q52_4 n_1 Post)))
         (AWP Try.prog 47 n_1 c52_5
         [(1, AV.ptr 6 0), (2, AV.ptr 2 0), (3, AV.ptr 4 0), (4, AV.ptr 7 0),
         (7, AV.ptr 8 0), (12, AV.sl 2 (Seq.map T.encN ([], []) ns) Tip.none), (13, AV.int IntKind.i64 n), (14, AV.int IntKind.i64 i)]
         [AObj.mp (MM.typed T.EK es), AObj.cells [AV.map 0], AObj.cells [AV.sl 2 (Seq.map T.encPk T.noPk l) Tip.none],
         AObj.cells [AV.ptr 1 0, AV.sl 2 (Seq.map T.encN ([], []) root) Tip.none, AV.sl 2 (Seq.map T.encPk T.noPk l) Tip.none],
         AObj.cells [AV.ptr 3 0], AObj.mp (MM.put (MM.typed T.EB (T.seenM o)) { data := List.toArray (Prod.fst (List.getD ns (Int.toNat i) ([], []))) } (AV.bool true)),
         AObj.cells [AV.map 5], AObj.cells [AV.fn (52 : FuncId) [AV.ptr 6 0, AV.ptr 2 0, AV.ptr 4 0, AV.ptr 7 0]],
         AObj.cells
         [AV.str { data := List.toArray (Prod.fst (List.getD ns (Int.toNat i) ([], []))) },
         AV.sl 2 (Seq.map T.encS ((0 : Int), (0 : Int)) (Prod.snd (List.getD ns (Int.toNat i) ([], [])))) Tip.none]]
         (q52_4 n_1 Post))))
      (Post (AV.tup [])
        [AObj.mp (MM.typed T.EK es), AObj.cells [AV.map 0], AObj.cells [AV.sl 2 (Seq.map T.encPk T.noPk l) Tip.none],
         AObj.cells [AV.ptr 1 0, AV.sl 2 (Seq.map T.encN ([], []) root) Tip.none, AV.sl 2 (Seq.map T.encPk T.noPk l) Tip.none],
         AObj.cells [AV.ptr 3 0], AObj.mp (MM.typed T.EB (T.seenM o)), AObj.cells [AV.map 5],
         AObj.cells [AV.fn (52 : FuncId) [AV.ptr 6 0, AV.ptr 2 0, AV.ptr 4 0, AV.ptr 7 0]]]) →
    AWP Try.prog 47 n_1 c52_1
      [(1, AV.ptr 6 0), (2, AV.ptr 2 0), (3, AV.ptr 4 0), (4, AV.ptr 7 0),
        (12, AV.sl 2 (Seq.map T.encN ([], []) ns) Tip.none), (13, AV.int IntKind.i64 n), (14, AV.int IntKind.i64 i)]
      (T.HV es root l o) (q52_1 n_1 Post) := fun es root l o ns n i n Post h => Go.Ab.AWP.loop' g52 (Cfg.live g52) c52_1 (by kernel_rfl) (by kernel_rfl) (Go.Ab.kc (by kernel_rfl) h)
theorem v52_5 : ∀ (es : T.Kn) (root : List T.Need) (l : List T.Pk) (o : List (List UInt8)) (ns : List T.Need) (x : T.Need) (n i : Int) (n_1 : Nat) (Post : AV → List AObj → Prop),
  (ASpec Try.prog 53 [AV.sl 2 (Seq.map T.encPk T.noPk l) Tip.none, AV.str { data := List.toArray (Prod.fst x) }]
      [AObj.mp (MM.typed T.EK es), AObj.cells [AV.map 0], AObj.cells [AV.sl 2 (Seq.map T.encPk T.noPk l) Tip.none],
        AObj.cells [AV.ptr 1 0, AV.sl 2 (Seq.map T.encN ([], []) root) Tip.none, AV.sl 2 (Seq.map T.encPk T.noPk l) Tip.none], AObj.cells [AV.ptr 3 0],
        AObj.mp (MM.typed T.EB (T.seenM o)), AObj.cells [AV.map 5],
        AObj.cells [AV.fn (52 : FuncId) [AV.ptr 6 0, AV.ptr 2 0, AV.ptr 4 0, AV.ptr 7 0]],
        AObj.cells [AV.str { data := List.toArray (Prod.fst x) }, AV.sl 2 (Seq.map T.encS ((0 : Int), (0 : Int)) (Prod.snd x)) Tip.none]]
      fun (r : AV) (H' : List AObj) =>
      ∃ (x_1 : Int × Bool),
        r = AV.tup [AV.int IntKind.i64 (Prod.fst x_1), AV.bool (Prod.snd x_1)] ∧
         H' =
         [AObj.mp (MM.typed T.EK es), AObj.cells [AV.map 0], AObj.cells [AV.sl 2 (Seq.map T.encPk T.noPk l) Tip.none],
         AObj.cells [AV.ptr 1 0, AV.sl 2 (Seq.map T.encN ([], []) root) Tip.none, AV.sl 2 (Seq.map T.encPk T.noPk l) Tip.none],
         AObj.cells [AV.ptr 3 0], AObj.mp (MM.typed T.EB (T.seenM o)), AObj.cells [AV.map 5],
         AObj.cells [AV.fn (52 : FuncId) [AV.ptr 6 0, AV.ptr 2 0, AV.ptr 4 0, AV.ptr 7 0]],
         AObj.cells [AV.str { data := List.toArray (Prod.fst x) }, AV.sl 2 (Seq.map T.encS ((0 : Int), (0 : Int)) (Prod.snd x)) Tip.none]] ∧
         condP (Prod.snd x_1)
         (ASpec Try.prog 54 [AV.ptr 3 0, AV.agg [AV.str { data := List.toArray (Prod.fst x) }, AV.int IntKind.i64 (Prod.fst x_1)]]
         [AObj.mp (MM.typed T.EK es), AObj.cells [AV.map 0], AObj.cells [AV.sl 2 (Seq.map T.encPk T.noPk l) Tip.none],
         AObj.cells [AV.ptr 1 0, AV.sl 2 (Seq.map T.encN ([], []) root) Tip.none, AV.sl 2 (Seq.map T.encPk T.noPk l) Tip.none],
         AObj.cells [AV.ptr 3 0], AObj.mp (MM.typed T.EB (T.seenM o)), AObj.cells [AV.map 5],
         AObj.cells [AV.fn (52 : FuncId) [AV.ptr 6 0, AV.ptr 2 0, AV.ptr 4 0, AV.ptr 7 0]],
         AObj.cells [AV.str { data := List.toArray (Prod.fst x) }, AV.sl 2 (Seq.map T.encS ((0 : Int), (0 : Int)) (Prod.snd x)) Tip.none]]
         fun (r : AV) (H' : List AObj) =>
         ∃ (x_2 : T.Rel × Bool),
         r = AV.tup [AV.agg [AV.int IntKind.i64 (Prod.fst (Prod.fst x_2)), AV.sl 2 (Seq.map T.encN ([], []) (Prod.snd (Prod.fst x_2))) Tip.none], AV.bool (Prod.snd x_2)] ∧
         H' =
         [AObj.mp (MM.typed T.EK es), AObj.cells [AV.map 0], AObj.cells [AV.sl 2 (Seq.map T.encPk T.noPk l) Tip.none],
         AObj.cells [AV.ptr 1 0, AV.sl 2 (Seq.map T.encN ([], []) root) Tip.none, AV.sl 2 (Seq.map T.encPk T.noPk l) Tip.none],
         AObj.cells [AV.ptr 3 0], AObj.mp (MM.typed T.EB (T.seenM o)), AObj.cells [AV.map 5],
         AObj.cells [AV.fn (52 : FuncId) [AV.ptr 6 0, AV.ptr 2 0, AV.ptr 4 0, AV.ptr 7 0]],
         AObj.cells [AV.str { data := List.toArray (Prod.fst x) }, AV.sl 2 (Seq.map T.encS ((0 : Int), (0 : Int)) (Prod.snd x)) Tip.none]] ∧
         ASpec Try.prog 52
         [AV.sl 2 (Seq.map T.encN ([], []) (Prod.snd (Prod.fst x_2))) Tip.none, AV.ptr 6 0, AV.ptr 2 0, AV.ptr 4 0,
         AV.ptr 7 0]
         [AObj.mp (MM.typed T.EK es), AObj.cells [AV.map 0], AObj.cells [AV.sl 2 (Seq.map T.encPk T.noPk l) Tip.none],
         AObj.cells [AV.ptr 1 0, AV.sl 2 (Seq.map T.encN ([], []) root) Tip.none, AV.sl 2 (Seq.map T.encPk T.noPk l) Tip.none],
         AObj.cells [AV.ptr 3 0], AObj.mp (MM.typed T.EB (T.seenM o)), AObj.cells [AV.map 5],
         AObj.cells [AV.fn (52 : FuncId) [AV.ptr 6 0, AV.ptr 2 0, AV.ptr 4 0, AV.ptr 7 0]],
         AObj.cells [AV.str { data := List.toArray (Prod.fst x) }, AV.sl 2 (Seq.map T.encS ((0 : Int), (0 : Int)) (Prod.snd x)) Tip.none],
         AObj.cells [AV.int IntKind.i64 (Prod.fst (Prod.fst x_2)), AV.sl 2 (Seq.map T.encN ([], []) (Prod.snd (Prod.fst x_2))) Tip.none]]
         fun (r : AV) (H' : List AObj) =>
         ∃ (x_3 : List (List UInt8)),
         r = AV.tup [] ∧
         H' =
         [AObj.mp (MM.typed T.EK es), AObj.cells [AV.map 0], AObj.cells [AV.sl 2 (Seq.map T.encPk T.noPk l) Tip.none],
         AObj.cells [AV.ptr 1 0, AV.sl 2 (Seq.map T.encN ([], []) root) Tip.none, AV.sl 2 (Seq.map T.encPk T.noPk l) Tip.none],
         AObj.cells [AV.ptr 3 0], AObj.mp (MM.typed T.EB (T.seenM x_3)), AObj.cells [AV.map 5],
         AObj.cells [AV.fn (52 : FuncId) [AV.ptr 6 0, AV.ptr 2 0, AV.ptr 4 0, AV.ptr 7 0]],
         AObj.cells [AV.str { data := List.toArray (Prod.fst x) }, AV.sl 2 (Seq.map T.encS ((0 : Int), (0 : Int)) (Prod.snd x)) Tip.none],
         AObj.cells [AV.int IntKind.i64 (Prod.fst (Prod.fst x_2)), AV.sl 2 (Seq.map T.encN ([], []) (Prod.snd (Prod.fst x_2))) Tip.none]] ∧
         AWP Try.prog 47 n_1 c52_1
         [(1, AV.ptr 6 0), (2, AV.ptr 2 0), (3, AV.ptr 4 0), (4, AV.ptr 7 0),
         (12, AV.sl 2 (Seq.map T.encN ([], []) ns) Tip.none), (13, AV.int IntKind.i64 n),
         (14, AV.int IntKind.i64 (IntKind.wrap IntKind.i64 (i + (1 : Int))))]
         [AObj.mp (MM.typed T.EK es), AObj.cells [AV.map 0], AObj.cells [AV.sl 2 (Seq.map T.encPk T.noPk l) Tip.none],
         AObj.cells [AV.ptr 1 0, AV.sl 2 (Seq.map T.encN ([], []) root) Tip.none, AV.sl 2 (Seq.map T.encPk T.noPk l) Tip.none],
         AObj.cells [AV.ptr 3 0], AObj.mp (MM.typed T.EB (T.seenM x_3)), AObj.cells [AV.map 5],
         AObj.cells [AV.fn (52 : FuncId) [AV.ptr 6 0, AV.ptr 2 0, AV.ptr 4 0, AV.ptr 7 0]],
         AObj.cells [AV.str { data := List.toArray (Prod.fst x) }, AV.sl 2 (Seq.map T.encS ((0 : Int), (0 : Int)) (Prod.snd x)) Tip.none],
         AObj.cells [AV.int IntKind.i64 (Prod.fst (Prod.fst x_2)), AV.sl 2 (Seq.map T.encN ([], []) (Prod.snd (Prod.fst x_2))) Tip.none]]
         (q52_1 n_1 Post))
         (AWP Try.prog 47 n_1 c52_1
         [(1, AV.ptr 6 0), (2, AV.ptr 2 0), (3, AV.ptr 4 0), (4, AV.ptr 7 0),
         (12, AV.sl 2 (Seq.map T.encN ([], []) ns) Tip.none), (13, AV.int IntKind.i64 n), (14, AV.int IntKind.i64 (IntKind.wrap IntKind.i64 (i + (1 : Int))))]
         [AObj.mp (MM.typed T.EK es), AObj.cells [AV.map 0], AObj.cells [AV.sl 2 (Seq.map T.encPk T.noPk l) Tip.none],
         AObj.cells [AV.ptr 1 0, AV.sl 2 (Seq.map T.encN ([], []) root) Tip.none, AV.sl 2 (Seq.map T.encPk T.noPk l) Tip.none],
         AObj.cells [AV.ptr 3 0], AObj.mp (MM.typed T.EB (T.seenM o)), AObj.cells [AV.map 5],
         AObj.cells [AV.fn (52 : FuncId) [AV.ptr 6 0, AV.ptr 2 0, AV.ptr 4 0, AV.ptr 7 0]],
         AObj.cells [AV.str { data := List.toArray (Prod.fst x) }, AV.sl 2 (Seq.map T.encS ((0 : Int), (0 : Int)) (Prod.snd x)) Tip.none]]
         (q52_1 n_1 Post))) →
    AWP Try.prog 47 n_1 c52_5
      [(1, AV.ptr 6 0), (2, AV.ptr 2 0), (3, AV.ptr 4 0), (4, AV.ptr 7 0),
        (7, AV.ptr 8 0), (12, AV.sl 2 (Seq.map T.encN ([], []) ns) Tip.none), (13, AV.int IntKind.i64 n), (14, AV.int IntKind.i64 i)]
      (T.HV es root l o ++ [AObj.cells (T.encN x)]) (q52_4 n_1 Post) := fun es root l o ns x n i n Post h => Go.Ab.awp_sound g52 n _ _ _ _ (Go.Ab.kc (by kernel_rfl) h)

-- 33
noncomputable def l33 : Nat → List Nat
  | 6 => [8]
  | 8 => [10, 23]
  | 11 => [10]
  | _ => []
noncomputable def u33 : Nat → Bool
  | 6 => true
  | 11 => true
  | _ => false
noncomputable def m33 : Nat → Bool
  | 31 => true
  | _ => false
noncomputable def g33 : Cfg := { N := 35, live := l33, cut := u33, mu := m33, ret := rets }
noncomputable def c33 : Go.Code := Go.Ab.bodyOf Go.Proofs.Try.f33
noncomputable def q33_0 : Nat → (AV → List AObj → Prop) → AQ := fun (n : Nat) (Post : AV → List AObj → Prop) => endQ Try.prog (resultsOf Try.f33) Post
noncomputable def c33_6 : Go.Code := codeSnd (codeSnd (codeSnd (codeSnd (codeSnd (codeSnd c33)))))
theorem s33 : ∀ (es : T.Kn) (root : List T.Need) (l : List T.Pk) (Post : AV → List AObj → Prop),
  (ASpec Try.prog 52 [AV.sl 2 (Seq.map T.encN ([], []) root) Tip.none, AV.ptr 6 0, AV.ptr 2 0, AV.ptr 4 0, AV.ptr 7 0]
      [AObj.mp (MM.typed T.EK es), AObj.cells [AV.map 0], AObj.cells [AV.sl 2 (Seq.map T.encPk T.noPk l) Tip.none],
        AObj.cells [AV.ptr 1 0, AV.sl 2 (Seq.map T.encN ([], []) root) Tip.none, AV.sl 2 (Seq.map T.encPk T.noPk l) Tip.none], AObj.cells [AV.ptr 3 0],
        AObj.mp MM.nil, AObj.cells [AV.map 5], AObj.cells [AV.fn 52 [AV.ptr 6 0, AV.ptr 2 0, AV.ptr 4 0, AV.ptr 7 0]]]
      fun (r : AV) (H' : List AObj) =>
      ∃ (x : List (List UInt8)),
        r = AV.tup [] ∧
         H' =
         [AObj.mp (MM.typed T.EK es), AObj.cells [AV.map 0], AObj.cells [AV.sl 2 (Seq.map T.encPk T.noPk l) Tip.none],
         AObj.cells [AV.ptr 1 0, AV.sl 2 (Seq.map T.encN ([], []) root) Tip.none, AV.sl 2 (Seq.map T.encPk T.noPk l) Tip.none],
         AObj.cells [AV.ptr 3 0], AObj.mp (MM.typed T.EB (T.seenM x)), AObj.cells [AV.map 5],
         AObj.cells [AV.fn 52 [AV.ptr 6 0, AV.ptr 2 0, AV.ptr 4 0, AV.ptr 7 0]]] ∧
         AWP Try.prog 35 2 c33_6 [(8, AV.ptr 6 0)]
         [AObj.mp (MM.typed T.EK es), AObj.cells [AV.map 0], AObj.cells [AV.sl 2 (Seq.map T.encPk T.noPk l) Tip.none],
         AObj.cells [AV.ptr 1 0, AV.sl 2 (Seq.map T.encN ([], []) root) Tip.none, AV.sl 2 (Seq.map T.encPk T.noPk l) Tip.none],
         AObj.cells [AV.ptr 3 0], AObj.mp (MM.typed T.EB (T.seenM x)), AObj.cells [AV.map 5],
         AObj.cells [AV.fn 52 [AV.ptr 6 0, AV.ptr 2 0, AV.ptr 4 0, AV.ptr 7 0]]]
         (q33_0 2 Post)) →
    ASpec Try.prog 33 [AV.ptr 1 0, AV.sl 2 (Seq.map T.encN ([], []) root) Tip.none, AV.sl 2 (Seq.map T.encPk T.noPk l) Tip.none] (T.HX es) Post := fun es root l Post h => Go.Ab.ASpec.of_vc g33 Go.Proofs.Try.func33 (by kernel_rfl) (by kernel_rfl) (by kernel_rfl) (Go.Ab.kc (by kernel_rfl) h)
noncomputable def c33_11 : Go.Code := codeSnd (codeSnd c33_6)
noncomputable def q33_1 : Nat → (AV → List AObj → Prop) → AQ := fun (n : Nat) (Post : AV → List AObj → Prop) => seqQ (fun (s' : Slots) (H' : List AObj) => AWP Try.prog (Cfg.N g33) n c33_11 (restrict s' (Cfg.live g33 11)) H' (q33_0 n Post)) (q33_0 n Post)
noncomputable def q33_2 : Nat → (AV → List AObj → Prop) → AQ := fun (n : Nat) (Post : AV → List AObj → Prop) => blockQ 0 (q33_1 n Post)
noncomputable def c33_8 : Go.Code := codeFst (codeSnd (codeFst (codeSnd c33_6)))
theorem v33_6 : ∀ (es : T.Kn) (o : List (List UInt8)) (n : Nat) (Post : AV → List AObj → Prop),
  (∀ (z : List Nat × Nat),
      List.Nodup (Prod.fst z) ∧ List.length (Prod.fst z) = MM.len (MM.typed T.EB (T.seenM o)) →
        AWP Try.prog 35 n c33_8 [(10, AV.sl 0 (Seq.raw []) Tip.nil), (23, AV.ptr 4 0)]
         [AObj.mp (MM.typed T.EK es), AObj.cells [AV.map 0], AObj.mpv (MM.typed T.EB (T.seenM o)) z, AObj.cells [AV.map 2], AObj.mit 2 z []] (q33_2 n Post)) →
    AWP Try.prog 35 n c33_6 [(8, AV.ptr 3 0)] (T.HX es ++ [AObj.mp (MM.typed T.EB (T.seenM o)), AObj.cells [AV.map 2]]) (q33_0 n Post) := fun es o n Post h => Go.Ab.awp_sound g33 n _ _ _ _ (Go.Ab.kc (by kernel_rfl) h)
theorem v33_8n : ∀ (es : T.Kn) (o : List (List UInt8)) (z : List Nat × Nat) (ps : List Nat) (n : Nat) (Post : AV → List AObj → Prop),
  needP (z = z)
      (((∀ (i : Nat), i < MM.len (MM.typed T.EB (T.seenM o)) → i ∈ ps) →
         AWP Try.prog 35 n c33_11 [(10, AV.sl 0 (Seq.raw []) Tip.nil)]
         [AObj.mp (MM.typed T.EK es), AObj.cells [AV.map 0], AObj.mpv (MM.typed T.EB (T.seenM o)) z, AObj.cells [AV.map 2], AObj.mit 2 z ps] (q33_0 n Post)) ∧
        ∀ (i : Nat),
         i < MM.len (MM.typed T.EB (T.seenM o)) →
         (i ∈ ps → False) →
         ∀ (k : ByteArray) (v : Bool),
         (T.seenM o)[i]? = some (k, v) →
         needP (z = z ∧ i < MM.len (MM.typed T.EB (T.seenM o)))
         (∀ (k : ByteArray) (v : Bool),
         (T.seenM o)[i]? = some (k, v) →
         needP (16 ≤ 140737488351232)
         (needP (1 ≤ 1)
         (AWP Try.prog 35 n c33_8 [(10, AV.msl 1 5 0 1), (23, AV.ptr 4 0)]
         [AObj.mp (MM.typed T.EK es), AObj.cells [AV.map 0], AObj.mpv (MM.typed T.EB (T.seenM o)) z, AObj.cells [AV.map 2], AObj.mit 2 z (i :: ps),
         AObj.arr 1 (Seq.raw [[AV.str k]])]
         (q33_2 n Post))))) →
    AWP Try.prog 35 n c33_8 [(10, AV.sl 0 (Seq.raw []) Tip.nil), (23, AV.ptr 4 0)]
      (T.HX es ++ [AObj.mpv (MM.typed T.EB (T.seenM o)) z, AObj.cells [AV.map 2], AObj.mit 2 z ps]) (q33_2 n Post) := fun es o z ps n Post h => Go.Ab.AWP.loop' g33 (Cfg.live g33) c33_8 (by kernel_rfl) (by kernel_rfl) (Go.Ab.kc (by kernel_rfl) h)
theorem v33_8m : ∀ (es : T.Kn) (o : List (List UInt8)) (z : List Nat × Nat) (ps : List Nat) (w : List (List UInt8)) (n : Nat) (Post : AV → List AObj → Prop),
  needP (z = z)
      (((∀ (i : Nat), i < MM.len (MM.typed T.EB (T.seenM o)) → i ∈ ps) →
         AWP Try.prog 35 n c33_11 [(10, AV.msl 1 5 0 (List.length w))]
         [AObj.mp (MM.typed T.EK es), AObj.cells [AV.map 0], AObj.mpv (MM.typed T.EB (T.seenM o)) z, AObj.cells [AV.map 2], AObj.mit 2 z ps,
         AObj.arr 1 (Seq.map T.encL [] w)]
         (q33_0 n Post)) ∧
        ∀ (i : Nat),
         i < MM.len (MM.typed T.EB (T.seenM o)) →
         (i ∈ ps → False) →
         ∀ (k : ByteArray) (v : Bool),
         (T.seenM o)[i]? = some (k, v) →
         needP (z = z ∧ i < MM.len (MM.typed T.EB (T.seenM o)))
         (∀ (k : ByteArray) (v : Bool),
         (T.seenM o)[i]? = some (k, v) →
         needP (List.length w = List.length w ∧ (List.length w + 1) * 16 ≤ 140737488351232)
         (AWP Try.prog 35 n c33_8 [(10, AV.msl 1 6 0 (List.length w + 1)), (23, AV.ptr 4 0)]
         [AObj.mp (MM.typed T.EK es), AObj.cells [AV.map 0], AObj.mpv (MM.typed T.EB (T.seenM o)) z, AObj.cells [AV.map 2], AObj.mit 2 z (i :: ps),
         AObj.gone, AObj.arr 1 (Seq.app (Seq.map T.encL [] w) (Seq.raw [[AV.str k]]))]
         (q33_2 n Post)))) →
    AWP Try.prog 35 n c33_8 [(10, AV.msl 1 5 0 (List.length w)), (23, AV.ptr 4 0)]
      (T.HX es ++ [AObj.mpv (MM.typed T.EB (T.seenM o)) z, AObj.cells [AV.map 2], AObj.mit 2 z ps, AObj.arr 1 (Seq.map T.encL [] w)]) (q33_2 n Post) := fun es o z ps w n Post h => Go.Ab.AWP.loop' g33 (Cfg.live g33) c33_8 (by kernel_rfl) (by kernel_rfl) (Go.Ab.kc (by kernel_rfl) h)
theorem v33_11n : ∀ (es : T.Kn) (n : Nat) (Post : AV → List AObj → Prop),
  (ASpec Try.prog 43 [AV.sl 0 (Seq.raw []) Tip.nil] [AObj.mp (MM.typed T.EK es), AObj.cells [AV.map 0]] fun (r : AV) (H' : List AObj) =>
      (∃ (x : Unit),
         r = AV.tup [] ∧ H' = [AObj.mp (MM.typed T.EK es), AObj.cells [AV.map 0]] ∧ Post (AV.sl 0 (Seq.raw []) Tip.nil) [AObj.mp (MM.typed T.EK es), AObj.cells [AV.map 0]]) ∨
        ∃ (x : List (List UInt8)),
         r = AV.tup [] ∧ H' = [AObj.mp (MM.typed T.EK es), AObj.cells [AV.map 0]] ∧ Post (AV.sl 0 (Seq.raw []) Tip.nil) [AObj.mp (MM.typed T.EK es), AObj.cells [AV.map 0]]) →
    AWP Try.prog 35 n c33_11 [(10, AV.sl 0 (Seq.raw []) Tip.nil)] (T.HX es) (q33_0 n Post) := fun es n Post h => Go.Ab.awp_sound g33 n _ _ _ _ (Go.Ab.kc (by kernel_rfl) h)
theorem v33_11m : ∀ (es : T.Kn) (w : List (List UInt8)) (n : Nat) (Post : AV → List AObj → Prop),
  (ASpec Try.prog 43 [AV.msl 1 2 0 (List.length w)] [AObj.mp (MM.typed T.EK es), AObj.cells [AV.map 0], AObj.arr 1 (Seq.map T.encL [] w)]
      fun (r : AV) (H' : List AObj) =>
      (∃ (x : Unit),
         r = AV.tup [] ∧
         H' = [AObj.mp (MM.typed T.EK es), AObj.cells [AV.map 0], AObj.arr 1 (Seq.map T.encL [] w)] ∧
         Post (AV.msl 1 2 0 (List.length w)) [AObj.mp (MM.typed T.EK es), AObj.cells [AV.map 0], AObj.arr 1 (Seq.map T.encL [] w)]) ∨
        ∃ (x : List (List UInt8)),
         r = AV.tup [] ∧
         H' = [AObj.mp (MM.typed T.EK es), AObj.cells [AV.map 0], AObj.arr 1 (Seq.map T.encL [] x)] ∧
         Post (AV.msl 1 2 0 (List.length w)) [AObj.mp (MM.typed T.EK es), AObj.cells [AV.map 0], AObj.arr 1 (Seq.map T.encL [] x)]) →
    AWP Try.prog 35 n c33_11 [(10, AV.msl 1 2 0 (List.length w))] (T.HX es ++ [AObj.arr 1 (Seq.map T.encL [] w)]) (q33_0 n Post) := fun es w n Post h => Go.Ab.awp_sound g33 n _ _ _ _ (Go.Ab.kc (by kernel_rfl) h)

-- 31
noncomputable def l31 : Nat → List Nat
  | _ => []
noncomputable def u31 : Nat → Bool
  | _ => false
noncomputable def m31 : Nat → Bool
  | 8 => true
  | 9 => true
  | _ => false
noncomputable def g31 : Cfg := { N := 38, live := l31, cut := u31, mu := m31, ret := rets }
theorem s31 : ∀ (Post : AV → List AObj → Prop),
  (ASpec Try.prog 37 [] [] fun (r : AV) (H' : List AObj) =>
      ∃ (x : Unit),
        r = AV.ptr 1 0 ∧
         H' = [AObj.mp (MM.typed T.EK []), AObj.cells [AV.map 0]] ∧
         ASpec Try.prog 20
         [AV.ptr 1 0, AV.str { data := #[(97 : UInt8)] },
         AV.sl 1 (Seq.raw [[AV.int IntKind.u8 (1 : Int)], [AV.int IntKind.u8 (97 : Int)], [AV.int IntKind.u8 (1 : Int)], [AV.int IntKind.u8 (5 : Int)], [AV.int IntKind.u8 (0 : Int)]])
         Tip.none]
         [AObj.mp (MM.typed T.EK []), AObj.cells [AV.map 0], AObj.gone] fun (r : AV) (H' : List AObj) =>
         ∃ (x : Int × T.Kn),
         r = AV.int IntKind.i64 (Prod.fst x) ∧
         H' = [AObj.mp (MM.typed T.EK (Prod.snd x)), AObj.cells [AV.map 0], AObj.gone] ∧
         ASpec Try.prog 51
         [AV.ptr 1 0,
         AV.sl 2 (Seq.raw [[AV.str { data := #[(97 : UInt8)] }, AV.sl 2 (Seq.raw [[AV.int IntKind.i64 (0 : Int), AV.int IntKind.i64 (9 : Int)]]) Tip.full]]) Tip.full,
         AV.sl 0 (Seq.raw []) Tip.nil]
         [AObj.mp (MM.typed T.EK (Prod.snd x)), AObj.cells [AV.map 0], AObj.gone] fun (r : AV) (H' : List AObj) =>
         ∃ (x_1 : Int × ByteArray),
         r = AV.tup [AV.int IntKind.i64 (Prod.fst x_1), AV.str (Prod.snd x_1)] ∧
         H' = [AObj.mp (MM.typed T.EK (Prod.snd x)), AObj.cells [AV.map 0], AObj.gone] ∧
         condP (Prod.fst x == (0 : Int))
         (ASpec Try.prog 32
         [AV.ptr 1 0,
         AV.sl 2 (Seq.raw [[AV.str { data := #[(97 : UInt8)] }, AV.sl 2 (Seq.raw [[AV.int IntKind.i64 (0 : Int), AV.int IntKind.i64 (9 : Int)]]) Tip.full]])
         Tip.full,
         AV.sl 2 (Seq.raw [[AV.str { data := #[(97 : UInt8)] }, AV.int IntKind.i64 (5 : Int)]]) Tip.full]
         [AObj.mp (MM.typed T.EK (Prod.snd x)), AObj.cells [AV.map 0], AObj.gone] fun (r : AV) (H' : List AObj) =>
         ∃ (x_2 : Bool),
         r = AV.bool x_2 ∧
         H' = [AObj.mp (MM.typed T.EK (Prod.snd x)), AObj.cells [AV.map 0], AObj.gone] ∧
         condP x_2
         (condP (Prod.fst x_1 == (2 : Int))
         (Post (AV.bool (ByteArray.toList (Prod.snd x_1) == ByteArray.toList { data := #[(97 : UInt8)] }))
         [AObj.mp (MM.typed T.EK (Prod.snd x)), AObj.cells [AV.map 0], AObj.gone])
         (Post (AV.bool false) [AObj.mp (MM.typed T.EK (Prod.snd x)), AObj.cells [AV.map 0], AObj.gone]))
         (Post (AV.bool false) [AObj.mp (MM.typed T.EK (Prod.snd x)), AObj.cells [AV.map 0], AObj.gone]))
         (Post (AV.bool false) [AObj.mp (MM.typed T.EK (Prod.snd x)), AObj.cells [AV.map 0], AObj.gone])) →
    ASpec Try.prog 31 [] [] Post := fun Post h => Go.Ab.ASpec.of_vc g31 Go.Proofs.Try.func31 (by kernel_rfl) (by kernel_rfl) (by kernel_rfl) (Go.Ab.kc (by kernel_rfl) h)

-- 7
noncomputable def l7 : Nat → List Nat
  | 4 => [1, 5, 7]
  | 6 => [1, 5, 7]
  | 8 => [1, 5, 7, 8, 9]
  | 11 => [5, 7, 8]
  | 13 => [5, 7, 8]
  | 14 => [5, 7, 8, 10]
  | _ => []
noncomputable def u7 : Nat → Bool
  | 4 => true
  | 6 => true
  | 11 => true
  | 13 => true
  | _ => false
noncomputable def m7 : Nat → Bool
  | _ => false
noncomputable def g7 : Cfg := { N := 117, live := l7, cut := u7, mu := m7, ret := rets }
noncomputable def c7 : Go.Code := Go.Ab.bodyOf Go.Proofs.Try.f7
noncomputable def q7_0 : Nat → (AV → List AObj → Prop) → AQ := fun (n : Nat) (Post : AV → List AObj → Prop) => endQ Try.prog (resultsOf Try.f7) Post
noncomputable def c7_4 : Go.Code := codeSnd (codeSnd (codeSnd c7))
theorem s7 : ∀ (e more : List T.Ent) (c : T.Ch) (Post : AV → List AObj → Prop),
  (ASpec Try.prog 8 [AV.sl 2 (Seq.map T.encEn ([], []) e) Tip.none]
      [AObj.cells [AV.sl 2 (Seq.map T.encN ([], []) (Prod.fst c)) Tip.none, AV.sl 2 (Seq.map T.encPk T.noPk (Prod.snd c)) Tip.none]] fun (r : AV) (H' : List AObj) =>
      ∃ (x : Bool),
        r = AV.bool x ∧
         H' = [AObj.cells [AV.sl 2 (Seq.map T.encN ([], []) (Prod.fst c)) Tip.none, AV.sl 2 (Seq.map T.encPk T.noPk (Prod.snd c)) Tip.none]] ∧
         condP x
         (ASpec Try.prog 31 [] [AObj.cells [AV.sl 2 (Seq.map T.encN ([], []) (Prod.fst c)) Tip.none, AV.sl 2 (Seq.map T.encPk T.noPk (Prod.snd c)) Tip.none]]
         fun (r : AV) (H' : List AObj) =>
         ∃ (x : Unit),
         r = AV.bool true ∧
         H' = [AObj.cells [AV.sl 2 (Seq.map T.encN ([], []) (Prod.fst c)) Tip.none, AV.sl 2 (Seq.map T.encPk T.noPk (Prod.snd c)) Tip.none]] ∧
         Post (AV.bool true) [AObj.cells [AV.sl 2 (Seq.map T.encN ([], []) (Prod.fst c)) Tip.none, AV.sl 2 (Seq.map T.encPk T.noPk (Prod.snd c)) Tip.none]])
         (ASpec Try.prog 8 [AV.sl 2 (Seq.map T.encEn ([], []) more) Tip.none]
         [AObj.cells [AV.sl 2 (Seq.map T.encN ([], []) (Prod.fst c)) Tip.none, AV.sl 2 (Seq.map T.encPk T.noPk (Prod.snd c)) Tip.none]] fun (r : AV) (H' : List AObj) =>
         ∃ (x : Bool),
         r = AV.bool x ∧
         H' = [AObj.cells [AV.sl 2 (Seq.map T.encN ([], []) (Prod.fst c)) Tip.none, AV.sl 2 (Seq.map T.encPk T.noPk (Prod.snd c)) Tip.none]] ∧
         condP x
         (ASpec Try.prog 31 [] [AObj.cells [AV.sl 2 (Seq.map T.encN ([], []) (Prod.fst c)) Tip.none, AV.sl 2 (Seq.map T.encPk T.noPk (Prod.snd c)) Tip.none]]
         fun (r : AV) (H' : List AObj) =>
         ∃ (x : Unit),
         r = AV.bool true ∧
         H' = [AObj.cells [AV.sl 2 (Seq.map T.encN ([], []) (Prod.fst c)) Tip.none, AV.sl 2 (Seq.map T.encPk T.noPk (Prod.snd c)) Tip.none]] ∧
         Post (AV.bool true) [AObj.cells [AV.sl 2 (Seq.map T.encN ([], []) (Prod.fst c)) Tip.none, AV.sl 2 (Seq.map T.encPk T.noPk (Prod.snd c)) Tip.none]])
         (ASpec Try.prog 9 [AV.sl 2 (Seq.map T.encN ([], []) (Prod.fst c)) Tip.none]
         [AObj.cells [AV.sl 2 (Seq.map T.encN ([], []) (Prod.fst c)) Tip.none, AV.sl 2 (Seq.map T.encPk T.noPk (Prod.snd c)) Tip.none]]
         fun (r : AV) (H' : List AObj) =>
         ∃ (x : Bool),
         r = AV.bool x ∧
         H' = [AObj.cells [AV.sl 2 (Seq.map T.encN ([], []) (Prod.fst c)) Tip.none, AV.sl 2 (Seq.map T.encPk T.noPk (Prod.snd c)) Tip.none]] ∧
         condP x
         (ASpec Try.prog 31 []
         [AObj.cells [AV.sl 2 (Seq.map T.encN ([], []) (Prod.fst c)) Tip.none, AV.sl 2 (Seq.map T.encPk T.noPk (Prod.snd c)) Tip.none]]
         fun (r : AV) (H' : List AObj) =>
         ∃ (x : Unit),
         r = AV.bool true ∧
         H' = [AObj.cells [AV.sl 2 (Seq.map T.encN ([], []) (Prod.fst c)) Tip.none, AV.sl 2 (Seq.map T.encPk T.noPk (Prod.snd c)) Tip.none]] ∧
         Post (AV.bool true)
         [AObj.cells [AV.sl 2 (Seq.map T.encN ([], []) (Prod.fst c)) Tip.none, AV.sl 2 (Seq.map T.encPk T.noPk (Prod.snd c)) Tip.none]])
         (ASpec Try.prog 10 [AV.sl 2 (Seq.map T.encN ([], []) (Prod.fst c)) Tip.none]
         [AObj.cells [AV.sl 2 (Seq.map T.encN ([], []) (Prod.fst c)) Tip.none, AV.sl 2 (Seq.map T.encPk T.noPk (Prod.snd c)) Tip.none]]
         fun (r : AV) (H' : List AObj) =>
         ∃ (x : Bool),
         r = AV.bool x ∧
         H' = [AObj.cells [AV.sl 2 (Seq.map T.encN ([], []) (Prod.fst c)) Tip.none, AV.sl 2 (Seq.map T.encPk T.noPk (Prod.snd c)) Tip.none]] ∧
         condP (!x)
         (ASpec Try.prog 31 []
         [AObj.cells [AV.sl 2 (Seq.map T.encN ([], []) (Prod.fst c)) Tip.none, AV.sl 2 (Seq.map T.encPk T.noPk (Prod.snd c)) Tip.none]]
         fun (r : AV) (H' : List AObj) =>
         ∃ (x : Unit),
         r = AV.bool true ∧
         H' = [AObj.cells [AV.sl 2 (Seq.map T.encN ([], []) (Prod.fst c)) Tip.none, AV.sl 2 (Seq.map T.encPk T.noPk (Prod.snd c)) Tip.none]] ∧
         Post (AV.bool true)
         [AObj.cells [AV.sl 2 (Seq.map T.encN ([], []) (Prod.fst c)) Tip.none, AV.sl 2 (Seq.map T.encPk T.noPk (Prod.snd c)) Tip.none]])
         (ASpec Try.prog 30 [AV.sl 2 (Seq.map T.encPk T.noPk (Prod.snd c)) Tip.none]
         [AObj.cells [AV.sl 2 (Seq.map T.encN ([], []) (Prod.fst c)) Tip.none, AV.sl 2 (Seq.map T.encPk T.noPk (Prod.snd c)) Tip.none]]
         fun (r : AV) (H' : List AObj) =>
         ∃ (x : Bool),
         r = AV.bool x ∧
         H' = [AObj.cells [AV.sl 2 (Seq.map T.encN ([], []) (Prod.fst c)) Tip.none, AV.sl 2 (Seq.map T.encPk T.noPk (Prod.snd c)) Tip.none]] ∧
         condP x
         (ASpec Try.prog 31 []
         [AObj.cells [AV.sl 2 (Seq.map T.encN ([], []) (Prod.fst c)) Tip.none, AV.sl 2 (Seq.map T.encPk T.noPk (Prod.snd c)) Tip.none]]
         fun (r : AV) (H' : List AObj) =>
         ∃ (x : Unit),
         r = AV.bool true ∧
         H' =
         [AObj.cells
         [AV.sl 2 (Seq.map T.encN ([], []) (Prod.fst c)) Tip.none, AV.sl 2 (Seq.map T.encPk T.noPk (Prod.snd c)) Tip.none]] ∧
         Post (AV.bool true)
         [AObj.cells
         [AV.sl 2 (Seq.map T.encN ([], []) (Prod.fst c)) Tip.none, AV.sl 2 (Seq.map T.encPk T.noPk (Prod.snd c)) Tip.none]])
         (ASpec Try.prog 12 [AV.sl 2 (Seq.map T.encEn ([], []) e) Tip.none]
         [AObj.cells [AV.sl 2 (Seq.map T.encN ([], []) (Prod.fst c)) Tip.none, AV.sl 2 (Seq.map T.encPk T.noPk (Prod.snd c)) Tip.none]]
         fun (r : AV) (H' : List AObj) =>
         ∃ (x : List (ByteArray × T.Known)),
         r = AV.ptr 2 0 ∧
         H' =
         [AObj.cells
         [AV.sl 2 (Seq.map T.encN ([], []) (Prod.fst c)) Tip.none, AV.sl 2 (Seq.map T.encPk T.noPk (Prod.snd c)) Tip.none],
         AObj.mp (MM.typed T.EK x), AObj.cells [AV.map 1]] ∧
         AWP Try.prog 117 0 c7_4
         [(1, AV.sl 2 (Seq.map T.encEn ([], []) more) Tip.none), (5, AV.ptr 0 0),
         (7, AV.ptr 2 0)]
         [AObj.cells
         [AV.sl 2 (Seq.map T.encN ([], []) (Prod.fst c)) Tip.none, AV.sl 2 (Seq.map T.encPk T.noPk (Prod.snd c)) Tip.none],
         AObj.mp (MM.typed T.EK x), AObj.cells [AV.map 1]]
         (q7_0 0 Post))))))) →
    ASpec Try.prog 7 [AV.sl 2 (Seq.map T.encEn ([], []) e) Tip.none, AV.sl 2 (Seq.map T.encEn ([], []) more) Tip.none, AV.agg (T.encCh c)] [] Post := fun e more c Post h => Go.Ab.ASpec.of_vc g7 Go.Proofs.Try.func7 (by kernel_rfl) (by kernel_rfl) (by kernel_rfl) (Go.Ab.kc (by kernel_rfl) h)
noncomputable def c7_6 : Go.Code := codeSnd c7_4
theorem v7_4 : ∀ (more : List T.Ent) (c : T.Ch) (es : T.Kn) (n : Nat) (Post : AV → List AObj → Prop),
  (ASpec Try.prog 32 [AV.ptr 2 0, AV.sl 2 (Seq.map T.encN ([], []) (Prod.fst c)) Tip.none, AV.sl 2 (Seq.map T.encPk T.noPk (Prod.snd c)) Tip.none]
      [AObj.cells [AV.sl 2 (Seq.map T.encN ([], []) (Prod.fst c)) Tip.none, AV.sl 2 (Seq.map T.encPk T.noPk (Prod.snd c)) Tip.none], AObj.mp (MM.typed T.EK es),
        AObj.cells [AV.map 1]]
      fun (r : AV) (H' : List AObj) =>
      ∃ (x : Bool),
        r = AV.bool x ∧
         H' =
         [AObj.cells [AV.sl 2 (Seq.map T.encN ([], []) (Prod.fst c)) Tip.none, AV.sl 2 (Seq.map T.encPk T.noPk (Prod.snd c)) Tip.none], AObj.mp (MM.typed T.EK es),
         AObj.cells [AV.map 1]] ∧
         condP (!x)
         (ASpec Try.prog 31 []
         [AObj.cells [AV.sl 2 (Seq.map T.encN ([], []) (Prod.fst c)) Tip.none, AV.sl 2 (Seq.map T.encPk T.noPk (Prod.snd c)) Tip.none], AObj.mp (MM.typed T.EK es),
         AObj.cells [AV.map 1]]
         fun (r : AV) (H' : List AObj) =>
         ∃ (x : Unit),
         r = AV.bool true ∧
         H' =
         [AObj.cells [AV.sl 2 (Seq.map T.encN ([], []) (Prod.fst c)) Tip.none, AV.sl 2 (Seq.map T.encPk T.noPk (Prod.snd c)) Tip.none], AObj.mp (MM.typed T.EK es),
         AObj.cells [AV.map 1]] ∧
         Post (AV.bool true)
         [AObj.cells [AV.sl 2 (Seq.map T.encN ([], []) (Prod.fst c)) Tip.none, AV.sl 2 (Seq.map T.encPk T.noPk (Prod.snd c)) Tip.none], AObj.mp (MM.typed T.EK es),
         AObj.cells [AV.map 1]])
         (AWP Try.prog 117 n c7_6 [(1, AV.sl 2 (Seq.map T.encEn ([], []) more) Tip.none), (5, AV.ptr 0 0), (7, AV.ptr 2 0)]
         [AObj.cells [AV.sl 2 (Seq.map T.encN ([], []) (Prod.fst c)) Tip.none, AV.sl 2 (Seq.map T.encPk T.noPk (Prod.snd c)) Tip.none], AObj.mp (MM.typed T.EK es),
         AObj.cells [AV.map 1]]
         (q7_0 n Post))) →
    AWP Try.prog 117 n c7_4 [(1, AV.sl 2 (Seq.map T.encEn ([], []) more) Tip.none), (5, AV.ptr 0 0), (7, AV.ptr 2 0)]
      [AObj.cells (T.encCh c), AObj.mp (MM.typed T.EK es), AObj.cells [AV.map 1]] (q7_0 n Post) := fun more c es n Post h => Go.Ab.awp_sound g7 n _ _ _ _ (Go.Ab.kc (by kernel_rfl) h)
noncomputable def c7_11 : Go.Code := codeSnd (codeSnd c7_6)
noncomputable def q7_1 : Nat → (AV → List AObj → Prop) → AQ := fun (n : Nat) (Post : AV → List AObj → Prop) => seqQ (fun (s' : Slots) (H' : List AObj) => AWP Try.prog (Cfg.N g7) n c7_11 (restrict s' (Cfg.live g7 11)) H' (q7_0 n Post)) (q7_0 n Post)
noncomputable def q7_2 : Nat → (AV → List AObj → Prop) → AQ := fun (n : Nat) (Post : AV → List AObj → Prop) => blockQ 0 (q7_1 n Post)
noncomputable def c7_8 : Go.Code := codeFst (codeSnd (codeFst (codeSnd c7_6)))
theorem v7_6 : ∀ (more : List T.Ent) (c : T.Ch) (es : T.Kn) (n : Nat) (Post : AV → List AObj → Prop),
  (ASpec Try.prog 33 [AV.ptr 2 0, AV.sl 2 (Seq.map T.encN ([], []) (Prod.fst c)) Tip.none, AV.sl 2 (Seq.map T.encPk T.noPk (Prod.snd c)) Tip.none]
      [AObj.cells [AV.sl 2 (Seq.map T.encN ([], []) (Prod.fst c)) Tip.none, AV.sl 2 (Seq.map T.encPk T.noPk (Prod.snd c)) Tip.none], AObj.mp (MM.typed T.EK es),
        AObj.cells [AV.map 1]]
      fun (r : AV) (H' : List AObj) =>
      ∃ (x : List (List UInt8)),
        r = AV.sl 1 (Seq.map T.encL [] x) Tip.none ∧
         H' =
         [AObj.cells [AV.sl 2 (Seq.map T.encN ([], []) (Prod.fst c)) Tip.none, AV.sl 2 (Seq.map T.encPk T.noPk (Prod.snd c)) Tip.none], AObj.mp (MM.typed T.EK es),
         AObj.cells [AV.map 1]] ∧
         AWP Try.prog 117 n c7_8
         [(1, AV.sl 2 (Seq.map T.encEn ([], []) more) Tip.none), (5, AV.ptr 0 0), (7, AV.ptr 2 0),
         (8, AV.sl 1 (Seq.map T.encL [] x) Tip.none), (9, AV.int IntKind.i64 (0 : Int))]
         [AObj.cells [AV.sl 2 (Seq.map T.encN ([], []) (Prod.fst c)) Tip.none, AV.sl 2 (Seq.map T.encPk T.noPk (Prod.snd c)) Tip.none], AObj.mp (MM.typed T.EK es),
         AObj.cells [AV.map 1]]
         (q7_2 n Post)) →
    AWP Try.prog 117 n c7_6 [(1, AV.sl 2 (Seq.map T.encEn ([], []) more) Tip.none), (5, AV.ptr 0 0), (7, AV.ptr 2 0)]
      [AObj.cells (T.encCh c), AObj.mp (MM.typed T.EK es), AObj.cells [AV.map 1]] (q7_0 n Post) := fun more c es n Post h => Go.Ab.awp_sound g7 n _ _ _ _ (Go.Ab.kc (by kernel_rfl) h)
theorem v7_8 : ∀ (more : List T.Ent) (c : T.Ch) (es : T.Kn) (w : List (List UInt8)) (i : Int) (n : Nat) (Post : AV → List AObj → Prop),
  condP (decide (i < (↑(List.length more) : Int)))
      (needP ((0 : Int) ≤ i ∧ i < (↑(List.length more) : Int))
        (needP ((0 : Int) ≤ i ∧ i < (↑(List.length more) : Int))
         (ASpec Try.prog 20
         [AV.ptr 2 0, AV.str { data := List.toArray (Prod.fst (List.getD more (Int.toNat i) ([], []))) },
         AV.sl 1 (Seq.map encB (0 : UInt8) (Prod.snd (List.getD more (Int.toNat i) ([], [])))) Tip.none]
         [AObj.cells [AV.sl 2 (Seq.map T.encN ([], []) (Prod.fst c)) Tip.none, AV.sl 2 (Seq.map T.encPk T.noPk (Prod.snd c)) Tip.none], AObj.mp (MM.typed T.EK es),
         AObj.cells [AV.map 1]]
         fun (r : AV) (H' : List AObj) =>
         ∃ (x : Int × T.Kn),
         r = AV.int IntKind.i64 (Prod.fst x) ∧
         H' =
         [AObj.cells [AV.sl 2 (Seq.map T.encN ([], []) (Prod.fst c)) Tip.none, AV.sl 2 (Seq.map T.encPk T.noPk (Prod.snd c)) Tip.none], AObj.mp (MM.typed T.EK (Prod.snd x)),
         AObj.cells [AV.map 1]] ∧
         AWP Try.prog 117 n c7_8
         [(1, AV.sl 2 (Seq.map T.encEn ([], []) more) Tip.none), (5, AV.ptr 0 0), (7, AV.ptr 2 0),
         (8, AV.sl 1 (Seq.map T.encL [] w) Tip.none), (9, AV.int IntKind.i64 (IntKind.wrap IntKind.i64 (i + (1 : Int))))]
         [AObj.cells [AV.sl 2 (Seq.map T.encN ([], []) (Prod.fst c)) Tip.none, AV.sl 2 (Seq.map T.encPk T.noPk (Prod.snd c)) Tip.none], AObj.mp (MM.typed T.EK (Prod.snd x)),
         AObj.cells [AV.map 1]]
         (q7_2 n Post))))
      (AWP Try.prog 117 n c7_11 [(5, AV.ptr 0 0), (7, AV.ptr 2 0), (8, AV.sl 1 (Seq.map T.encL [] w) Tip.none)]
        [AObj.cells [AV.sl 2 (Seq.map T.encN ([], []) (Prod.fst c)) Tip.none, AV.sl 2 (Seq.map T.encPk T.noPk (Prod.snd c)) Tip.none], AObj.mp (MM.typed T.EK es),
         AObj.cells [AV.map 1]]
        (q7_0 n Post)) →
    AWP Try.prog 117 n c7_8
      [(1, AV.sl 2 (Seq.map T.encEn ([], []) more) Tip.none), (5, AV.ptr 0 0), (7, AV.ptr 2 0),
        (8, AV.sl 1 (Seq.map T.encL [] w) Tip.none), (9, AV.int IntKind.i64 i)]
      [AObj.cells (T.encCh c), AObj.mp (MM.typed T.EK es), AObj.cells [AV.map 1]] (q7_2 n Post) := fun more c es w i n Post h => Go.Ab.AWP.loop' g7 (Cfg.live g7) c7_8 (by kernel_rfl) (by kernel_rfl) (Go.Ab.kc (by kernel_rfl) h)
noncomputable def c7_13 : Go.Code := codeSnd c7_11
theorem v7_11 : ∀ (c : T.Ch) (es : T.Kn) (w : List (List UInt8)) (n : Nat) (Post : AV → List AObj → Prop),
  (ASpec Try.prog 32 [AV.ptr 2 0, AV.sl 2 (Seq.map T.encN ([], []) (Prod.fst c)) Tip.none, AV.sl 2 (Seq.map T.encPk T.noPk (Prod.snd c)) Tip.none]
      [AObj.cells [AV.sl 2 (Seq.map T.encN ([], []) (Prod.fst c)) Tip.none, AV.sl 2 (Seq.map T.encPk T.noPk (Prod.snd c)) Tip.none], AObj.mp (MM.typed T.EK es),
        AObj.cells [AV.map 1]]
      fun (r : AV) (H' : List AObj) =>
      ∃ (x : Bool),
        r = AV.bool x ∧
         H' =
         [AObj.cells [AV.sl 2 (Seq.map T.encN ([], []) (Prod.fst c)) Tip.none, AV.sl 2 (Seq.map T.encPk T.noPk (Prod.snd c)) Tip.none], AObj.mp (MM.typed T.EK es),
         AObj.cells [AV.map 1]] ∧
         condP (!x)
         (Post (AV.bool false)
         [AObj.cells [AV.sl 2 (Seq.map T.encN ([], []) (Prod.fst c)) Tip.none, AV.sl 2 (Seq.map T.encPk T.noPk (Prod.snd c)) Tip.none], AObj.mp (MM.typed T.EK es),
         AObj.cells [AV.map 1]])
         (condP ((↑(List.length w) : Int) != (↑(List.length (Prod.snd c)) : Int))
         (Post (AV.bool false)
         [AObj.cells [AV.sl 2 (Seq.map T.encN ([], []) (Prod.fst c)) Tip.none, AV.sl 2 (Seq.map T.encPk T.noPk (Prod.snd c)) Tip.none], AObj.mp (MM.typed T.EK es),
         AObj.cells [AV.map 1]])
         (AWP Try.prog 117 n c7_13 [(5, AV.ptr 0 0), (7, AV.ptr 2 0), (8, AV.sl 1 (Seq.map T.encL [] w) Tip.none)]
         [AObj.cells [AV.sl 2 (Seq.map T.encN ([], []) (Prod.fst c)) Tip.none, AV.sl 2 (Seq.map T.encPk T.noPk (Prod.snd c)) Tip.none], AObj.mp (MM.typed T.EK es),
         AObj.cells [AV.map 1]]
         (q7_0 n Post)))) →
    AWP Try.prog 117 n c7_11 [(5, AV.ptr 0 0), (7, AV.ptr 2 0), (8, AV.sl 1 (Seq.map T.encL [] w) Tip.none)]
      [AObj.cells (T.encCh c), AObj.mp (MM.typed T.EK es), AObj.cells [AV.map 1]] (q7_0 n Post) := fun c es w n Post h => Go.Ab.awp_sound g7 n _ _ _ _ (Go.Ab.kc (by kernel_rfl) h)
noncomputable def q7_3 : Nat → (AV → List AObj → Prop) → AQ := fun (n : Nat) (Post : AV → List AObj → Prop) => seqQ (fun (s' : Slots) (H' : List AObj) => awp Try.prog g7 n (codeSnd c7_13) s' H' (q7_0 n Post)) (q7_0 n Post)
noncomputable def q7_4 : Nat → (AV → List AObj → Prop) → AQ := fun (n : Nat) (Post : AV → List AObj → Prop) => blockQ 2 (q7_3 n Post)
noncomputable def c7_14 : Go.Code := codeFst (codeSnd (codeFst c7_13))
theorem v7_13 : ∀ (c : T.Ch) (es : T.Kn) (w : List (List UInt8)) (n : Nat) (Post : AV → List AObj → Prop),
  AWP Try.prog 117 n c7_14
      [(5, AV.ptr 0 0), (7, AV.ptr 2 0), (8, AV.sl 1 (Seq.map T.encL [] w) Tip.none), (10, AV.int IntKind.i64 (0 : Int))]
      [AObj.cells [AV.sl 2 (Seq.map T.encN ([], []) (Prod.fst c)) Tip.none, AV.sl 2 (Seq.map T.encPk T.noPk (Prod.snd c)) Tip.none], AObj.mp (MM.typed T.EK es),
        AObj.cells [AV.map 1]]
      (q7_4 n Post) →
    AWP Try.prog 117 n c7_13 [(5, AV.ptr 0 0), (7, AV.ptr 2 0), (8, AV.sl 1 (Seq.map T.encL [] w) Tip.none)]
      [AObj.cells (T.encCh c), AObj.mp (MM.typed T.EK es), AObj.cells [AV.map 1]] (q7_0 n Post) := fun c es w n Post h => Go.Ab.awp_sound g7 n _ _ _ _ (Go.Ab.kc (by kernel_rfl) h)
theorem v7_14 : ∀ (c : T.Ch) (es : T.Kn) (w : List (List UInt8)) (i : Int) (n : Nat) (Post : AV → List AObj → Prop),
  condP (decide (i < (↑(List.length (Prod.snd c)) : Int)))
      (needP ((0 : Int) ≤ i ∧ i < (↑(List.length w) : Int))
        (needP ((0 : Int) ≤ i ∧ i < (↑(List.length (Prod.snd c)) : Int))
         (condP (!ByteArray.toList { data := List.toArray (List.getD w (Int.toNat i) []) } == ByteArray.toList { data := List.toArray (Prod.fst (List.getD (Prod.snd c) (Int.toNat i) T.noPk)) })
         (AV.tup [] = AV.tup [] ∧
         Post (AV.bool false)
         [AObj.cells [AV.sl 2 (Seq.map T.encN ([], []) (Prod.fst c)) Tip.none, AV.sl 2 (Seq.map T.encPk T.noPk (Prod.snd c)) Tip.none], AObj.mp (MM.typed T.EK es),
         AObj.cells [AV.map 1]])
         (needP ((0 : Int) ≤ i ∧ i < (↑(List.length (Prod.snd c)) : Int))
         (ASpec Try.prog 34 [AV.sl 2 (Seq.map T.encPk T.noPk (Prod.snd c)) Tip.none, AV.str { data := List.toArray (Prod.fst (List.getD (Prod.snd c) (Int.toNat i) T.noPk)) }]
         [AObj.cells [AV.sl 2 (Seq.map T.encN ([], []) (Prod.fst c)) Tip.none, AV.sl 2 (Seq.map T.encPk T.noPk (Prod.snd c)) Tip.none], AObj.mp (MM.typed T.EK es),
         AObj.cells [AV.map 1]]
         fun (r : AV) (H' : List AObj) =>
         ∃ (x : List T.Pk),
         r = AV.sl 2 (Seq.map T.encPk T.noPk x) Tip.none ∧
         H' =
         [AObj.cells [AV.sl 2 (Seq.map T.encN ([], []) (Prod.fst c)) Tip.none, AV.sl 2 (Seq.map T.encPk T.noPk (Prod.snd c)) Tip.none], AObj.mp (MM.typed T.EK es),
         AObj.cells [AV.map 1]] ∧
         (AV.sl 2 (Seq.map T.encN ([], []) (Prod.fst c)) Tip.none = AV.sl 2 (Seq.map T.encN ([], []) (Prod.fst c)) Tip.none ∧
         [AObj.cells [AV.sl 2 (Seq.map T.encN ([], []) (Prod.fst c)) Tip.none, AV.sl 2 (Seq.map T.encPk T.noPk (Prod.snd c)) Tip.none], AObj.mp (MM.typed T.EK es),
         AObj.cells [AV.map 1]] =
         [AObj.cells [AV.sl 2 (Seq.map T.encN ([], []) (Prod.fst c)) Tip.none, AV.sl 2 (Seq.map T.encPk T.noPk (Prod.snd c)) Tip.none], AObj.mp (MM.typed T.EK es),
         AObj.cells [AV.map 1]]) ∧
         ASpec Try.prog 32 [AV.ptr 2 0, AV.sl 2 (Seq.map T.encN ([], []) (Prod.fst c)) Tip.none, AV.sl 2 (Seq.map T.encPk T.noPk x) Tip.none]
         [AObj.cells [AV.sl 2 (Seq.map T.encN ([], []) (Prod.fst c)) Tip.none, AV.sl 2 (Seq.map T.encPk T.noPk (Prod.snd c)) Tip.none], AObj.mp (MM.typed T.EK es),
         AObj.cells [AV.map 1]]
         fun (r : AV) (H' : List AObj) =>
         ∃ (x : Bool),
         r = AV.bool x ∧
         H' =
         [AObj.cells [AV.sl 2 (Seq.map T.encN ([], []) (Prod.fst c)) Tip.none, AV.sl 2 (Seq.map T.encPk T.noPk (Prod.snd c)) Tip.none],
         AObj.mp (MM.typed T.EK es), AObj.cells [AV.map 1]] ∧
         condP x
         (Post (AV.bool false)
         [AObj.cells [AV.sl 2 (Seq.map T.encN ([], []) (Prod.fst c)) Tip.none, AV.sl 2 (Seq.map T.encPk T.noPk (Prod.snd c)) Tip.none],
         AObj.mp (MM.typed T.EK es), AObj.cells [AV.map 1]])
         (AWP Try.prog 117 n c7_14
         [(5, AV.ptr 0 0), (7, AV.ptr 2 0), (8, AV.sl 1 (Seq.map T.encL [] w) Tip.none),
         (10, AV.int IntKind.i64 (IntKind.wrap IntKind.i64 (i + (1 : Int))))]
         [AObj.cells [AV.sl 2 (Seq.map T.encN ([], []) (Prod.fst c)) Tip.none, AV.sl 2 (Seq.map T.encPk T.noPk (Prod.snd c)) Tip.none],
         AObj.mp (MM.typed T.EK es), AObj.cells [AV.map 1]]
         (q7_4 n Post)))))))
      (ASpec Try.prog 31 []
        [AObj.cells [AV.sl 2 (Seq.map T.encN ([], []) (Prod.fst c)) Tip.none, AV.sl 2 (Seq.map T.encPk T.noPk (Prod.snd c)) Tip.none], AObj.mp (MM.typed T.EK es),
         AObj.cells [AV.map 1]]
        fun (r : AV) (H' : List AObj) =>
        ∃ (x : Unit),
         r = AV.bool true ∧
         H' =
         [AObj.cells [AV.sl 2 (Seq.map T.encN ([], []) (Prod.fst c)) Tip.none, AV.sl 2 (Seq.map T.encPk T.noPk (Prod.snd c)) Tip.none], AObj.mp (MM.typed T.EK es),
         AObj.cells [AV.map 1]] ∧
         Post (AV.bool true)
         [AObj.cells [AV.sl 2 (Seq.map T.encN ([], []) (Prod.fst c)) Tip.none, AV.sl 2 (Seq.map T.encPk T.noPk (Prod.snd c)) Tip.none], AObj.mp (MM.typed T.EK es),
         AObj.cells [AV.map 1]]) →
    AWP Try.prog 117 n c7_14
      [(5, AV.ptr 0 0), (7, AV.ptr 2 0), (8, AV.sl 1 (Seq.map T.encL [] w) Tip.none), (10, AV.int IntKind.i64 i)]
      [AObj.cells (T.encCh c), AObj.mp (MM.typed T.EK es), AObj.cells [AV.map 1]] (q7_4 n Post) := fun c es w i n Post h => Go.Ab.AWP.loop' g7 (Cfg.live g7) c7_14 (by kernel_rfl) (by kernel_rfl) (Go.Ab.kc (by kernel_rfl) h)

end
end Ft
end

section
/- The plain law of numbers as bytes. -/

namespace V

/-- the digits that go on -/
def lead (v : Nat) : List UInt8 := if _h : v = 0 then [] else lead (v / 128) ++ [UInt8.ofNat (128 + v % 128)]
  termination_by v
  decreasing_by omega

def enc (v : Nat) : List UInt8 := lead (v / 128) ++ [UInt8.ofNat (v % 128)]

end V
end

section
/- vlq.Put: what it computes. -/

set_option linter.unusedVariables false
set_option linter.unusedSimpArgs false
open Go Go.Ab Go.Proofs
namespace V

def big : Nat := 140737488351232

theorem tmodN (a b : Nat) : Int.tmod (a : Int) (b : Int) = ((a % b : Nat) : Int) := by rfl

theorem selTok : Sel 0 [1] [AObj.gone, AObj.tok] [AObj.tok] := Sel.one 1 rfl rfl

end V
end

section
/- The reader of bytes: what its methods compute. -/

set_option linter.unusedVariables false
set_option linter.unusedSimpArgs false
open Go Go.Ab Go.Proofs
namespace V

def scan : Nat → List UInt8 → Nat → Nat → Int ⊕ (Nat × Nat)
  | 0, _, _, _ => .inl 4
  | _ + 1, [], _, _ => .inl 2
  | f + 1, c :: s, x, i => if 128 ≤ c.toNat then scan f s (x * 128 + c.toNat % 128) (i + 1) else .inr (x * 128 + c.toNat % 128, i + 1)

/-- the number ahead, how many bytes it has, and what is wrong -/
def lookM (s : List UInt8) (most : Int) : Int × Nat × Int :=
  match s with
  | [] => (0, 0, 2)
  | c :: _ => if c = 128 then (0, 0, 3) else match scan 6 s 0 0 with
    | .inl e => (0, 0, e)
    | .inr (n, k) => if (n : Int) > min most 1099511627776 then (0, 0, 4) else (n, k, 0)

theorem getD_drop (bs : List UInt8) (q : Nat) (h : q < bs.length) : bs.drop q = bs.getD q 0 :: bs.drop (q + 1) := by
  rw [List.drop_eq_getElem_cons h]
  simp [List.getD, List.getElem?_eq_getElem h]

def peekP (bs : List UInt8) (p : Nat) (most : Int) (Post : AV → List AObj → Prop) : Int ⊕ (Nat × Nat) → Prop
  | .inl e => Post (.tup [.int .i64 0, .int .i64 p]) [rd bs p e]
  | .inr (n, k) => if (n : Int) > min most 1099511627776 then Post (.tup [.int .i64 0, .int .i64 p]) [rd bs p 4] else Post (.tup [.int .i64 n, .int .i64 (p + k : Nat)]) [rd bs p 0]

theorem min_if (most : Int) : (if 1099511627776 < most then 1099511627776 else most) = min most 1099511627776 := by
  split <;> omega

theorem peek9 {bs : List UInt8} {p : Nat} {most : Int} {Post : AV → List AObj → Prop} (hb : bs.length ≤ big) (hp : p ≤ bs.length) : ∀ (f i x : Nat), f + i = 6 → p + i ≤ bs.length → x < 128 ^ i →
    peekP bs p most Post (scan f (bs.drop (p + i)) x i) →
    AWP Try.prog 113 1 c122_9 [(0, .ptr 0 0), (1, .int .i64 most), (6, .int .i64 x), (44, .int .i64 i)] [rd bs p 0] (q122_2 1 Post) := by
  intro f
  unfold big at hb
  induction f with
  | zero =>
    intro i x hf hpi hx h
    refine v122_9 _ _ _ _ _ _ _ _ (condD (fun hc => by omega) fun hc => ⟨⟨rfl, rfl⟩, h⟩)
  | succ f ih =>
    intro i x hf hpi hx h
    have hi6 : (128 : Nat) ^ i ≤ 128 ^ 5 := Nat.pow_le_pow_right (by omega) (by omega)
    have h5 : (128 : Nat) ^ 5 = 34359738368 := by decide
    have hwp : IntKind.wrap .i64 ((p : Int) + i) = ((p + i : Nat) : Int) := by rw [wrap64 (by omega) (by omega)]; simp
    refine v122_9 _ _ _ _ _ _ _ _ (condD (fun hc => ?_) fun hc => by omega)
    rw [hwp]
    refine condE (fun he => ?_) fun he => ?_
    · have he : p + i = bs.length := by omega
      refine ⟨⟨rfl, rfl⟩, ?_⟩
      rw [List.drop_eq_nil_of_le (by omega)] at h
      exact h
    · have he : p + i ≠ bs.length := by omega
      refine needJ (by omega) (needJ (by decide) ?_)
      rw [Int.toNat_natCast]
      rw [getD_drop bs (p + i) (by omega)] at h
      generalize bs.getD (p + i) 0 = c at h ⊢
      have hc8 : c.toNat < 256 := c.toNat_lt
      have hwc : IntKind.wrap .i64 (c.toNat : Int) = (c.toNat : Int) := wrapN (by omega)
      have hx1 : IntKind.wrap .i64 (IntKind.wrap .i64 ((x : Int) * 128) + (c.toNat : Int).tmod 128) = ((x * 128 + c.toNat % 128 : Nat) : Int) := by
        rw [show (128 : Int) = ((128 : Nat) : Int) from rfl, tmodN, wrap64 (x := (x : Int) * ((128 : Nat) : Int)) (by omega) (by omega), wrap64 (by omega) (by omega)]
        simp
      rw [hwc, hx1]
      simp only [scan] at h
      refine condD (fun hg => ?_) fun hg => ?_
      · rw [if_pos (by omega)] at h
        rw [show IntKind.wrap .i64 ((i : Int) + 1) = ((i + 1 : Nat) : Int) by rw [wrap64 (by omega) (by omega)]; simp]
        refine ih (i + 1) _ (by omega) (by omega) ?_ ?_
        · rw [Nat.pow_succ]; omega
        · exact h
      · rw [if_neg (by omega)] at h
        simp only [peekP] at h
        rw [min_if]
        refine condD (fun hm => ?_) fun hm => ?_
        · rw [if_pos hm] at h
          exact ⟨⟨rfl, rfl⟩, h⟩
        · rw [if_neg hm] at h
          rw [show IntKind.wrap .i64 (((p + i : Nat) : Int) + 1) = ((p + (i + 1) : Nat) : Int) by rw [wrap64 (by omega) (by omega)]; omega]
          exact ⟨⟨rfl, rfl⟩, h⟩

theorem peek_spec {bs : List UInt8} {p : Nat} (most : Int) (hb : bs.length ≤ big) (hp : p ≤ bs.length) :
    ASpec Try.prog 122 [.ptr 0 0, .int .i64 most] [rd bs p 0] (fun r H' => r = .tup [.int .i64 (lookM (bs.drop p) most).1, .int .i64 (p + (lookM (bs.drop p) most).2.1 : Nat)] ∧ H' = [rd bs p (lookM (bs.drop p) most).2.2]) := by
  refine s122 _ _ _ _ _ (condE (fun he => ?_) fun he => ?_)
  · have he : p = bs.length := by omega
    rw [List.drop_eq_nil_of_le (by omega)]
    exact ⟨⟨rfl, rfl⟩, rfl, rfl⟩
  · have he : p ≠ bs.length := by omega
    refine needJ (by omega) ?_
    rw [Int.toNat_natCast]
    have hd := getD_drop bs p (by omega)
    refine condE (fun h1 => ?_) fun h1 => ?_
    · have h1 : (bs.getD p 0) = 128 := by
        have : (bs.getD p 0).toNat = 128 := by omega
        exact UInt8.toNat_inj.1 this
      have e : lookM (bs.drop p) most = (0, 0, 3) := by rw [hd]; simp only [lookM, if_pos h1]
      rw [e]
      exact ⟨⟨rfl, rfl⟩, rfl, rfl⟩
    · have h1 : (bs.getD p 0) ≠ 128 := by
        intro e
        rw [e] at h1
        exact h1 rfl
      refine peek9 hb hp 6 0 0 rfl (by omega) (by simp) ?_
      rw [Nat.add_zero]
      have e : lookM (bs.drop p) most = match scan 6 (bs.drop p) 0 0 with
        | .inl e => (0, 0, e)
        | .inr (n, k) => if (n : Int) > min most 1099511627776 then (0, 0, 4) else (n, k, 0) := by
        rw [hd]; simp only [lookM, if_neg h1]
      rw [e]
      cases scan 6 (bs.drop p) 0 0 with
      | inl er => exact ⟨rfl, rfl⟩
      | inr nk =>
        obtain ⟨n, k⟩ := nk
        simp only [peekP]
        split
        · exact ⟨rfl, rfl⟩
        · exact ⟨rfl, rfl⟩

theorem scan_le : ∀ (f : Nat) (s : List UInt8) (x i n k : Nat), scan f s x i = .inr (n, k) → i < k ∧ k ≤ i + s.length
  | 0, s, x, i, n, k, h => by simp [scan] at h
  | f + 1, [], x, i, n, k, h => by simp [scan] at h
  | f + 1, c :: s, x, i, n, k, h => by
    simp only [scan] at h
    split at h
    · have := scan_le f s _ _ _ _ h
      simp; omega
    · simp at h
      simp; omega

theorem lookM_le (s : List UInt8) (most : Int) : (lookM s most).2.1 ≤ s.length ∧ 0 ≤ (lookM s most).1 ∧ (lookM s most).1 ≤ 1099511627776 ∧ ((lookM s most).2.2 ≠ 0 → (lookM s most).1 = 0 ∧ (lookM s most).2.1 = 0) := by
  cases s with
  | nil => simp [lookM]
  | cons c s =>
    simp only [lookM]
    split
    · simp
    · split
      · simp
      · rename_i n k hs
        have := scan_le _ _ _ _ _ _ hs
        split
        · simp
        · refine ⟨?_, by simp, ?_, by simp⟩
          · show k ≤ _
            omega
          · show (n : Int) ≤ _
            omega

/-- a reader's next number: the answer, the place, the error -/
def numM (bs : List UInt8) (p : Nat) (e most : Int) : Int × Nat × Int :=
  if e ≠ 0 then (0, p, e) else ((lookM (bs.drop p) most).1, p + (lookM (bs.drop p) most).2.1, (lookM (bs.drop p) most).2.2)

def strM (bs : List UInt8) (p : Nat) (e most : Int) : List UInt8 × Nat × Int :=
  if e ≠ 0 then ([], p, e) else
    if (lookM (bs.drop p) most).2.2 ≠ 0 then ([], p, (lookM (bs.drop p) most).2.2) else
    if (lookM (bs.drop p) most).1 > (bs.length : Int) - ((p + (lookM (bs.drop p) most).2.1 : Nat) : Int) then ([], p, 2) else
      ((bs.drop (p + (lookM (bs.drop p) most).2.1)).take (lookM (bs.drop p) most).1.toNat, p + (lookM (bs.drop p) most).2.1 + (lookM (bs.drop p) most).1.toNat, 0)

theorem num_spec0 {bs : List UInt8} {p : Nat} (e most : Int) (hb : bs.length ≤ big) (hp : p ≤ bs.length) :
    ASpec Try.prog 92 [.ptr 0 0, .int .i64 most] [rd bs p e] (fun r H' => r = .int .i64 (numM bs p e most).1 ∧ H' = [rd bs (numM bs p e most).2.1 (numM bs p e most).2.2]) := by
  refine s92 _ _ _ _ _ (condNe (fun he => ?_) fun he => ?_)
  · rw [show numM bs p e most = (0, p, e) by simp only [numM, if_pos he]]
    exact ⟨rfl, rfl⟩
  · subst he
    rw [show numM bs p 0 most = ((lookM (bs.drop p) most).1, p + (lookM (bs.drop p) most).2.1, (lookM (bs.drop p) most).2.2) by simp [numM]]
    refine ASpec.call (peek_spec most hb hp) (Les.refl _) ⟨(_, _, _, _), rfl, rfl, rfl, rfl⟩

theorem str_spec0 {bs : List UInt8} {p : Nat} (e most : Int) (hb : bs.length ≤ big) (hp : p ≤ bs.length) :
    ASpec Try.prog 90 [.ptr 0 0, .int .i64 most] [rd bs p e] (fun r H' => r = .str ⟨(strM bs p e most).1.toArray⟩ ∧ H' = [rd bs (strM bs p e most).2.1 (strM bs p e most).2.2]) := by
  refine s90 _ _ _ _ _ (condNe (fun he => ?_) fun he => ?_)
  · rw [show strM bs p e most = ([], p, e) by simp only [strM, if_pos he]]
    exact ⟨rfl, rfl⟩
  · subst he
    obtain ⟨h1, h2, h3, h4⟩ := lookM_le (bs.drop p) most
    have hs : strM bs p 0 most = if (lookM (bs.drop p) most).2.2 ≠ 0 then ([], p, (lookM (bs.drop p) most).2.2) else
      if (lookM (bs.drop p) most).1 > (bs.length : Int) - ((p + (lookM (bs.drop p) most).2.1 : Nat) : Int) then ([], p, 2) else
      ((bs.drop (p + (lookM (bs.drop p) most).2.1)).take (lookM (bs.drop p) most).1.toNat, p + (lookM (bs.drop p) most).2.1 + (lookM (bs.drop p) most).1.toNat, 0) := by simp [strM]
    refine ASpec.call (peek_spec most hb hp) (Les.refl _) ⟨((lookM (bs.drop p) most).1, ((p + (lookM (bs.drop p) most).2.1 : Nat) : Int), p, (lookM (bs.drop p) most).2.2), rfl, rfl, ?_⟩
    generalize lookM (bs.drop p) most = q at h1 h2 h3 h4 hs ⊢
    obtain ⟨n, k, er⟩ := q
    unfold big at hb
    rw [List.length_drop] at h1
    simp only at h1 h2 h3 h4 hs ⊢
    refine condNe (fun he => ?_) fun he => ?_
    · rw [hs, if_pos he]; exact ⟨rfl, rfl⟩
    · subst he
      rw [wrap64 (x := (bs.length : Int) - ((p + k : Nat) : Int)) (by omega) (by omega)]
      refine condD (fun hg => ?_) fun hg => ?_
      · rw [hs, if_neg (by simp), if_pos hg]; exact ⟨rfl, rfl⟩
      · rw [hs, if_neg (by simp), if_neg hg]
        have hw : IntKind.wrap .i64 (((p + k : Nat) : Int) + n) = ((p + k + n.toNat : Nat) : Int) := by
          have h5 : 0 ≤ n := h2
          rw [wrap64 (x := ((p + k : Nat) : Int) + n) (by omega) (by omega)]; omega
        rw [hw]
        refine needJ (by omega) (needJ (allBytes_map _) ?_)
        rw [bytesOf_map, Int.toNat_natCast, Int.toNat_natCast, List.drop_take]
        refine ⟨?_, rfl⟩
        rw [show p + k + n.toNat - (p + k) = n.toNat by omega]

end V
end

section
/- The document's numbers, texts and reader: what they compute. -/

set_option linter.unusedVariables false
set_option linter.unusedSimpArgs false
open Go Go.Ab Go.Proofs
namespace V

abbrev B (l : List UInt8) : ByteArray := ⟨l.toArray⟩

theorem B_size (l : List UInt8) : (B l).size = l.length := by simp [ByteArray.size]
theorem B_toList (l : List UInt8) : (B l).toList = l := by rw [ByteArray.toList_eq]
theorem B_beq (a b : List UInt8) : ((B a).toList == (B b).toList) = (a == b) := by rw [B_toList, B_toList]
theorem B_extract (l : List UInt8) (i j : Nat) (h : j ≤ l.length) : (B l).extract i j = B ((l.take j).drop i) := by
  apply ByteArray.ext
  apply Array.toList_inj.1
  simp [List.drop_take]

theorem condS {a b : List UInt8} {A C : Prop} (h1 : a = b → A) (h2 : a ≠ b → C) : condP ((B a).toList == (B b).toList) A C := by
  rw [B_beq]
  by_cases h : a = b
  · rw [beq_iff_eq.2 h]; exact h1 h
  · rw [beq_eq_false_iff_ne.2 h]; exact h2 h

/-! ### numbers -/

/-! ### the document's look -/

def acc (x : Nat) : List UInt8 → Nat
  | [] => x
  | c :: s => acc (x * 128 + c.toNat % 128) s

theorem acc_lt : ∀ (s : List UInt8) (x i : Nat), x < 128 ^ i → acc x s < 128 ^ (i + s.length)
  | [], x, i, h => h
  | c :: s, x, i, h => by
    simp only [acc, List.length_cons]
    have := acc_lt s (x * 128 + c.toNat % 128) (i + 1) (by rw [Nat.pow_succ]; omega)
    rwa [show i + (s.length + 1) = i + 1 + s.length by omega]

theorem acc_append (x : Nat) : ∀ (s t : List UInt8), acc x (s ++ t) = acc (acc x s) t
  | [], t => rfl
  | c :: s, t => acc_append _ s t

theorem scan_hi : ∀ (k : Nat) (s : List UInt8) (x i f : Nat), k ≤ s.length → k ≤ f → (∀ j, j < k → 128 ≤ (s.getD j 0).toNat) → scan f s x i = scan (f - k) (s.drop k) (acc x (s.take k)) (i + k)
  | 0, s, x, i, f, _, _, _ => by simp [acc]
  | k + 1, [], x, i, f, h, _, _ => by simp at h
  | k + 1, c :: s, x, i, 0, _, h, _ => by omega
  | k + 1, c :: s, x, i, f + 1, h1, h2, h3 => by
    have hc : 128 ≤ c.toNat := by simpa using h3 0 (by omega)
    simp only [scan, if_pos hc]
    rw [scan_hi k s _ (i + 1) f (by simpa using h1) (by omega) (fun j hj => by simpa using h3 (j + 1) (by omega))]
    simp only [List.take_succ_cons, acc, List.drop_succ_cons]
    congr 1 <;> omega

theorem look14 {l : List UInt8} {most : Int} {k : Nat} {Post : AV → List AObj → Prop} (hk : k < 6) (hkl : k < l.length) : ∀ (m i : Nat), m + i = k + 1 →
    (if (acc 0 (l.take (k + 1)) : Int) > min most 1099511627776 then Post (.tup [.int .i64 0, .int .i64 0, .int .i64 4]) [] else Post (.tup [.int .i64 (acc 0 (l.take (k + 1)) : Nat), .int .i64 (k + 1 : Nat), .int .i64 0]) []) →
    AWP Try.prog 60 0 c132_14 [(0, .str (B l)), (1, .int .i64 most), (7, .int .i64 k), (8, .int .i64 (acc 0 (l.take i) : Nat)), (9, .int .i64 i)] [] (q132_4 0 Post) := by
  intro m
  induction m with
  | zero =>
    intro i hm h
    refine v132_14 _ _ _ _ _ _ _ (condD (fun hc => by omega) fun hc => ?_)
    rw [show i = k + 1 by omega]
    refine condD (fun h1 => ?_) fun h1 => condD (fun h2 => ?_) fun h2 => ?_
    · rw [if_pos (by omega)] at h; exact h
    · rw [if_pos (by omega)] at h; exact h
    · rw [if_neg (by omega)] at h
      rw [show IntKind.wrap .i64 ((k : Int) + 1) = ((k + 1 : Nat) : Int) by rw [wrap64 (by omega) (by omega)]; simp]
      exact h
  | succ m ih =>
    intro i hm h
    refine v132_14 _ _ _ _ _ _ _ (condD (fun hc => needJ ?_ (needJ (by decide) ?_)) fun hc => by omega)
    · rw [B_size]; omega
    · have hx := acc_lt (l.take i) 0 0 (by simp)
      have hlen : (l.take i).length ≤ 5 := by simp; omega
      have hp : (128 : Nat) ^ (0 + (l.take i).length) ≤ 128 ^ 5 := Nat.pow_le_pow_right (by omega) (by omega)
      have h5 : (128 : Nat) ^ 5 = 34359738368 := by decide
      have e : acc 0 (l.take (i + 1)) = acc 0 (l.take i) * 128 + (l.getD i 0).toNat % 128 := by
        have : l.take (i + 1) = l.take i ++ [l.getD i 0] := by
          rw [List.take_add_one]
          simp [List.getElem?_eq_getElem (show i < l.length by omega)]
        rw [this, acc_append]; rfl
      have := ih (i + 1) (by omega) h
      rw [e] at this
      generalize acc 0 (l.take i) = x at this hx ⊢
      have hg : (B l).data.toList.getD (Int.toNat (i : Int)) 0 = l.getD i 0 := rfl
      rw [hg]
      generalize l.getD i 0 = c at this ⊢
      have hc8 : c.toNat < 256 := c.toNat_lt
      rw [show IntKind.wrap .i64 ((i : Int) + 1) = ((i + 1 : Nat) : Int) by rw [wrap64 (by omega) (by omega)]; simp]
      rw [show (128 : Int) = ((128 : Nat) : Int) from rfl, tmodN, wrap64 (x := (x : Int) * ((128 : Nat) : Int)) (by omega) (by omega), wrap64 (x := ((c.toNat % 128 : Nat) : Int)) (by omega) (by omega), wrap64 (by omega) (by omega)]
      have e2 : (x : Int) * ((128 : Nat) : Int) + ((c.toNat % 128 : Nat) : Int) = ((x * 128 + c.toNat % 128 : Nat) : Int) := by simp
      rw [e2]
      exact this

def lookP (Post : AV → List AObj → Prop) (most : Int) : Int ⊕ (Nat × Nat) → Prop
  | .inl e => Post (.tup [.int .i64 0, .int .i64 0, .int .i64 e]) []
  | .inr (n, k) => if (n : Int) > min most 1099511627776 then Post (.tup [.int .i64 0, .int .i64 0, .int .i64 4]) [] else Post (.tup [.int .i64 n, .int .i64 k, .int .i64 0]) []

theorem look6 {l : List UInt8} {most : Int} {Post : AV → List AObj → Prop} (hl : l.length ≤ 10 * big) : ∀ (m k : Nat), m + k = 6 → k ≤ l.length → (∀ j, j < k → 128 ≤ (l.getD j 0).toNat) → lookP Post most (scan 6 l 0 0) →
    AWP Try.prog 60 0 c132_6 [(0, .str (B l)), (1, .int .i64 most), (7, .int .i64 k)] [] (q132_2 0 Post) := by
  unfold big at hl
  -- behind the loop
  have tail : ∀ k, k ≤ 6 → k ≤ l.length → (∀ j, j < k → 128 ≤ (l.getD j 0).toNat) → (k < 6 → k < l.length → (l.getD k 0).toNat < 128) → lookP Post most (scan 6 l 0 0) →
      condP ((k : Int) == (6 : Int)) (Post (.tup [.int .i64 0, .int .i64 0, .int .i64 4]) [])
        (condP ((k : Int) == ((B l).size : Int)) (Post (.tup [.int .i64 0, .int .i64 0, .int .i64 2]) [])
          (AWP Try.prog 60 0 c132_14 [(0, .str (B l)), (1, .int .i64 most), (7, .int .i64 k), (8, .int .i64 0), (9, .int .i64 0)] [] (q132_4 0 Post))) := by
    intro k hk hkl hhi hlo h
    rw [scan_hi k l 0 0 6 hkl hk hhi] at h
    refine condE (fun e => ?_) fun e => condE (fun e2 => ?_) fun e2 => ?_
    · have : k = 6 := by omega
      subst this
      exact h
    · rw [B_size] at e2
      have : k = l.length := by omega
      rw [List.drop_eq_nil_of_le (by omega), show 6 - k = (5 - k) + 1 by omega] at h
      exact h
    · rw [B_size] at e2
      have hlt : (l.getD k 0).toNat < 128 := hlo (by omega) (by omega)
      rw [getD_drop l k (by omega), show 6 - k = (5 - k) + 1 by omega] at h
      simp only [scan, if_neg (show ¬ 128 ≤ (l.getD k 0).toNat by omega)] at h
      refine look14 (by omega) (by omega) (k + 1) 0 rfl ?_
      have e : acc 0 (l.take (k + 1)) = acc 0 (l.take k) * 128 + (l.getD k 0).toNat % 128 := by
        have : l.take (k + 1) = l.take k ++ [l.getD k 0] := by
          rw [List.take_add_one]
          simp [List.getElem?_eq_getElem (show k < l.length by omega)]
        rw [this, acc_append]; rfl
      rw [e]
      simpa [lookP] using h
  intro m
  induction m with
  | zero =>
    intro k hm hkl hhi h
    have : k = 6 := by omega
    subst this
    refine v132_6 _ _ _ _ _ (condD (fun _ => condD (fun hc => by omega) fun _ => ?_) fun _ => ?_)
    · exact tail 6 (by omega) hkl hhi (fun h => by omega) h
    · exact tail 6 (by omega) hkl hhi (fun h => by omega) h
  | succ m ih =>
    intro k hm hkl hhi h
    refine v132_6 _ _ _ _ _ (condD (fun hc => condD (fun _ => needJ ?_ ?_) fun hc => by omega) fun hc => ?_)
    · exact ⟨by omega, hc⟩
    · rw [B_size] at hc
      have hg : (B l).data.toList.getD (Int.toNat (k : Int)) 0 = l.getD k 0 := rfl
      rw [hg]
      refine condD (fun hx => ?_) fun hx => ?_
      · rw [show IntKind.wrap .i64 ((k : Int) + 1) = ((k + 1 : Nat) : Int) by rw [wrap64 (by omega) (by omega)]; simp]
        refine ih (k + 1) (by omega) (by omega) (fun j hj => ?_) h
        by_cases e : j = k
        · subst e; omega
        · exact hhi j (by omega)
      · exact tail k (by omega) hkl hhi (fun _ _ => by omega) h
    · rw [B_size] at hc
      exact tail k (by omega) hkl hhi (fun _ h => by omega) h

theorem look_spec (l : List UInt8) (most : Int) (hl : l.length ≤ 10 * big) (H : List AObj) :
    ASpec Try.prog 132 [.str (B l), .int .i64 most] H (fun r H' => r = .tup [.int .i64 (lookM l most).1, .int .i64 (lookM l most).2.1, .int .i64 (lookM l most).2.2] ∧ H' = H) := by
  have k : ASpec Try.prog 132 [.str (B l), .int .i64 most] [] (fun r H' => r = .tup [.int .i64 (lookM l most).1, .int .i64 (lookM l most).2.1, .int .i64 (lookM l most).2.2] ∧ H' = []) := by
    refine s132 _ _ _ (condS (b := []) (fun e => ?_) fun e => ?_)
    · subst e; exact ⟨rfl, rfl⟩
    · cases l with
      | nil => exact (e rfl).elim
      | cons c l =>
        refine needJ ⟨by omega, by rw [B_size]; simp⟩ ?_
        have hg : (B (c :: l)).data.toList.getD 0 0 = c := rfl
        rw [hg]
        refine condE (fun h1 => ?_) fun h1 => ?_
        · have h1 : c = 128 := UInt8.toNat_inj.1 (by have : c.toNat = 128 := by omega
                                                     exact this)
          rw [show lookM (c :: l) most = (0, 0, 3) by simp only [lookM, if_pos h1]]
          exact ⟨rfl, rfl⟩
        · have h1 : c ≠ 128 := by intro e; rw [e] at h1; exact h1 rfl
          refine look6 hl 6 0 rfl (by omega) (fun j hj => by omega) ?_
          have e : lookM (c :: l) most = match scan 6 (c :: l) 0 0 with
            | .inl e => (0, 0, e)
            | .inr (n, k) => if (n : Int) > min most 1099511627776 then (0, 0, 4) else (n, k, 0) := by simp only [lookM, if_neg h1] <;> rfl
          rw [e]
          cases scan 6 (c :: l) 0 0 with
          | inl er => exact ⟨rfl, rfl⟩
          | inr nk =>
            obtain ⟨n, k⟩ := nk
            by_cases hm : (n : Int) > min most 1099511627776
            · simp [lookP, hm]
            · simp [lookP, hm]
  exact ASpec.pureH H k _ _ rfl rfl

end V
end

section
/- Readers as objects, in any heap; the chapter's examples. -/

set_option linter.unusedVariables false
set_option linter.unusedSimpArgs false
open Go Go.Ab Go.Proofs
namespace V

/-- a reader stands at id -/
abbrev At (H : List AObj) (id : Nat) (bs : List UInt8) (p : Nat) (e : Int) : Prop := H[id]? = some (rd bs p e)

theorem num_spec {H : List AObj} {id : Nat} {bs : List UInt8} {p : Nat} {e : Int} (most : Int) (hb : bs.length ≤ big) (hp : p ≤ bs.length) (h : At H id bs p e) :
    ASpec Try.prog 92 [.ptr id 0, .int .i64 most] H (fun r H' => r = .int .i64 (numM bs p e most).1 ∧ H' = H.set id (rd bs (numM bs p e most).2.1 (numM bs p e most).2.2)) :=
  ASpec.oneH H id (num_spec0 e most hb hp) _ _ _ rfl rfl h rfl

theorem str_spec {H : List AObj} {id : Nat} {bs : List UInt8} {p : Nat} {e : Int} (most : Int) (hb : bs.length ≤ big) (hp : p ≤ bs.length) (h : At H id bs p e) :
    ASpec Try.prog 90 [.ptr id 0, .int .i64 most] H (fun r H' => r = .str (B (strM bs p e most).1) ∧ H' = H.set id (rd bs (strM bs p e most).2.1 (strM bs p e most).2.2)) :=
  ASpec.oneH H id (str_spec0 e most hb hp) _ _ _ rfl rfl h rfl

theorem set_same {α : Type _} {l : List α} {i : Nat} {a : α} (h : l[i]? = some a) : l.set i a = l := by
  apply List.ext_getElem?
  intro j
  rw [List.getElem?_set]
  split
  · rename_i e; subst e
    have := (List.getElem?_eq_some_iff.1 h).1
    simp only [this, if_true]
    exact h.symm
  · rfl

theorem err_spec {H : List AObj} {id : Nat} {bs : List UInt8} {p : Nat} {e : Int} (h : At H id bs p e) : ASpec Try.prog 123 [.ptr id 0] H (fun r H' => r = .int .i64 e ∧ H' = H) := by
  have k : ASpec Try.prog 123 [.ptr 0 0] [rd bs p e] (fun r H' => r = .int .i64 e ∧ H' = [rd bs p e]) := s123 _ _ _ _ ⟨rfl, rfl⟩
  have := ASpec.oneH H id k [.ptr id 0] (.int .i64 e) (rd bs p e) rfl rfl h rfl
  rw [set_same h] at this
  exact this

theorem left_spec {H : List AObj} {id : Nat} {bs : List UInt8} {p : Nat} {e : Int} (hb : bs.length ≤ big) (hp : p ≤ bs.length) (h : At H id bs p e) : ASpec Try.prog 124 [.ptr id 0] H (fun r H' => r = .int .i64 (bs.length - p : Nat) ∧ H' = H) := by
  have k : ASpec Try.prog 124 [.ptr 0 0] [rd bs p e] (fun r H' => r = .int .i64 (bs.length - p : Nat) ∧ H' = [rd bs p e]) := by
    refine s124 _ _ _ _ ⟨?_, rfl⟩
    unfold big at hb
    rw [wrap64 (by omega) (by omega)]
    congr 1
    omega
  have := ASpec.oneH H id k [.ptr id 0] (.int .i64 (bs.length - p : Nat)) (rd bs p e) rfl rfl h rfl
  rw [set_same h] at this
  exact this

theorem copied_all (bs : List UInt8) (l : List (List AV)) (hl : l.length = bs.length) : (copied (.raw l) 0 (.map encB 0 bs)).toList = bs.map encB := by
  simp [copied, Seq.toList, hl]

theorem open_spec (bs : List UInt8) (hb : bs.length ≤ big) (H : List AObj) : ASpec Try.prog 88 [.sl 1 (.map encB 0 bs) .none] H (fun r H' => r = .ptr H.length 0 ∧ H' = H ++ [rd bs 0 0]) := by
  have k : ASpec Try.prog 88 [.sl 1 (.map encB 0 bs) .none] [] (fun r H' => r = .ptr 0 0 ∧ H' = [rd bs 0 0]) := by
    unfold big at hb
    refine s88 _ _ _ (needJ ⟨by omega, by omega, by omega, by omega⟩ (needJ oneB (needJ (by simp) ?_)))
    generalize hq : copied _ _ _ = q
    have hq2 : q.toList = bs.map encB := by rw [← hq]; exact copied_all _ _ (by simp)
    refine AWP.re (ReSt.freeze (id := 0) (sz := 1) (q := q) (s2 := [(3, .sl 1 (.map encB 0 bs) .none)]) rfl (by simp) (fun d => ?_)) ?_
    · by_cases e : d = 3
      · subst e
        right; right
        exact ⟨0, bs.length, .map encB 0 bs, rfl, by rw [hq2]; simp, rfl, by rw [hq2]; simp [Seq.toList, List.take_of_length_le]⟩
      · left
        have : Nat.beq 3 d = false := by
          cases hx : Nat.beq 3 d with
          | false => rfl
          | true => exact absurd (Nat.eq_of_beq_eq_true hx).symm e
        simp only [Ab.get, this]; rfl
    · exact AWP.shape [] [(3, .sl 1 (.map encB 0 bs) .none)] [] Sel.none ⟨rfl, Le.refl _, trivial⟩ (v88_3 _ _ _ ⟨rfl, rfl⟩)
  exact ASpec.anyH H k _ _ _ rfl rfl rfl

end V
end

section
/- VlqOrder: the law's function returns true. -/

set_option linter.unusedVariables false
set_option linter.unusedSimpArgs false
open Go Go.Ab Go.Proofs
namespace V

end V
end

section
/- VlqBack: what was put is read: the law's function returns true. -/

set_option linter.unusedVariables false
set_option linter.unusedSimpArgs false
open Go Go.Ab Go.Proofs
namespace V

end V
end

section
/- The document's reader, and a reader that is none: what their methods compute, in any heap. -/

set_option linter.unusedVariables false
set_option linter.unusedSimpArgs false
open Go Go.Ab Go.Proofs
namespace V

/-- the document's reader -/
abbrev dr (l : List UInt8) (e : Int) : AObj := .cells [.str (B l), .int .i64 e]
abbrev AtD (H : List AObj) (id : Nat) (l : List UInt8) (e : Int) : Prop := H[id]? = some (dr l e)

def dnumM (l : List UInt8) (e most : Int) : Int × List UInt8 × Int :=
  if e ≠ 0 then (0, l, e) else ((lookM l most).1, l.drop (lookM l most).2.1, (lookM l most).2.2)
def dstrM (l : List UInt8) (e most : Int) : List UInt8 × List UInt8 × Int :=
  if e ≠ 0 then ([], l, e) else if (lookM l most).2.2 ≠ 0 then ([], l, (lookM l most).2.2) else
    if (lookM l most).1 > (l.length : Int) - ((lookM l most).2.1 : Nat) then ([], l, 2) else
    ((l.drop (lookM l most).2.1).take (lookM l most).1.toNat, l.drop ((lookM l most).2.1 + (lookM l most).1.toNat), 0)

theorem dnum_spec0 (l : List UInt8) (e most : Int) (hl : l.length ≤ 10 * big) :
    ASpec Try.prog 111 [.ptr 0 0, .int .i64 most] [dr l e] (fun r H' => r = .int .i64 (dnumM l e most).1 ∧ H' = [dr (dnumM l e most).2.1 (dnumM l e most).2.2]) := by
  refine s111 _ _ _ _ (condNe (fun he => ?_) fun he => ?_)
  · rw [show dnumM l e most = (0, l, e) by simp only [dnumM, if_pos he]]
    exact ⟨rfl, rfl⟩
  · subst he
    rw [show dnumM l 0 most = ((lookM l most).1, l.drop (lookM l most).2.1, (lookM l most).2.2) by simp [dnumM]]
    obtain ⟨h1, h2, h3, h4⟩ := lookM_le l most
    refine ASpec.call (look_spec l most hl _) (Les.refl _) ⟨((lookM l most).1, ((lookM l most).2.1 : Nat), (lookM l most).2.2), rfl, rfl, needJ ?_ ⟨rfl, ?_⟩⟩
    · simp only [B_size]; omega
    · simp only [Int.toNat_natCast, B_size]
      rw [B_extract _ _ _ (Nat.le_refl _), List.take_of_length_le (Nat.le_refl _)]

theorem dstr_spec0 (l : List UInt8) (e most : Int) (hl : l.length ≤ 10 * big) :
    ASpec Try.prog 110 [.ptr 0 0, .int .i64 most] [dr l e] (fun r H' => r = .str (B (dstrM l e most).1) ∧ H' = [dr (dstrM l e most).2.1 (dstrM l e most).2.2]) := by
  refine s110 _ _ _ _ (condNe (fun he => ?_) fun he => ?_)
  · rw [show dstrM l e most = ([], l, e) by simp only [dstrM, if_pos he]]
    exact ⟨rfl, rfl⟩
  · subst he
    obtain ⟨h1, h2, h3, h4⟩ := lookM_le l most
    refine ASpec.call (look_spec l most hl _) (Les.refl _) ⟨((lookM l most).1, ((lookM l most).2.1 : Nat), (lookM l most).2.2), rfl, rfl, ?_⟩
    have hs : dstrM l 0 most = if (lookM l most).2.2 ≠ 0 then ([], l, (lookM l most).2.2) else
      if (lookM l most).1 > (l.length : Int) - ((lookM l most).2.1 : Nat) then ([], l, 2) else
      ((l.drop (lookM l most).2.1).take (lookM l most).1.toNat, l.drop ((lookM l most).2.1 + (lookM l most).1.toNat), 0) := by simp [dstrM]
    rw [hs]
    generalize lookM l most = q at h1 h2 h3 h4 ⊢
    obtain ⟨n, k, er⟩ := q
    unfold big at hl
    simp only at h1 h2 h3 h4 ⊢
    simp only [B_size]
    refine condE (fun he => ?_) fun he => ?_
    · subst he
      rw [wrap64 (x := (l.length : Int) - ((k : Nat) : Int)) (by omega) (by omega)]
      refine condD (fun hg => ?_) fun hg => ?_
      · rw [if_neg (by simp), if_pos hg]; exact ⟨rfl, rfl⟩
      · rw [if_neg (by simp), if_neg hg]
        have hw : IntKind.wrap .i64 (((k : Nat) : Int) + n) = ((k + n.toNat : Nat) : Int) := by
          rw [wrap64 (x := ((k : Nat) : Int) + n) (by omega) (by omega)]; omega
        refine condNe (fun h => (h rfl).elim) fun _ => ?_
        rw [hw]
        refine needJ (by omega) (needJ (by omega) ?_)
        simp only [Int.toNat_natCast]
        rw [B_extract _ _ _ (by omega), B_extract _ _ _ (Nat.le_refl _), List.take_of_length_le (Nat.le_refl _), List.drop_take, show k + n.toNat - k = n.toNat by omega]
        exact ⟨rfl, rfl⟩
    · refine condNe (fun h => ?_) fun h => (he h).elim
      rw [if_pos he]; exact ⟨rfl, rfl⟩

theorem dnum_spec {H : List AObj} {id : Nat} {l : List UInt8} {e : Int} (most : Int) (hl : l.length ≤ 10 * big) (h : AtD H id l e) :
    ASpec Try.prog 111 [.ptr id 0, .int .i64 most] H (fun r H' => r = .int .i64 (dnumM l e most).1 ∧ H' = H.set id (dr (dnumM l e most).2.1 (dnumM l e most).2.2)) :=
  ASpec.oneH H id (dnum_spec0 l e most hl) _ _ _ rfl rfl h rfl
theorem dstr_spec {H : List AObj} {id : Nat} {l : List UInt8} {e : Int} (most : Int) (hl : l.length ≤ 10 * big) (h : AtD H id l e) :
    ASpec Try.prog 110 [.ptr id 0, .int .i64 most] H (fun r H' => r = .str (B (dstrM l e most).1) ∧ H' = H.set id (dr (dstrM l e most).2.1 (dstrM l e most).2.2)) :=
  ASpec.oneH H id (dstr_spec0 l e most hl) _ _ _ rfl rfl h rfl

def closeM (e : Int) (left : Nat) : Int := if e ≠ 0 then e else if 0 < left then 3 else 0

theorem close_spec {H : List AObj} {id : Nat} {bs : List UInt8} {p : Nat} {e : Int} (hb : bs.length ≤ big) (hp : p ≤ bs.length) (h : At H id bs p e) :
    ASpec Try.prog 98 [.ptr id 0] H (fun r H' => r = .int .i64 (closeM e (bs.length - p)) ∧ H' = H) := by
  have k : ASpec Try.prog 98 [.ptr 0 0] [rd bs p e] (fun r H' => r = .int .i64 (closeM e (bs.length - p)) ∧ H' = [rd bs p e]) := by
    refine s98 _ _ _ _ (ASpec.call (err_spec (id := 0) (bs := bs) (p := p) (e := e) rfl) (Les.refl _) ⟨e, rfl, rfl, ?_⟩)
    refine condNe (fun he => ?_) fun he => ?_
    · rw [show closeM e (bs.length - p) = e from if_pos he]; exact ⟨rfl, rfl⟩
    · subst he
      refine ASpec.call (left_spec (id := 0) (bs := bs) (p := p) (e := 0) hb hp rfl) (Les.refl _) ⟨_, rfl, rfl, ?_⟩
      refine condD (fun hc => ?_) fun hc => ?_
      · rw [show closeM 0 (bs.length - p) = 3 by simp only [closeM]; rw [if_neg (by simp), if_pos (by omega)]]; exact ⟨rfl, rfl⟩
      · rw [show closeM 0 (bs.length - p) = 0 by simp only [closeM]; rw [if_neg (by simp), if_neg (by omega)]]; exact ⟨rfl, rfl⟩
  have := ASpec.oneH H id k [.ptr id 0] (.int .i64 (closeM e (bs.length - p))) (rd bs p e) rfl rfl h rfl
  rw [set_same h] at this
  exact this

theorem condSn {a b : List UInt8} {A C : Prop} (h1 : a ≠ b → A) (h2 : a = b → C) : condP (!(B a).toList == (B b).toList) A C := by
  rw [B_beq]
  by_cases h : a = b
  · rw [beq_iff_eq.2 h]; exact h2 h
  · rw [beq_eq_false_iff_ne.2 h]; exact h1 h

theorem dclose_spec {H : List AObj} {id : Nat} {l : List UInt8} {e : Int} (h : AtD H id l e) :
    ASpec Try.prog 113 [.ptr id 0] H (fun r H' => r = .int .i64 (closeM e l.length) ∧ H' = H) := by
  have k : ASpec Try.prog 113 [.ptr 0 0] [dr l e] (fun r H' => r = .int .i64 (closeM e l.length) ∧ H' = [dr l e]) := by
    refine s113 _ _ _ (condE (fun he => condSn (b := []) (fun hl => ?_) fun hl => ?_) fun he => ?_)
    · subst he
      rw [show closeM 0 l.length = 3 by simp only [closeM]; rw [if_neg (by simp), if_pos (List.length_pos_iff.2 hl)]]; exact ⟨rfl, rfl⟩
    · subst he; subst hl
      exact ⟨rfl, rfl⟩
    · rw [show closeM e l.length = e from if_pos he]; exact ⟨rfl, rfl⟩
  have := ASpec.oneH H id k [.ptr id 0] (.int .i64 (closeM e l.length)) (dr l e) rfl rfl h rfl
  rw [set_same h] at this
  exact this

/-! ### a reader that is none -/

/-! ### the reader and the document's -/

theorem num_doc (bs : List UInt8) (p : Nat) (e most : Int) (hp : p ≤ bs.length) :
    dnumM (bs.drop p) e most = ((numM bs p e most).1, bs.drop (numM bs p e most).2.1, (numM bs p e most).2.2) ∧ (numM bs p e most).2.1 ≤ bs.length := by
  have h := (lookM_le (bs.drop p) most).1
  rw [List.length_drop] at h
  unfold dnumM numM
  split
  · exact ⟨rfl, hp⟩
  · refine ⟨by simp [List.drop_drop], by simp only; omega⟩

theorem str_doc (bs : List UInt8) (p : Nat) (e most : Int) (hp : p ≤ bs.length) :
    dstrM (bs.drop p) e most = ((strM bs p e most).1, bs.drop (strM bs p e most).2.1, (strM bs p e most).2.2) ∧ (strM bs p e most).2.1 ≤ bs.length := by
  obtain ⟨h, h2, -, -⟩ := lookM_le (bs.drop p) most
  rw [List.length_drop] at h
  unfold dstrM strM
  simp only [List.length_drop]
  split
  · exact ⟨rfl, hp⟩
  split
  · exact ⟨rfl, hp⟩
  split
  · rename_i hg
    rw [if_pos (by omega)]
    exact ⟨rfl, hp⟩
  · rename_i hg
    rw [if_neg (by omega)]
    refine ⟨by simp [List.drop_drop, Nat.add_assoc], by simp only; omega⟩

end V
end

section
/- Stamps: what the code and the document sum up, close and open. -/

set_option linter.unusedVariables false
set_option linter.unusedSimpArgs false
open Go Go.Ab Go.Proofs V
namespace Go.Ab

theorem Le.tup {l r : List AV} (h : Les l r) : Le (.tup l) (.tup r) := by
  intro M w loc v hv
  cases hv with
  | tup _ vs hs hr =>
    have hl := h.len
    exact .tup _ vs (by omega) fun i hi => h.get i (by omega) hi M w loc _ (hr i (by omega))

theorem Le.agg {l r : List AV} (h : Les l r) : Le (.agg l) (.agg r) := by
  intro M w loc v hv
  cases hv with
  | agg _ vs hs hr =>
    have hl := h.len
    exact .agg _ vs (by omega) fun i hi => h.get i (by omega) hi M w loc _ (hr i (by omega))

end Go.Ab
namespace S

def fnv : Nat → List UInt8 → Nat
  | n, [] => n
  | n, c :: l => fnv ((n ^^^ c.toNat) * 16777619 % 4294967296) l

abbrev sum (l : List UInt8) : Nat := fnv 2166136261 l
/-! ### xor, bit by bit -/

/-! ### sums -/

/-! ### sealing -/

/-! ### opening -/

end S
end

section
/- Labels: runes, kinds, and which names may be. -/

set_option linter.unusedVariables false
set_option linter.unusedSimpArgs false
set_option maxRecDepth 100000
open Go Go.Ab Go.Proofs V
namespace S

def kindM (c : Int) : Int := if 97 ≤ c ∧ c ≤ 122 then 0 else if 945 ≤ c ∧ c ≤ 969 then 1 else if 48 ≤ c ∧ c ≤ 57 then 2 else if c = 45 then 3 else 4

theorem kind_spec (c : Int) (H : List AObj) : ASpec Try.prog 63 [.int .i32 c] H (fun r H' => r = .int .i64 (kindM c) ∧ H' = H) := by
  have k : ASpec Try.prog 63 [.int .i32 c] [] (fun r H' => r = .int .i64 (kindM c) ∧ H' = []) := by
    refine s63 _ _ ?_
    repeat' (first | refine condD (fun _ => ?_) fun _ => ?_ | refine condE (fun _ => ?_) fun _ => ?_)
    all_goals (refine ⟨?_, rfl⟩; congr 1; unfold kindM; repeat' split)
    all_goals omega
  exact ASpec.pureH H k _ _ rfl rfl

theorem rkind_spec (c : Int) (H : List AObj) : ASpec Try.prog 56 [.int .i64 c] H (fun r H' => r = .int .i64 (kindM c) ∧ H' = H) := by
  have k : ASpec Try.prog 56 [.int .i64 c] [] (fun r H' => r = .int .i64 (kindM c) ∧ H' = []) := by
    refine s56 _ _ ?_
    repeat' (first | refine condD (fun _ => ?_) fun _ => ?_ | refine condE (fun _ => ?_) fun _ => ?_)
    all_goals (refine ⟨?_, rfl⟩; congr 1; unfold kindM; repeat' split)
    all_goals omega
  exact ASpec.pureH H k _ _ rfl rfl

theorem kindM_range (c : Int) : 0 ≤ kindM c ∧ kindM c ≤ 4 := by
  unfold kindM; repeat' split
  all_goals omega

/-! ### the rune at a place -/

/-- a byte behind a place -/
abbrev bt (l : List UInt8) (p k : Nat) : Nat := (l.getD (p + k) 0).toNat

theorem bt_lt (l : List UInt8) (p k : Nat) : bt l p k < 256 := (l.getD (p + k) 0).toNat_lt

theorem get_B (l : List UInt8) (j : Nat) : (B l).get! j = l.getD j 0 := by
  show l.toArray[j]! = _
  rw [getElem!_def]
  simp [List.getD]
  rfl

abbrev wideC (a b0 b1 b2 b3 : Nat) : Nat :=
  if 194 ≤ b0 ∧ b0 ≤ 223 then (if 2 ≤ a ∧ (128 ≤ b1 ∧ b1 ≤ 191) then 2 else 0)
  else if 224 ≤ b0 ∧ b0 ≤ 239 then (if 3 ≤ a ∧ (128 ≤ b1 ∧ b1 ≤ 191) ∧ (128 ≤ b2 ∧ b2 ≤ 191) ∧ ¬ (b0 = 224 ∧ b1 < 160) ∧ ¬ (b0 = 237 ∧ 159 < b1) then 3 else 0)
  else if 240 ≤ b0 ∧ b0 ≤ 244 then (if 4 ≤ a ∧ (128 ≤ b1 ∧ b1 ≤ 191) ∧ (128 ≤ b2 ∧ b2 ≤ 191) ∧ (128 ≤ b3 ∧ b3 ≤ 191) ∧ ¬ (b0 = 240 ∧ b1 < 144) ∧ ¬ (b0 = 244 ∧ 143 < b1) then 4 else 0)
  else 0

def wideM (l : List UInt8) (p : Nat) : Nat := wideC (l.length - p) (bt l p 0) (bt l p 1) (bt l p 2) (bt l p 3)

abbrev runeC (w b0 b1 b2 b3 : Nat) : Nat × Nat :=
  if b0 < 128 then (b0, 1) else if w = 0 then (65533, 1) else if w = 2 then (b0 % 32 * 64 + b1 % 64, 2)
  else if w = 3 then ((b0 % 16 * 64 + b1 % 64) * 64 + b2 % 64, 3) else (((b0 % 8 * 64 + b1 % 64) * 64 + b2 % 64) * 64 + b3 % 64, 4)

def runeM (l : List UInt8) (p : Nat) : Nat × Nat := runeC (wideM l p) (bt l p 0) (bt l p 1) (bt l p 2) (bt l p 3)

theorem decode_core (a b0 b1 b2 b3 : Nat) (h0 : b0 < 256) (h1 : b1 < 256) (h2 : b2 < 256) (h3 : b3 < 256) :
    (if b0 < 128 then (b0, 1)
     else if b0 / 32 = 6 ∧ (1 < a ∧ b1 / 64 = 2) then (if 128 ≤ b0 % 32 * 64 + b1 % 64 then (b0 % 32 * 64 + b1 % 64, 2) else (65533, 1))
     else if b0 / 16 = 14 ∧ (1 < a ∧ b1 / 64 = 2) ∧ (2 < a ∧ b2 / 64 = 2) then
       (if 2048 ≤ b0 % 16 * 4096 + b1 % 64 * 64 + b2 % 64 ∧ (b0 % 16 * 4096 + b1 % 64 * 64 + b2 % 64 < 55296 ∨ (57344 ≤ b0 % 16 * 4096 + b1 % 64 * 64 + b2 % 64 ∧ b0 % 16 * 4096 + b1 % 64 * 64 + b2 % 64 ≤ 1114111))
        then (b0 % 16 * 4096 + b1 % 64 * 64 + b2 % 64, 3) else (65533, 1))
     else if b0 / 8 = 30 ∧ (1 < a ∧ b1 / 64 = 2) ∧ (2 < a ∧ b2 / 64 = 2) ∧ (3 < a ∧ b3 / 64 = 2) then
       (if 65536 ≤ b0 % 8 * 262144 + b1 % 64 * 4096 + b2 % 64 * 64 + b3 % 64 ∧ (b0 % 8 * 262144 + b1 % 64 * 4096 + b2 % 64 * 64 + b3 % 64 < 55296 ∨ (57344 ≤ b0 % 8 * 262144 + b1 % 64 * 4096 + b2 % 64 * 64 + b3 % 64 ∧ b0 % 8 * 262144 + b1 % 64 * 4096 + b2 % 64 * 64 + b3 % 64 ≤ 1114111))
        then (b0 % 8 * 262144 + b1 % 64 * 4096 + b2 % 64 * 64 + b3 % 64, 4) else (65533, 1))
     else ((65533 : Nat), (1 : Nat))) = runeC (wideC a b0 b1 b2 b3) b0 b1 b2 b3 := by
  have e2 : ∀ w : Nat, w = 0 ∨ w = 2 ∨ w = 3 ∨ w = 4 ∨ 4 < w ∨ w = 1 := by omega
  by_cases c0 : b0 < 128
  · rw [if_pos c0]; unfold runeC; rw [if_pos c0]
  rw [if_neg c0]
  unfold runeC
  rw [if_neg c0]
  by_cases c1 : 194 ≤ b0 ∧ b0 ≤ 223
  · unfold wideC
    rw [if_pos c1]
    by_cases d : 1 < a ∧ b1 / 64 = 2
    · rw [if_pos ⟨by omega, d⟩, if_pos (by omega), if_pos (show 2 ≤ a ∧ (128 ≤ b1 ∧ b1 ≤ 191) by omega)]; rfl
    · rw [if_neg (fun h => d h.2), if_neg (fun h => d h.2.1), if_neg (fun h => d h.2.1), if_neg (show ¬ (2 ≤ a ∧ (128 ≤ b1 ∧ b1 ≤ 191)) by omega)]; rfl
  by_cases c2 : 224 ≤ b0 ∧ b0 ≤ 239
  · unfold wideC
    rw [if_neg c1, if_pos c2]
    rw [if_neg (show ¬ (b0 / 32 = 6 ∧ (1 < a ∧ b1 / 64 = 2)) by omega)]
    by_cases d : (1 < a ∧ b1 / 64 = 2) ∧ (2 < a ∧ b2 / 64 = 2)
    · rw [if_pos ⟨by omega, d⟩]
      by_cases f : ¬ (b0 = 224 ∧ b1 < 160) ∧ ¬ (b0 = 237 ∧ 159 < b1)
      · rw [if_pos (show 3 ≤ a ∧ (128 ≤ b1 ∧ b1 ≤ 191) ∧ (128 ≤ b2 ∧ b2 ≤ 191) ∧ ¬ (b0 = 224 ∧ b1 < 160) ∧ ¬ (b0 = 237 ∧ 159 < b1) by omega), if_pos (by omega)]
        simp only [if_neg (show ¬ (3 = 0) by omega), if_neg (show ¬ (3 = 2) by omega), if_true]
        rw [show b0 % 16 * 4096 + b1 % 64 * 64 + b2 % 64 = (b0 % 16 * 64 + b1 % 64) * 64 + b2 % 64 by omega]
      · rw [if_neg (show ¬ (3 ≤ a ∧ (128 ≤ b1 ∧ b1 ≤ 191) ∧ (128 ≤ b2 ∧ b2 ≤ 191) ∧ ¬ (b0 = 224 ∧ b1 < 160) ∧ ¬ (b0 = 237 ∧ 159 < b1)) by omega), if_neg (by omega)]; rfl
    · rw [if_neg (fun h => d h.2), if_neg (show ¬ (b0 / 8 = 30 ∧ (1 < a ∧ b1 / 64 = 2) ∧ (2 < a ∧ b2 / 64 = 2) ∧ (3 < a ∧ b3 / 64 = 2)) by omega),
        if_neg (show ¬ (3 ≤ a ∧ (128 ≤ b1 ∧ b1 ≤ 191) ∧ (128 ≤ b2 ∧ b2 ≤ 191) ∧ ¬ (b0 = 224 ∧ b1 < 160) ∧ ¬ (b0 = 237 ∧ 159 < b1)) by omega)]; rfl
  by_cases c3 : 240 ≤ b0 ∧ b0 ≤ 244
  · unfold wideC
    rw [if_neg c1, if_neg c2, if_pos c3]
    rw [if_neg (show ¬ (b0 / 32 = 6 ∧ (1 < a ∧ b1 / 64 = 2)) by omega), if_neg (show ¬ (b0 / 16 = 14 ∧ (1 < a ∧ b1 / 64 = 2) ∧ (2 < a ∧ b2 / 64 = 2)) by omega)]
    by_cases d : (1 < a ∧ b1 / 64 = 2) ∧ (2 < a ∧ b2 / 64 = 2) ∧ (3 < a ∧ b3 / 64 = 2)
    · rw [if_pos ⟨by omega, d⟩]
      by_cases f : ¬ (b0 = 240 ∧ b1 < 144) ∧ ¬ (b0 = 244 ∧ 143 < b1)
      · rw [if_pos (show 4 ≤ a ∧ (128 ≤ b1 ∧ b1 ≤ 191) ∧ (128 ≤ b2 ∧ b2 ≤ 191) ∧ (128 ≤ b3 ∧ b3 ≤ 191) ∧ ¬ (b0 = 240 ∧ b1 < 144) ∧ ¬ (b0 = 244 ∧ 143 < b1) by omega), if_pos (by omega)]
        simp only [if_neg (show ¬ (4 = 0) by omega), if_neg (show ¬ (4 = 2) by omega), if_neg (show ¬ (4 = 3) by omega)]
        rw [show b0 % 8 * 262144 + b1 % 64 * 4096 + b2 % 64 * 64 + b3 % 64 = ((b0 % 8 * 64 + b1 % 64) * 64 + b2 % 64) * 64 + b3 % 64 by omega]
      · rw [if_neg (show ¬ (4 ≤ a ∧ (128 ≤ b1 ∧ b1 ≤ 191) ∧ (128 ≤ b2 ∧ b2 ≤ 191) ∧ (128 ≤ b3 ∧ b3 ≤ 191) ∧ ¬ (b0 = 240 ∧ b1 < 144) ∧ ¬ (b0 = 244 ∧ 143 < b1)) by omega), if_neg (by omega)]; rfl
    · rw [if_neg (fun h => d h.2), if_neg (show ¬ (4 ≤ a ∧ (128 ≤ b1 ∧ b1 ≤ 191) ∧ (128 ≤ b2 ∧ b2 ≤ 191) ∧ (128 ≤ b3 ∧ b3 ≤ 191) ∧ ¬ (b0 = 240 ∧ b1 < 144) ∧ ¬ (b0 = 244 ∧ 143 < b1)) by omega)]; rfl
  · unfold wideC
    rw [if_neg c1, if_neg c2, if_neg c3]
    by_cases d : b0 / 32 = 6 ∧ (1 < a ∧ b1 / 64 = 2)
    · rw [if_pos d, if_neg (by omega)]; rfl
    rw [if_neg d, if_neg (show ¬ (b0 / 16 = 14 ∧ (1 < a ∧ b1 / 64 = 2) ∧ (2 < a ∧ b2 / 64 = 2)) by omega)]
    by_cases f : b0 / 8 = 30 ∧ (1 < a ∧ b1 / 64 = 2) ∧ (2 < a ∧ b2 / 64 = 2) ∧ (3 < a ∧ b3 / 64 = 2)
    · rw [if_pos f, if_neg (by omega)]; rfl
    · rw [if_neg f]; rfl

theorem validN (n : Nat) : Utf8.valid (n : Int) = (decide (n < 55296) || (decide (57344 ≤ n) && decide (n ≤ 1114111))) := by
  unfold Utf8.valid
  rw [Bool.eq_iff_iff]
  simp only [Bool.and_eq_true, Bool.or_eq_true, decide_eq_true_eq]
  omega

set_option maxRecDepth 100000 in
theorem decode_eq (l : List UInt8) (p : Nat) (hp : p < l.length) : Utf8.decode (B l) p = runeM l p := by
  unfold runeM wideM
  rw [← decode_core (l.length - p) _ _ _ _ (bt_lt l p 0) (bt_lt l p 1) (bt_lt l p 2) (bt_lt l p 3)]
  have hb : ∀ k, ((B l).get! (p + k)).toNat = bt l p k := fun k => by rw [get_B]
  have hc : ∀ k, decide (p + k < (B l).size) = decide (k < l.length - p) := fun k => by rw [B_size]; apply decide_eq_decide.2; omega
  unfold Utf8.decode
  simp only [hb, hc, validN]
  generalize bt l p 0 = b0
  generalize bt l p 1 = b1
  generalize bt l p 2 = b2
  generalize bt l p 3 = b3
  generalize l.length - p = a
  simp only [Utf8.runeError, Bool.and_eq_true, Bool.or_eq_true, decide_eq_true_eq, beq_iff_eq, ge_iff_le, and_assoc]

theorem runeM_width (l : List UInt8) (p : Nat) : 1 ≤ (runeM l p).2 ∧ (runeM l p).2 ≤ 4 := by
  unfold runeM runeC
  repeat' split
  all_goals simp

theorem wideM_cases (l : List UInt8) (p : Nat) : wideM l p = 0 ∨ (wideM l p = 2 ∧ 194 ≤ bt l p 0 ∧ bt l p 0 ≤ 223 ∧ p + 2 ≤ l.length) ∨
    (wideM l p = 3 ∧ 224 ≤ bt l p 0 ∧ bt l p 0 ≤ 239 ∧ p + 3 ≤ l.length ∧ (128 ≤ bt l p 1 ∧ bt l p 1 ≤ 191) ∧ ¬ (bt l p 0 = 224 ∧ bt l p 1 < 160)) ∨
    (wideM l p = 4 ∧ 240 ≤ bt l p 0 ∧ bt l p 0 ≤ 244 ∧ p + 4 ≤ l.length ∧ (128 ≤ bt l p 1 ∧ bt l p 1 ≤ 191) ∧ ¬ (bt l p 0 = 240 ∧ bt l p 1 < 144)) := by
  unfold wideM wideC
  repeat' split
  all_goals omega

/-- a rune that a name may have has two bytes at most -/
theorem runeM_small {l : List UInt8} {p : Nat} (h : kindM ((runeM l p).1 : Nat) ≤ 3) : (runeM l p).2 ≤ 2 := by
  have hk : ((runeM l p).1 : Int) ≤ 969 := by
    unfold kindM at h
    repeat' split at h
    all_goals omega
  rcases wideM_cases l p with e | ⟨e, h1⟩ | ⟨e, h1, h2, h3, h4, h5⟩ | ⟨e, h1, h2, h3, h4, h5⟩
  · unfold runeM runeC
    repeat' split
    all_goals simp_all
  · unfold runeM runeC
    repeat' split
    all_goals simp_all
  · exfalso
    unfold runeM runeC at hk
    rw [e] at hk
    rw [if_neg (by omega), if_neg (by omega), if_neg (by omega), if_pos rfl] at hk
    simp only at hk
    omega
  · exfalso
    unfold runeM runeC at hk
    rw [e] at hk
    rw [if_neg (by omega), if_neg (by omega), if_neg (by omega), if_neg (by omega)] at hk
    simp only at hk
    omega

/-! ### the document's walk over a rune's bytes -/

section
variable {l : List UInt8} {p : Nat} {Post : AV → List AObj → Prop}

theorem btInt (hl : l.length ≤ 10 * big) (i : Nat) (hp : p + i < l.length) :
    IntKind.wrap .i64 ((p : Int) + (i : Int)) = ((p + i : Nat) : Int) := by
  unfold big at hl
  rw [wrap64 (by omega) (by omega)]; simp

theorem btGet (i : Nat) : ((List.getD (Array.toList (ByteArray.data (B l))) (p + i) 0).toNat : Int) = (bt l p i : Nat) := rfl

def nOf (b0 : Nat) : Nat := if 194 ≤ b0 ∧ b0 ≤ 223 then 2 else if 224 ≤ b0 ∧ b0 ≤ 239 then 3 else if 240 ≤ b0 ∧ b0 ≤ 244 then 4 else 0

theorem nOf_cases (b0 : Nat) : (nOf b0 = 2 ∧ 194 ≤ b0 ∧ b0 ≤ 223) ∨ (nOf b0 = 3 ∧ 224 ≤ b0 ∧ b0 ≤ 239) ∨ (nOf b0 = 4 ∧ 240 ≤ b0 ∧ b0 ≤ 244) ∨ (nOf b0 = 0 ∧ ¬ (194 ≤ b0 ∧ b0 ≤ 244)) := by
  unfold nOf
  repeat' split
  all_goals omega

theorem wide_short (h : l.length - p < nOf (bt l p 0) ∨ nOf (bt l p 0) = 0) : wideM l p = 0 := by
  have := nOf_cases (bt l p 0)
  unfold wideM wideC
  repeat' split
  all_goals omega

theorem wide_bad {i : Nat} (h1 : 1 ≤ i) (h2 : i < nOf (bt l p 0)) (h : bt l p i < 128 ∨ 191 < bt l p i) : wideM l p = 0 := by
  have := nOf_cases (bt l p 0)
  have hi : i = 1 ∨ i = 2 ∨ i = 3 := by omega
  unfold wideM wideC
  rcases hi with rfl | rfl | rfl <;> repeat' split
  all_goals omega

theorem wideC_no {a b0 b1 b2 b3 : Nat} (h : (b0 = 224 ∧ b1 < 160) ∨ (b0 = 237 ∧ 159 < b1) ∨ (b0 = 240 ∧ b1 < 144) ∨ (b0 = 244 ∧ 143 < b1)) : wideC a b0 b1 b2 b3 = 0 := by
  unfold wideC
  repeat' split
  all_goals omega

theorem wideC_yes {a n b0 b1 b2 b3 : Nat} (hcs : (n = 2 ∧ 194 ≤ b0 ∧ b0 ≤ 223) ∨ (n = 3 ∧ 224 ≤ b0 ∧ b0 ≤ 239) ∨ (n = 4 ∧ 240 ≤ b0 ∧ b0 ≤ 244)) (ha : n ≤ a) (hc1 : 128 ≤ b1 ∧ b1 ≤ 191) (hc2 : 2 < n → 128 ≤ b2 ∧ b2 ≤ 191) (hc3 : 3 < n → 128 ≤ b3 ∧ b3 ≤ 191)
    (k1 : ¬ (b0 = 224 ∧ b1 < 160)) (k2 : ¬ (b0 = 237 ∧ 159 < b1)) (k3 : ¬ (b0 = 240 ∧ b1 < 144)) (k4 : ¬ (b0 = 244 ∧ 143 < b1)) : wideC a b0 b1 b2 b3 = n := by
  unfold wideC
  rcases hcs with ⟨rfl, g1, g2⟩ | ⟨rfl, g1, g2⟩ | ⟨rfl, g1, g2⟩
  · rw [if_pos ⟨g1, g2⟩, if_pos ⟨ha, hc1⟩]
  · rw [if_neg (by omega), if_pos ⟨g1, g2⟩, if_pos ⟨ha, hc1, hc2 (by omega), k1, k2⟩]
  · rw [if_neg (by omega), if_neg (by omega), if_pos ⟨g1, g2⟩, if_pos ⟨ha, hc1, hc2 (by omega), hc3 (by omega), k3, k4⟩]

theorem w16 (hl : l.length ≤ 10 * big) (hn : nOf (bt l p 0) ≠ 0) (hp : p + nOf (bt l p 0) ≤ l.length) (hc : ∀ i, 1 ≤ i → i < nOf (bt l p 0) → 128 ≤ bt l p i ∧ bt l p i ≤ 191) (h : Post (.int .i64 (wideM l p : Nat)) []) :
    AWP Try.prog 96 0 c109_16 [(0, .str (B l)), (1, .int .i64 p), (5, .int .i64 (nOf (bt l p 0) : Nat)), (6, .int .i64 (bt l p 0 : Nat))] [] (q109_0 0 Post) := by
  have hcs := nOf_cases (bt l p 0)
  have h256 := bt_lt l p 1
  have e1 : IntKind.wrap .i64 ((p : Int) + 1) = ((p + 1 : Nat) : Int) := by unfold big at hl; rw [wrap64 (by omega) (by omega)]; simp
  have hc1 := hc 1 (by omega) (by omega)
  have hc2 : 2 < nOf (bt l p 0) → 128 ≤ bt l p 2 ∧ bt l p 2 ≤ 191 := hc 2 (by omega)
  have hc3 : 3 < nOf (bt l p 0) → 128 ≤ bt l p 3 ∧ bt l p 3 ≤ 191 := hc 3 (by omega)
  have hcs3 : (nOf (bt l p 0) = 2 ∧ 194 ≤ bt l p 0 ∧ bt l p 0 ≤ 223) ∨ (nOf (bt l p 0) = 3 ∧ 224 ≤ bt l p 0 ∧ bt l p 0 ≤ 239) ∨ (nOf (bt l p 0) = 4 ∧ 240 ≤ bt l p 0 ∧ bt l p 0 ≤ 244) := by omega
  have fin0 : (bt l p 0 = 224 ∧ bt l p 1 < 160) ∨ (bt l p 0 = 237 ∧ 159 < bt l p 1) ∨ (bt l p 0 = 240 ∧ bt l p 1 < 144) ∨ (bt l p 0 = 244 ∧ 143 < bt l p 1) → Post (.int .i64 0) [] := by
    intro hh
    have := wideC_no (a := l.length - p) (b2 := bt l p 2) (b3 := bt l p 3) hh
    unfold wideM at h
    rw [this] at h
    exact h
  have finn : ¬ (bt l p 0 = 224 ∧ bt l p 1 < 160) → ¬ (bt l p 0 = 237 ∧ 159 < bt l p 1) → ¬ (bt l p 0 = 240 ∧ bt l p 1 < 144) → ¬ (bt l p 0 = 244 ∧ 143 < bt l p 1) → Post (.int .i64 (nOf (bt l p 0) : Nat)) [] := by
    intro k1 k2 k3 k4
    have := wideC_yes (a := l.length - p) (b2 := bt l p 2) (b3 := bt l p 3) hcs3 (by omega) hc1 hc2 hc3 k1 k2 k3 k4
    unfold wideM at h
    rw [this] at h
    exact h
  have hn2 : 2 ≤ nOf (bt l p 0) := by omega
  clear hc hcs hcs3 hc2 hc3 h
  refine v109_16 _ _ _ _ _ _ ?_
  rw [e1, Int.toNat_natCast, btGet 1, wrapN (n := bt l p 1) (by omega)]
  refine needJ ⟨by omega, by rw [B_size]; omega⟩ ?_
  generalize nOf (bt l p 0) = n at *
  generalize bt l p 0 = b0 at *
  generalize bt l p 1 = b1 at *
  repeat' (first | refine condD (fun _ => ?_) fun _ => ?_ | refine condE (fun _ => ?_) fun _ => ?_)
  all_goals first
    | exact fin0 (by omega)
    | exact finn (by omega) (by omega) (by omega) (by omega)

theorem w12 (hl : l.length ≤ 10 * big) (hn : nOf (bt l p 0) ≠ 0) (hp : p + nOf (bt l p 0) ≤ l.length) (h : Post (.int .i64 (wideM l p : Nat)) []) :
    ∀ (m i : Nat), m + i = nOf (bt l p 0) → 1 ≤ i → (∀ j, 1 ≤ j → j < i → 128 ≤ bt l p j ∧ bt l p j ≤ 191) →
    AWP Try.prog 96 0 c109_12 [(0, .str (B l)), (1, .int .i64 p), (5, .int .i64 (nOf (bt l p 0) : Nat)), (6, .int .i64 (bt l p 0 : Nat)), (7, .int .i64 i)] [] (q109_2 0 Post) := by
  have hcs := nOf_cases (bt l p 0)
  intro m
  induction m with
  | zero =>
    intro i hm h1 hc
    refine v109_12 _ _ _ _ _ _ _ (condD (fun hi => by omega) fun _ => w16 hl hn hp (fun j a b => hc j a (by omega)) h)
  | succ m ih =>
    intro i hm h1 hc
    have e1 := btInt (p := p) hl i (by omega)
    refine v109_12 _ _ _ _ _ _ _ (condD (fun hi => ?_) fun hi => by omega)
    rw [e1, Int.toNat_natCast, btGet i]
    refine needJ ⟨by omega, by rw [B_size]; omega⟩ (condD (fun hb => ?_) fun hb => needJ ⟨by omega, by rw [B_size]; omega⟩ (condD (fun hb2 => ?_) fun hb2 => ?_))
    · rw [wide_bad (l := l) (p := p) h1 (by omega) (.inl (by omega))] at h; exact h
    · rw [wide_bad (l := l) (p := p) h1 (by omega) (.inr (by omega))] at h; exact h
    · rw [show IntKind.wrap .i64 ((i : Int) + 1) = ((i + 1 : Nat) : Int) by rw [wrap64 (by omega) (by omega)]; simp]
      refine ih (i + 1) (by omega) (by omega) (fun j a b => ?_)
      by_cases e : j = i
      · subst e; omega
      · exact hc j a (by omega)

theorem w9 (hl : l.length ≤ 10 * big) (hp : p < l.length) (h : Post (.int .i64 (wideM l p : Nat)) []) :
    AWP Try.prog 96 0 c109_9 [(0, .str (B l)), (1, .int .i64 p), (5, .int .i64 (nOf (bt l p 0) : Nat)), (6, .int .i64 (bt l p 0 : Nat))] [] (q109_0 0 Post) := by
  have hcs := nOf_cases (bt l p 0)
  have hl' := hl
  unfold big at hl'
  refine v109_9 _ _ _ _ _ _ (condE (fun e => ?_) fun e => ?_)
  · rw [wide_short (l := l) (p := p) (.inr (by omega))] at h; exact h
  rw [B_size, wrap64 (x := (l.length : Int) - (p : Int)) (by omega) (by omega)]
  refine condD (fun e2 => ?_) fun e2 => ?_
  · rw [wide_short (l := l) (p := p) (.inl (by omega))] at h; exact h
  · refine v109_11 _ _ _ _ _ _ ?_
    exact w12 hl (by omega) (by omega) h (nOf (bt l p 0) - 1) 1 (by omega) (by omega) (fun j a b => by omega)

theorem wide_spec0 (hl : l.length ≤ 10 * big) (hp : p < l.length) : ASpec Try.prog 109 [.str (B l), .int .i64 p] [] (fun r H' => r = .int .i64 (wideM l p : Nat) ∧ H' = []) := by
  have h256 := bt_lt l p 0
  have hcs := nOf_cases (bt l p 0)
  have k9 : ∀ n : Int, n = (nOf (bt l p 0) : Nat) → AWP Try.prog 96 0 c109_9 [(0, .str (B l)), (1, .int .i64 p), (5, .int .i64 n), (6, .int .i64 (bt l p 0 : Nat))] [] (q109_0 0 (fun r H' => r = .int .i64 (wideM l p : Nat) ∧ H' = [])) := by
    intro n e; subst e; exact w9 hl hp ⟨rfl, rfl⟩
  refine s109 _ _ _ (needJ ⟨by omega, by rw [B_size]; omega⟩ ?_)
  rw [Int.toNat_natCast, show ((List.getD (Array.toList (ByteArray.data (B l))) p 0).toNat : Int) = (bt l p 0 : Nat) from rfl, wrapN (n := bt l p 0) (by omega)]
  generalize nOf (bt l p 0) = n at *
  generalize bt l p 0 = b0 at *
  have k7 : ∀ m : Int, m = (if 240 ≤ b0 ∧ b0 ≤ 244 then m else (n : Int)) → AWP Try.prog 96 0 c109_7 [(0, .str (B l)), (1, .int .i64 p), (5, .int .i64 m), (6, .int .i64 (b0 : Nat))] [] (q109_0 0 (fun r H' => r = .int .i64 (wideM l p : Nat) ∧ H' = [])) := by
    intro m hm
    refine v109_7 _ _ _ _ _ _ (condD (fun _ => condD (fun _ => k9 _ (by omega)) fun _ => k9 _ ?_) fun _ => k9 _ ?_)
    · rw [if_neg (by omega)] at hm; exact hm
    · rw [if_neg (by omega)] at hm; exact hm
  have k5 : ∀ m : Int, m = (if 224 ≤ b0 ∧ b0 ≤ 244 then m else (n : Int)) → AWP Try.prog 96 0 c109_5 [(0, .str (B l)), (1, .int .i64 p), (5, .int .i64 m), (6, .int .i64 (b0 : Nat))] [] (q109_0 0 (fun r H' => r = .int .i64 (wideM l p : Nat) ∧ H' = [])) := by
    intro m hm
    refine v109_5 _ _ _ _ _ _ (condD (fun _ => condD (fun _ => k7 _ ?_) fun _ => k7 _ ?_) fun _ => k7 _ ?_)
    · rw [if_neg (by omega)]; omega
    · split
      · rfl
      · rw [if_neg (by omega)] at hm; exact hm
    · split
      · rfl
      · rw [if_neg (by omega)] at hm; exact hm
  refine condD (fun _ => condD (fun _ => k5 _ ?_) fun _ => k5 _ ?_) fun _ => k5 _ ?_
  · rw [if_neg (by omega)]; omega
  · split
    · rfl
    · omega
  · split
    · rfl
    · omega

theorem wide_spec (hl : l.length ≤ 10 * big) (hp : p < l.length) (H : List AObj) : ASpec Try.prog 109 [.str (B l), .int .i64 p] H (fun r H' => r = .int .i64 (wideM l p : Nat) ∧ H' = H) :=
  ASpec.pureH H (wide_spec0 hl hp) _ _ rfl rfl

end
end S
end

section
/- Which names may be: the code's walk and the document's. -/

set_option linter.unusedVariables false
set_option linter.unusedSimpArgs false
set_option maxRecDepth 100000
open Go Go.Ab Go.Proofs V
namespace S
theorem condBn {b : Bool} {A C : Prop} (h1 : b = false → A) (h2 : b = true → C) : condP (!b) A C := by cases b <;> simp_all [condP]
section
variable {l : List UInt8} {p : Nat}

def foldx (l : List UInt8) (p : Nat) : Nat → Nat → Nat → Nat
  | 0, _, x => x
  | m + 1, i, x => foldx l p m (i + 1) (x * 64 + bt l p i % 64)

theorem u12 {Post : AV → List AObj → Prop} (hl : l.length ≤ 10 * big) {n : Nat} (hn : n ≤ 4) (hp : p + n ≤ l.length) : ∀ (m i x : Nat), m + i = n → x < 64 ^ i → Post (.tup [.int .i64 (foldx l p m i x : Nat), .int .i64 n]) [] →
    AWP Try.prog 58 0 c74_12 [(0, .str (B l)), (1, .int .i64 p), (6, .int .i64 n), (7, .int .i64 x), (8, .int .i64 i)] [] (q74_2 0 Post) := by
  intro m
  induction m with
  | zero =>
    intro i x hm hx h
    exact v74_12 _ _ _ _ _ _ _ (condD (fun hi => by omega) fun _ => h)
  | succ m ih =>
    intro i x hm hx h
    have e1 := btInt (p := p) hl i (by omega)
    have h256 := bt_lt l p i
    have h4 : (64 : Nat) ^ i ≤ 64 ^ 4 := Nat.pow_le_pow_right (by omega) (by omega)
    have e4 : (64 : Nat) ^ 4 = 16777216 := by decide
    have hn := ih (i + 1) (x * 64 + bt l p i % 64) (by omega) (by rw [Nat.pow_succ]; omega) h
    refine v74_12 _ _ _ _ _ _ _ (condD (fun hi => ?_) fun hi => by omega)
    rw [e1, Int.toNat_natCast, btGet i]
    refine needJ ⟨by omega, by rw [B_size]; omega⟩ (needJ (by decide) ?_)
    generalize bt l p i = b at h256 hn ⊢
    have m64 : Int.tmod (b : Int) 64 = ((b % 64 : Nat) : Int) := tmodN b 64
    rw [wrapN (n := b) (by omega), m64, wrap64 (x := (x : Int) * 64) (by omega) (by omega), wrap64 (x := (x : Int) * 64 + ((b % 64 : Nat) : Int)) (by omega) (by omega)]
    rw [show IntKind.wrap .i64 ((i : Int) + 1) = ((i + 1 : Nat) : Int) by rw [wrap64 (by omega) (by omega)]; simp]
    rw [show (x : Int) * 64 + ((b % 64 : Nat) : Int) = ((x * 64 + b % 64 : Nat) : Int) by simp]
    exact hn

theorem rune_spec0 (hl : l.length ≤ 10 * big) (hp : p < l.length) :
    ASpec Try.prog 74 [.str (B l), .int .i64 p] [] (fun r H' => r = .tup [.int .i64 ((runeM l p).1 : Nat), .int .i64 ((runeM l p).2 : Nat)] ∧ H' = []) := by
  have h256 := bt_lt l p 0
  have hin : (0 : Int) ≤ (p : Int) ∧ (p : Int) < ((B l).size : Int) := ⟨by omega, by rw [B_size]; omega⟩
  have hcs := wideM_cases l p
  have hR : runeM l p = runeC (wideM l p) (bt l p 0) (bt l p 1) (bt l p 2) (bt l p 3) := rfl
  refine s74 _ _ _ (needJ hin ?_)
  rw [Int.toNat_natCast, show ((List.getD (Array.toList (ByteArray.data (B l))) p 0).toNat : Int) = (bt l p 0 : Nat) from rfl, wrapN (n := bt l p 0) (by omega)]
  have m32 : Int.tmod (bt l p 0 : Nat) 32 = ((bt l p 0 % 32 : Nat) : Int) := tmodN _ 32
  have m16 : Int.tmod (bt l p 0 : Nat) 16 = ((bt l p 0 % 16 : Nat) : Int) := tmodN _ 16
  have m8 : Int.tmod (bt l p 0 : Nat) 8 = ((bt l p 0 % 8 : Nat) : Int) := tmodN _ 8
  refine condD (fun hc => needJ hin ?_) fun hc => ?_
  · rw [hR, runeC, if_pos (by omega)]
    exact ⟨rfl, rfl⟩
  refine ASpec.call (wide_spec hl hp []) (Les.refl _) ⟨_, rfl, rfl, condE (fun h0 => ?_) fun h0 => needJ hin (needJ (by decide) ?_)⟩
  · rw [hR, runeC, if_neg (by omega), if_pos (by omega)]
    exact ⟨rfl, rfl⟩
  have key : ∀ (n x0 : Nat), n = wideM l p → x0 < 64 → foldx l p (n - 1) 1 x0 = (runeM l p).1 → n = (runeM l p).2 →
      AWP Try.prog 58 0 c74_11 [(0, .str (B l)), (1, .int .i64 p), (6, .int .i64 n), (7, .int .i64 x0)] [] (q74_0 0 (fun r H' => r = .tup [.int .i64 ((runeM l p).1 : Nat), .int .i64 ((runeM l p).2 : Nat)] ∧ H' = [])) := by
    intro n x0 hn hx e1 e2
    refine v74_11 _ _ _ _ _ _ (u12 hl (n := n) (by omega) (by omega) (n - 1) 1 x0 (by omega) hx ?_)
    rw [e1, e2]
    exact ⟨rfl, rfl⟩
  refine condE (fun h3 => needJ hin (needJ (by decide) ?_)) fun h3 => ?_
  · have hw : wideM l p = 3 := by omega
    rw [m16]
    refine v74_9 _ _ _ _ _ _ (condE (fun h => by omega) fun _ => key _ _ rfl (by omega) ?_ ?_)
    · rw [hR, runeC, if_neg (by omega), if_neg (by omega), if_neg (by omega), if_pos hw, hw]; rfl
    · rw [hR, runeC, if_neg (by omega), if_neg (by omega), if_neg (by omega), if_pos hw, hw]
  · rw [m32]
    refine v74_9 _ _ _ _ _ _ (condE (fun h => needJ hin (needJ (by decide) ?_)) fun h => key _ _ rfl (by omega) ?_ ?_)
    · have hw : wideM l p = 4 := by omega
      rw [Int.toNat_natCast, show ((List.getD (Array.toList (ByteArray.data (B l))) p 0).toNat : Int) = (bt l p 0 : Nat) from rfl, wrapN (n := bt l p 0) (by omega), m8]
      refine key _ _ rfl (by omega) ?_ ?_
      · rw [hR, runeC, if_neg (by omega), if_neg (by omega), if_neg (by omega), if_neg (by omega), hw]; rfl
      · rw [hR, runeC, if_neg (by omega), if_neg (by omega), if_neg (by omega), if_neg (by omega), hw]
    · have hw : wideM l p = 2 := by omega
      rw [hR, runeC, if_neg (by omega), if_neg (by omega), if_pos hw, hw]; rfl
    · have hw : wideM l p = 2 := by omega
      rw [hR, runeC, if_neg (by omega), if_neg (by omega), if_pos hw, hw]

theorem rune_spec (hl : l.length ≤ 10 * big) (hp : p < l.length) (H : List AObj) :
    ASpec Try.prog 74 [.str (B l), .int .i64 p] H (fun r H' => r = .tup [.int .i64 ((runeM l p).1 : Nat), .int .i64 ((runeM l p).2 : Nat)] ∧ H' = H) :=
  ASpec.pureH H (rune_spec0 hl hp) _ _ rfl rfl

/-! ### all runes -/

def runesF : Nat → List UInt8 → Nat → List Int
  | 0, _, _ => []
  | f + 1, l, p => if p < l.length then ((runeM l p).1 : Int) :: runesF f l (p + (runeM l p).2) else []
def runesM (l : List UInt8) : List Int := runesF l.length l 0

theorem leAppI {l : List Int} {x : Int} {H : List AObj} : Le (.sl 1 (.app (.map encI 0 l) (.raw [[.int .i64 x]])) (.tok 1)) (AV.ren (selR [1] H.length) (.sl 1 (.map encI 0 (l ++ [x])) (.tok 0))) := by
  refine Le.sl ?_ (.inl rfl) (.inl rfl)
  simp [Ab.Seq.toList, Seq.ren, encI, renL, AV.ren]

theorem runes3 {Post : AV → List AObj → Prop} (hl : l.length ≤ 1000000) : ∀ (f p : Nat) (acc : List Int), l.length - p ≤ f → acc.length ≤ p → p ≤ l.length + 4 → Post (.sl 1 (.map encI 0 (acc ++ runesF f l p)) (.tok 0)) [.tok] →
    AWP Try.prog 25 0 c55_3 [(0, .str (B l)), (3, .sl 1 (.map encI 0 acc) (.tok 0)), (4, .int .i64 p)] [.tok] (q55_2 0 Post) := by
  intro f
  induction f with
  | zero =>
    intro p acc hf ha hp h
    refine v55_3 _ _ _ _ _ (condD (fun hc => by rw [B_size] at hc; omega) fun _ => ?_)
    simpa [runesF] using h
  | succ f ih =>
    intro p acc hf ha hp h
    refine v55_3 _ _ _ _ _ (condD (fun hc => ?_) fun hc => ?_)
    · rw [B_size] at hc
      have hpl : p < l.length := by omega
      have hw := runeM_width l p
      refine ASpec.call (rune_spec (by unfold big; omega) hpl _) (Les.refl _) ⟨(((runeM l p).1 : Int), ((runeM l p).2 : Int)), rfl, rfl, needJ (by omega) ?_⟩
      rw [show IntKind.wrap .i64 ((p : Int) + ((runeM l p).2 : Int)) = ((p + (runeM l p).2 : Nat) : Int) by rw [wrap64 (by omega) (by omega)]; simp]
      refine AWP.shape [1] [(0, .str (B l)), (3, .sl 1 (.map encI 0 (acc ++ [((runeM l p).1 : Int)])) (.tok 0)), (4, .int .i64 (p + (runeM l p).2 : Nat))] _ selTok ⟨rfl, Le.refl _, rfl, leAppI, rfl, Le.refl _, trivial⟩ (ih (p + (runeM l p).2) (acc ++ [((runeM l p).1 : Int)]) (by omega) (by simp; omega) (by omega) ?_)
      simp only [runesF, if_pos hpl] at h
      simpa using h
    · rw [B_size] at hc
      simp only [runesF, if_neg (show ¬ p < l.length by omega)] at h
      simpa using h

theorem runes_spec (hl : l.length ≤ 1000000) (H : List AObj) : ASpec Try.prog 55 [.str (B l)] H (fun r H' => r = .sl 1 (.map encI 0 (runesM l)) .none ∧ H' = H) := by
  have k : ASpec Try.prog 55 [.str (B l)] [] (fun r H' => r = .sl 1 (.map encI 0 (runesM l)) .none ∧ H' = []) := by
    refine ASpec.sel (s55 _ _ ?_)
    refine AWP.re (ReSt.tok (k := 3) (q' := .map encI 0 []) (sz' := 1) (s2 := [(0, .str (B l)), (3, .sl 1 (.map encI 0 []) (.tok 0)), (4, .int .i64 0)]) rfl (.inl rfl) rfl (.inr rfl) (fun d hd => ?_) rfl) ?_
    · simp only [Ab.get]
      have e : Nat.beq 3 d = false := by
        cases hx : Nat.beq 3 d with
        | false => rfl
        | true => exact absurd (Nat.eq_of_beq_eq_true hx).symm hd
      rw [e]; rfl
    · refine runes3 hl l.length 0 [] (by omega) (by simp) (by omega) ?_
      refine ⟨[], [], .sl 1 (.map encI 0 (runesM l)) .none, Sel.none, ?_, rfl, rfl⟩
      exact Le.sl (s' := Seq.ren _ (.map encI 0 (runesM l))) (by simp [Ab.Seq.toList, Seq.ren, encI, renL, AV.ren, runesM]) (.inl rfl) (.inr rfl)
  exact ASpec.pureH H k _ _ rfl rfl

/-! ### names -/

def fitF (n : Nat) : List Int → Bool
  | [] => decide (0 < n)
  | c :: r => if 3 < kindM c ∨ (n = 0 ∧ 1 < kindM c) ∨ n = 12 then false else fitF (n + 1) r

def fitM (l : List UInt8) : Bool := fitF 0 (runesM l)

theorem fit3 {Post : AV → List AObj → Prop} (hl : l.length ≤ 10 * big) : ∀ (f p n : Nat), l.length - p ≤ f → n ≤ 12 → (∀ q, Post (.bool (fitF n (runesF f l p))) [.siter (B l) q]) →
    AWP Try.prog 32 0 c47_3 [(3, .int .i64 n), (8, .ptr 0 0)] [.siter (B l) p] (q47_2 0 Post) := by
  intro f
  induction f with
  | zero =>
    intro p n hf hn h
    refine v47_3 _ _ _ _ _ (condD (fun hc => by rw [B_size] at hc; omega) fun _ => ?_)
    have := h p
    simp only [runesF, fitF] at this
    rw [show decide ((n : Int) > 0) = decide (0 < n) from decide_eq_decide.2 (by omega)]
    exact this
  | succ f ih =>
    intro p n hf hn h
    refine v47_3 _ _ _ _ _ (condD (fun hc => ?_) fun hc => ?_)
    · rw [B_size] at hc
      rw [decode_eq l p hc]
      have hw := runeM_width l p
      simp only [runesF, if_pos hc, fitF] at h
      refine ASpec.call (kind_spec _ _) (Les.refl _) ⟨_, rfl, rfl, ?_⟩
      generalize kindM ((runeM l p).1 : Nat) = k at h ⊢
      have no : (3 < k ∨ (n = 0 ∧ 1 < k) ∨ n = 12) → Post (.bool false) [.siter (B l) (p + (runeM l p).2)] := by
        intro hh
        have := h (p + (runeM l p).2)
        rw [if_pos hh] at this
        exact this
      have yes : ¬ (3 < k ∨ (n = 0 ∧ 1 < k) ∨ n = 12) → AWP Try.prog 32 0 c47_3 [(3, .int .i64 (IntKind.wrap .i64 ((n : Int) + 1))), (8, .ptr 0 0)] [.siter (B l) (p + (runeM l p).2)] (q47_2 0 Post) := by
        intro hh
        rw [show IntKind.wrap .i64 ((n : Int) + 1) = ((n + 1 : Nat) : Int) by rw [wrap64 (by omega) (by omega)]; simp]
        refine ih (p + (runeM l p).2) (n + 1) (by omega) (by omega) (fun q => ?_)
        have := h q
        rw [if_neg hh] at this
        exact this
      refine condD (fun h1 => no (.inl h1)) fun h1 => condE (fun h2 => condD (fun h3 => no (.inr (.inl ⟨by omega, h3⟩))) fun h3 => condE (fun h4 => no (.inr (.inr (by omega)))) fun h4 => yes (by omega)) fun h2 => condE (fun h4 => no (.inr (.inr (by omega)))) fun h4 => yes (by omega)
    · rw [B_size] at hc
      have := h p
      simp only [runesF, if_neg hc, fitF] at this
      rw [show decide ((n : Int) > 0) = decide (0 < n) from decide_eq_decide.2 (by omega)]
      exact this

theorem fit_spec (hl : l.length ≤ 10 * big) (H : List AObj) : ASpec Try.prog 47 [.str (B l)] H (fun r H' => r = .bool (fitM l) ∧ H' = H) := by
  have k : ASpec Try.prog 47 [.str (B l)] [] (fun r H' => r = .bool (fitM l) ∧ H' = []) := by
    refine ASpec.sel (s47 _ _ (fit3 hl l.length 0 0 (by omega) (by omega) (fun q => ⟨[], [], .bool (fitM l), Sel.none, Le.refl _, rfl, rfl⟩)))
  exact ASpec.pureH H k _ _ rfl rfl

theorem fitF_short (hl : True) : ∀ (f p n : Nat), l.length - p ≤ f → n ≤ 12 → fitF n (runesF f l p) = true → l.length - p ≤ 2 * (12 - n) := by
  intro f
  induction f with
  | zero => intro p n hf hn h; omega
  | succ f ih =>
    intro p n hf hn h
    by_cases hc : p < l.length
    · simp only [runesF, if_pos hc, fitF] at h
      split at h
      · cases h
      rename_i hh
      have hw := runeM_small (l := l) (p := p) (by omega)
      have := ih (p + (runeM l p).2) (n + 1) (by have := runeM_width l p; omega) (by omega) h
      omega
    · omega

theorem fitM_short (h : fitM l = true) : l.length ≤ 24 := by
  have := fitF_short (l := l) trivial l.length 0 0 (by omega) (by omega) h
  omega

/-- the document's: by places in a list -/
def fitD (i : Nat) : List Int → Bool
  | [] => true
  | c :: r => if kindM c = 4 ∨ (i = 0 ∧ 1 < kindM c) then false else fitD (i + 1) r

theorem fitF_fitD : ∀ (r : List Int) (i : Nat), i ≤ 12 → fitF i r = (fitD i r && decide (1 ≤ i + r.length) && decide (i + r.length ≤ 12))
  | [], i, hi => by
    simp only [fitF, fitD, List.length_nil, Nat.add_zero, Bool.true_and]
    rw [Bool.eq_iff_iff]; simp; omega
  | c :: r, i, hi => by
    have hk := kindM_range c
    simp only [fitF, fitD, List.length_cons]
    by_cases h1 : kindM c = 4 ∨ (i = 0 ∧ 1 < kindM c)
    · rw [if_pos h1, if_pos (by omega)]; rfl
    · rw [if_neg h1]
      by_cases h2 : i = 12
      · rw [if_pos (by omega)]
        rw [Bool.eq_iff_iff]; simp; omega
      · rw [if_neg (by omega), fitF_fitD r (i + 1) (by omega), show i + 1 + r.length = i + (r.length + 1) by omega]

theorem rfit5 {ls : List Int} {Post : AV → List AObj → Prop} (hl : ls.length ≤ 1000000) : ∀ (m i : Nat), m + i = ls.length → Post (.bool (fitD i (ls.drop i) && (decide (1 ≤ ls.length) && decide (ls.length ≤ 12)))) [] →
    AWP Try.prog 42 0 c35_5 [(3, .sl 1 (.map encI 0 ls) .none), (4, .int .i64 i)] [] (q35_2 0 Post) := by
  intro m
  induction m with
  | zero =>
    intro i hm h
    refine v35_5 _ _ _ _ (condD (fun hc => by omega) fun _ => ?_)
    rw [List.drop_eq_nil_of_le (by omega)] at h
    simp only [fitD, Bool.true_and] at h
    refine condD (fun h1 => ?_) fun h1 => ?_
    · rw [decide_eq_true (show 1 ≤ ls.length by omega), Bool.true_and] at h
      rw [show decide ((ls.length : Int) ≤ 12) = decide (ls.length ≤ 12) from decide_eq_decide.2 (by omega)]
      exact h
    · rw [decide_eq_false (show ¬ 1 ≤ ls.length by omega), Bool.false_and] at h
      exact h
  | succ m ih =>
    intro i hm h
    refine v35_5 _ _ _ _ (condD (fun hc => needJ ⟨by omega, by omega⟩ ?_) fun hc => by omega)
    rw [Int.toNat_natCast]
    have hg : ls.drop i = ls.getD i 0 :: ls.drop (i + 1) := by
      rw [List.drop_eq_getElem_cons (by omega)]
      simp [List.getD, List.getElem?_eq_getElem (show i < ls.length by omega)]
    rw [hg] at h
    simp only [fitD] at h
    generalize ls.getD i 0 = c at h ⊢
    have hn : ¬ (kindM c = 4 ∨ (i = 0 ∧ 1 < kindM c)) → AWP Try.prog 42 0 c35_5 [(3, .sl 1 (.map encI 0 ls) .none), (4, .int .i64 (IntKind.wrap .i64 ((i : Int) + 1)))] [] (q35_2 0 Post) := by
      intro hh
      rw [if_neg hh] at h
      rw [show IntKind.wrap .i64 ((i : Int) + 1) = ((i + 1 : Nat) : Int) by rw [wrap64 (by omega) (by omega)]; simp]
      exact ih (i + 1) (by omega) h
    have hy : (kindM c = 4 ∨ (i = 0 ∧ 1 < kindM c)) → Post (.bool false) [] := by
      intro hh
      rw [if_pos hh] at h
      simpa using h
    refine ASpec.call (rkind_spec c []) (Les.refl _) ⟨_, rfl, rfl, condE (fun h1 => hy (.inl h1)) fun h1 => condE (fun h2 => needJ ⟨by omega, by omega⟩ ?_) fun h2 => hn (by omega)⟩
    refine ASpec.call (rkind_spec c []) (Les.refl _) ⟨_, rfl, rfl, condD (fun h3 => hy (.inr ⟨by omega, h3⟩)) fun h3 => hn (by omega)⟩

theorem runesF_len : ∀ (f p : Nat), (runesF f l p).length ≤ f
  | 0, p => by simp [runesF]
  | f + 1, p => by
    simp only [runesF]
    split
    · have := runesF_len f (p + (runeM l p).2)
      simp; omega
    · simp

theorem rfit_spec (hl : l.length ≤ 10 * big) (H : List AObj) : ASpec Try.prog 35 [.str (B l)] H (fun r H' => r = .bool (fitM l) ∧ H' = H) := by
  have k : ASpec Try.prog 35 [.str (B l)] [] (fun r H' => r = .bool (fitM l) ∧ H' = []) := by
    refine s35 _ _ ?_
    rw [B_size]
    refine condD (fun h1 => ?_) fun h1 => ?_
    · have : fitM l = false := by
        cases h : fitM l with
        | false => rfl
        | true => have := fitM_short h; omega
      rw [this]; exact ⟨rfl, rfl⟩
    · have hlen := runesF_len (l := l) l.length 0
      refine ASpec.call (runes_spec (by omega) []) (Les.refl _) ⟨_, rfl, rfl, rfit5 (ls := runesM l) (by unfold runesM; omega) (runesM l).length 0 (by omega) ?_⟩
      unfold fitM
      rw [fitF_fitD _ 0 (by omega), List.drop_zero, Nat.zero_add, Bool.and_assoc]
      exact ⟨rfl, rfl⟩
  exact ASpec.pureH H k _ _ rfl rfl

end
end S
end

section
/- Which spans, needs and manifests may be: the code's walks and the document's. -/

set_option linter.unusedVariables false
set_option linter.unusedSimpArgs false
set_option maxRecDepth 100000
open Go Go.Ab Go.Proofs V S T
namespace C

/-- the answer c, whatever lies in the heap -/
abbrev PB (c : Bool) : AV → List AObj → Prop := fun r H' => ∃ l H2 r2, Sel 0 l H' H2 ∧ Le r (AV.ren (selR l H'.length) r2) ∧ (r2 = .bool c ∧ H2 = [])
theorem pb {b c : Bool} {H' : List AObj} (h : b = c) : PB c (.bool b) H' := ⟨[], [], .bool c, Sel.none, h ▸ Le.refl _, rfl, rfl⟩

theorem dropD {α : Type} (l : List α) (d : α) (i : Nat) (h : i < l.length) : l.drop i = l.getD i d :: l.drop (i + 1) := by
  rw [List.drop_eq_getElem_cons h]
  simp [List.getD, List.getElem?_eq_getElem h]

theorem memD {α : Type} (l : List α) (d : α) (i : Nat) (h : i < l.length) : l.getD i d ∈ l := by
  simp [List.getD, List.getElem?_eq_getElem h]

theorem succ64 {i : Nat} (h : i ≤ 10000000) : IntKind.wrap .i64 ((i : Int) + 1) = ((i + 1 : Nat) : Int) := by rw [wrap64 (by omega) (by omega)]; simp
theorem pred64 {i : Nat} (h : i ≤ 10000000) (h1 : 0 < i) : IntKind.wrap .i64 ((i : Int) - 1) = ((i - 1 : Nat) : Int) := by rw [wrap64 (by omega) (by omega)]; omega

abbrev lim : Nat := 1000000

/-! ### spans -/

def chkS (e : Int) : List Span → Bool
  | [] => true
  | x :: r => if x.1 ≤ e ∨ x.2 ≤ x.1 ∨ 1000000000 < x.2 then false else chkS x.2 r
def spanOk (l : List Span) : Bool := chkS (-1) l

theorem chk3 {l : List Span} {c : Bool} (hl : l.length ≤ lim) : ∀ (m i : Nat) (e : Int), m + i = l.length → chkS e (l.drop i) = c →
    AWP Try.prog 31 0 c135_3 [(3, .int .i64 e), (6, .sl 2 (.map encS (0, 0) l) .none), (7, .int .i64 l.length), (8, .int .i64 i)] [] (q135_2 0 (PB c)) := by
  intro m
  induction m with
  | zero =>
    intro i e hm h
    refine v135_3 _ _ _ _ _ _ (condD (fun hc => by omega) fun _ => pb ?_)
    rw [List.drop_eq_nil_of_le (by omega)] at h
    exact h
  | succ m ih =>
    intro i e hm h
    rw [dropD l (0, 0) i (by omega)] at h
    simp only [chkS] at h
    refine v135_3 _ _ _ _ _ _ (condD (fun hc => needJ ⟨by omega, by omega⟩ ?_) fun hc => by omega)
    rw [Int.toNat_natCast]
    generalize l.getD i (0, 0) = x at h ⊢
    refine condD (fun h1 => pb ?_) fun h1 => condD (fun h2 => pb ?_) fun h2 => condD (fun h3 => pb ?_) fun h3 => ?_
    · rw [if_pos (.inl h1)] at h; exact h
    · rw [if_pos (.inr (.inl h2))] at h; exact h
    · rw [if_pos (.inr (.inr h3))] at h; exact h
    · rw [if_neg (by omega)] at h
      rw [succ64 (by unfold lim at hl; omega)]
      exact AWP.shape [] [(3, .int .i64 x.2), (6, .sl 2 (.map encS (0, 0) l) .none), (7, .int .i64 l.length), (8, .int .i64 (i + 1 : Nat))] [] Sel.none ⟨rfl, Le.refl _, rfl, Le.refl _, rfl, Le.refl _, rfl, Le.refl _, trivial⟩ (ih (i + 1) x.2 (by omega) h)

theorem spanCheck_spec (l : List Span) (hl : l.length ≤ lim) (H : List AObj) : ASpec Try.prog 135 [.sl 2 (.map encS (0, 0) l) .none] H (fun r H' => r = .bool (spanOk l) ∧ H' = H) :=
  ASpec.pureH H (ASpec.sel (s135 _ _ (chk3 hl l.length 0 (-1) (by omega) rfl))) _ _ rfl rfl

theorem rchk2 {l : List Span} {c : Bool} (hl : l.length ≤ lim) : ∀ (m i : Nat) (e : Int), m + i = l.length → (i = 0 → e = -1) → (0 < i → e = (l.getD (i - 1) (0, 0)).2 ∧ 0 ≤ e) → chkS e (l.drop i) = c →
    AWP Try.prog 55 0 c36_2 [(0, .sl 2 (.map encS (0, 0) l) .none), (3, .int .i64 i)] [] (q36_2 0 (PB c)) := by
  intro m
  induction m with
  | zero =>
    intro i e hm _ _ h
    refine v36_2 _ _ _ _ (condD (fun hc => by omega) fun _ => pb ?_)
    rw [List.drop_eq_nil_of_le (by omega)] at h
    exact h
  | succ m ih =>
    intro i e hm h0 he h
    have hin : (0 : Int) ≤ (i : Int) ∧ (i : Int) < (l.length : Int) := ⟨by omega, by omega⟩
    rw [dropD l (0, 0) i (by omega)] at h
    simp only [chkS] at h
    have hnext : ∀ x, x = l.getD i (0, 0) → ¬ (x.1 ≤ e ∨ x.2 ≤ x.1 ∨ 1000000000 < x.2) → AWP Try.prog 55 0 c36_2 [(0, .sl 2 (.map encS (0, 0) l) .none), (3, .int .i64 (IntKind.wrap .i64 ((i : Int) + 1)))] [] (q36_2 0 (PB c)) := by
      intro x hx hn
      rw [← hx, if_neg hn] at h
      rw [succ64 (by unfold lim at hl; omega)]
      have hge : -1 ≤ e := by
        rcases Nat.eq_zero_or_pos i with z | z
        · have := h0 z; omega
        · have := he z; omega
      exact ih (i + 1) x.2 (by omega) (fun hh => by omega) (fun _ => ⟨by rw [hx]; rfl, by omega⟩) h
    have hbad : ∀ x, x = l.getD i (0, 0) → (x.1 ≤ e ∨ x.2 ≤ x.1 ∨ 1000000000 < x.2) → PB c (.bool false) [] := by
      intro x hx hh
      rw [← hx, if_pos hh] at h
      exact pb h
    refine v36_2 _ _ _ _ (condD (fun hc => needJ hin ?_) fun hc => by omega)
    rw [Int.toNat_natCast]
    generalize hx : l.getD i (0, 0) = x at h ⊢
    refine condD (fun h1 => hbad x hx.symm (.inl ?_)) fun h1 => needJ hin (condD (fun h2 => hbad x hx.symm (.inr (.inr h2))) fun h2 => needJ hin (needJ hin (condD (fun h3 => hbad x hx.symm (.inr (.inl h3))) fun h3 => condD (fun h4 => needJ hin (needJ ?_ (condD (fun h5 => hbad x hx.symm (.inl ?_)) fun h5 => hnext x hx.symm ?_))) fun h4 => hnext x hx.symm ?_)))
    · rcases Nat.eq_zero_or_pos i with z | z
      · have := h0 z; omega
      · have := he z; omega
    · rw [pred64 (by unfold lim at hl; omega) (by omega)]; omega
    · rw [pred64 (by unfold lim at hl; omega) (by omega), Int.toNat_natCast] at h5
      have := he (by omega); omega
    · rw [pred64 (by unfold lim at hl; omega) (by omega), Int.toNat_natCast] at h5
      have := he (by omega); omega
    · have := h0 (by omega); omega

theorem rspanCheck_spec (l : List Span) (hl : l.length ≤ lim) (H : List AObj) : ASpec Try.prog 36 [.sl 2 (.map encS (0, 0) l) .none] H (fun r H' => r = .bool (spanOk l) ∧ H' = H) :=
  ASpec.pureH H (ASpec.sel (s36 _ _ (rchk2 hl l.length 0 (-1) (by omega) (fun _ => rfl) (fun h => by omega) rfl))) _ _ rfl rfl

/-! ### needs -/

def leB (a b : List UInt8) : Bool := Op.bytesLess a b || a == b

def needsF (last : List UInt8) : List Need → Bool
  | [] => true
  | x :: r => if fitM x.1 = false ∨ leB x.1 last = true ∨ 6 < x.2.length ∨ spanOk x.2 = false then false else needsF x.1 r
def needOk (l : List Need) : Bool := needsF [] l && decide (l.length ≤ 6)

theorem fit_nil : fitM [] = false := rfl
theorem leB_nil {a : List UInt8} (h : fitM a = true) : leB a [] = false := by
  cases a with
  | nil => rw [fit_nil] at h; cases h
  | cons c a => simp [leB, Op.bytesLess]

def okN (l : List Need) : Prop := l.length ≤ lim ∧ ∀ n ∈ l, n.1.length ≤ lim ∧ n.2.length ≤ lim

theorem need3 {l : List Need} {c : Bool} (hl : okN l) : ∀ (m i : Nat) (last : List UInt8), m + i = l.length → (needsF last (l.drop i) && decide (l.length ≤ 6)) = c →
    AWP Try.prog 40 0 c125_3 [(0, .sl 2 (.map encN ([], []) l) .none), (3, .str (B last)), (6, .sl 2 (.map encN ([], []) l) .none), (7, .int .i64 l.length), (8, .int .i64 i)] [] (q125_2 0 (PB c)) := by
  obtain ⟨hl1, hl2⟩ := hl
  intro m
  induction m with
  | zero =>
    intro i last hm h
    refine v125_3 _ _ _ _ _ _ (condD (fun hc => by omega) fun _ => pb ?_)
    rw [List.drop_eq_nil_of_le (by omega)] at h
    simp only [needsF, Bool.true_and] at h
    rw [show decide ((l.length : Int) ≤ 6) = decide (l.length ≤ 6) from decide_eq_decide.2 (by omega)]
    exact h
  | succ m ih =>
    intro i last hm h
    have hx := hl2 _ (memD l ([], []) i (by omega))
    rw [dropD l ([], []) i (by omega)] at h
    simp only [needsF] at h
    refine v125_3 _ _ _ _ _ _ (condD (fun hc => needJ ⟨by omega, by omega⟩ ?_) fun hc => by omega)
    rw [Int.toNat_natCast]
    generalize l.getD i ([], []) = x at h hx ⊢
    have bad : ∀ {H' : List AObj}, (fitM x.1 = false ∨ leB x.1 last = true ∨ 6 < x.2.length ∨ spanOk x.2 = false) → PB c (.bool false) H' := by
      intro H' hh
      rw [if_pos hh] at h
      exact pb h
    refine ASpec.call (fit_spec (l := x.1) (by unfold big; unfold lim at hx; omega) _) (Les.refl _) ⟨_, rfl, rfl, condBn (fun h1 => bad (.inl h1)) fun h1 => ?_⟩
    rw [B_toList, B_toList]
    refine condB (fun h2 => bad (.inr (.inl h2))) fun h2 => condD (fun h3 => bad (.inr (.inr (.inl (by omega))))) fun h3 => ?_
    refine ASpec.call (spanCheck_spec x.2 hx.2 _) (Les.refl _) ⟨_, rfl, rfl, condBn (fun h4 => bad (.inr (.inr (.inr h4)))) fun h4 => ?_⟩
    have h2' : leB x.1 last = false := h2
    rw [if_neg (by rw [h1, h2', h4]; simp; omega)] at h
    rw [succ64 (by unfold lim at hl1; omega)]
    exact AWP.shape [] [(0, .sl 2 (.map encN ([], []) l) .none), (3, .str (B x.1)), (6, .sl 2 (.map encN ([], []) l) .none), (7, .int .i64 l.length), (8, .int .i64 (i + 1 : Nat))] [] Sel.none
      ⟨rfl, Le.refl _, rfl, Le.refl _, rfl, Le.refl _, rfl, Le.refl _, rfl, Le.refl _, trivial⟩ (ih (i + 1) x.1 (by omega) h)

theorem needCheck_spec (l : List Need) (hl : okN l) (H : List AObj) : ASpec Try.prog 125 [.sl 2 (.map encN ([], []) l) .none] H (fun r H' => r = .bool (needOk l) ∧ H' = H) :=
  ASpec.pureH H (ASpec.sel (s125 _ _ (need3 hl l.length 0 [] (by omega) rfl))) _ _ rfl rfl

theorem rneed2 {l : List Need} {c : Bool} (hl : okN l) : ∀ (m i : Nat) (last : List UInt8), m + i = l.length → (i = 0 → last = []) → (0 < i → last = (l.getD (i - 1) ([], [])).1) → (needsF last (l.drop i) && decide (l.length ≤ 6)) = c →
    AWP Try.prog 56 0 c10_2 [(0, .sl 2 (.map encN ([], []) l) .none), (3, .int .i64 i)] [] (q10_2 0 (PB c)) := by
  obtain ⟨hl1, hl2⟩ := hl
  intro m
  induction m with
  | zero =>
    intro i last hm _ _ h
    refine v10_2 _ _ _ _ (condD (fun hc => by omega) fun _ => pb ?_)
    rw [List.drop_eq_nil_of_le (by omega)] at h
    simp only [needsF, Bool.true_and] at h
    rw [show decide ((l.length : Int) ≤ 6) = decide (l.length ≤ 6) from decide_eq_decide.2 (by omega)]
    exact h
  | succ m ih =>
    intro i last hm h0 he h
    have hin : (0 : Int) ≤ (i : Int) ∧ (i : Int) < (l.length : Int) := ⟨by omega, by omega⟩
    have hx := hl2 _ (memD l ([], []) i (by omega))
    rw [dropD l ([], []) i (by omega)] at h
    simp only [needsF] at h
    have hnext : ¬ (fitM (l.getD i ([], [])).1 = false ∨ leB (l.getD i ([], [])).1 last = true ∨ 6 < (l.getD i ([], [])).2.length ∨ spanOk (l.getD i ([], [])).2 = false) →
        AWP Try.prog 56 0 c10_2 [(0, .sl 2 (.map encN ([], []) l) .none), (3, .int .i64 (IntKind.wrap .i64 ((i : Int) + 1)))] [] (q10_2 0 (PB c)) := by
      intro hn
      rw [if_neg hn] at h
      rw [succ64 (by unfold lim at hl1; omega)]
      exact ih (i + 1) _ (by omega) (fun hh => by omega) (fun _ => rfl) h
    have bad : (fitM (l.getD i ([], [])).1 = false ∨ leB (l.getD i ([], [])).1 last = true ∨ 6 < (l.getD i ([], [])).2.length ∨ spanOk (l.getD i ([], [])).2 = false) → PB c (.bool false) [] := by
      intro hh
      rw [if_pos hh] at h
      exact pb h
    refine v10_2 _ _ _ _ (condD (fun hc => needJ hin ?_) fun hc => by omega)
    rw [Int.toNat_natCast]
    clear h ih
    generalize l.getD i ([], []) = x at hx hnext bad ⊢
    refine ASpec.call (rfit_spec (l := x.1) (by unfold big; unfold lim at hx; omega) _) (Les.refl _) ⟨_, rfl, rfl, condBn (fun h1 => bad (.inl h1)) fun h1 => needJ hin ?_⟩
    refine ASpec.call (rspanCheck_spec x.2 hx.2 _) (Les.refl _) ⟨_, rfl, rfl, condBn (fun h2 => bad (.inr (.inr (.inr h2)))) fun h2 => needJ hin (condD (fun h3 => bad (.inr (.inr (.inl (by omega))))) fun h3 => condD (fun h4 => needJ hin ?_) fun h4 => hnext ?_)⟩
    · rw [pred64 (by unfold lim at hl1; omega) (by omega), Int.toNat_natCast]
      refine needJ ⟨by omega, by omega⟩ ?_
      rw [← he (by omega), B_toList, B_toList]
      refine condB (fun h5 => bad (.inr (.inl h5))) fun h5 => hnext ?_
      have h5' : leB x.1 last = false := h5
      rw [h1, h2, h5']; simp; omega
    · rw [h0 (by omega), h1, h2, leB_nil h1]; simp; omega

theorem rneedCheck_spec (l : List Need) (hl : okN l) (H : List AObj) : ASpec Try.prog 10 [.sl 2 (.map encN ([], []) l) .none] H (fun r H' => r = .bool (needOk l) ∧ H' = H) :=
  ASpec.pureH H (ASpec.sel (s10 _ _ (rneed2 hl l.length 0 [] (by omega) (fun _ => rfl) (fun h => by omega) rfl))) _ _ rfl rfl

/-! ### manifests -/

def relF (e : Int) : List Rel → Bool
  | [] => true
  | x :: r => if x.1 ≤ e ∨ 1000000000 ≤ x.1 ∨ needOk x.2 = false then false else relF x.1 r
def manOk (m : Mani) : Bool := relF (-1) m.2 && (fitM m.1 && decide (m.2.length ≤ 8))

def okM (m : Mani) : Prop := m.1.length ≤ lim ∧ m.2.length ≤ lim ∧ ∀ r ∈ m.2, okN r.2

theorem mani3 {m : Mani} {c : Bool} (hl : okM m) : ∀ (k i : Nat) (e : Int), k + i = m.2.length → (relF e (m.2.drop i) && (fitM m.1 && decide (m.2.length ≤ 8))) = c →
    AWP Try.prog 40 0 c99_3 [(1, .ptr 0 0), (3, .int .i64 e), (7, .sl 2 (.map T.encR (0, []) m.2) .none), (8, .int .i64 m.2.length), (9, .int .i64 i)] [.cells (encM m)] (q99_2 0 (PB c)) := by
  obtain ⟨hl1, hl2, hl3⟩ := hl
  intro k
  induction k with
  | zero =>
    intro i e hm h
    refine v99_3 _ _ _ _ _ _ (condD (fun hc => by omega) fun _ => ?_)
    rw [List.drop_eq_nil_of_le (by omega)] at h
    simp only [relF, Bool.true_and] at h
    refine ASpec.call (fit_spec (l := m.1) (by unfold big; unfold lim at hl1; omega) _) (Les.refl _) ⟨_, rfl, rfl, condB (fun h1 => pb ?_) fun h1 => pb ?_⟩
    · rw [h1, Bool.true_and] at h
      rw [show decide ((m.2.length : Int) ≤ 8) = decide (m.2.length ≤ 8) from decide_eq_decide.2 (by omega)]
      exact h
    · rw [h1, Bool.false_and] at h
      exact h
  | succ k ih =>
    intro i e hm h
    have hx := hl3 _ (memD m.2 (0, []) i (by omega))
    rw [dropD m.2 (0, []) i (by omega)] at h
    simp only [relF] at h
    refine v99_3 _ _ _ _ _ _ (condD (fun hc => needJ ⟨by omega, by omega⟩ ?_) fun hc => by omega)
    rw [Int.toNat_natCast]
    generalize m.2.getD i (0, []) = x at h hx ⊢
    have bad : ∀ {H' : List AObj}, (x.1 ≤ e ∨ 1000000000 ≤ x.1 ∨ needOk x.2 = false) → PB c (.bool false) H' := by
      intro H' hh
      rw [if_pos hh] at h
      exact pb h
    refine condD (fun h1 => bad (.inl h1)) fun h1 => condD (fun h2 => bad (.inr (.inl h2))) fun h2 => ?_
    refine ASpec.call (needCheck_spec x.2 hx _) (Les.refl _) ⟨_, rfl, rfl, condBn (fun h3 => bad (.inr (.inr h3))) fun h3 => ?_⟩
    rw [if_neg (by rw [h3]; simp; omega)] at h
    rw [succ64 (by unfold lim at hl2; omega)]
    exact AWP.shape [0] [(1, .ptr 0 0), (3, .int .i64 x.1), (7, .sl 2 (.map T.encR (0, []) m.2) .none), (8, .int .i64 m.2.length), (9, .int .i64 (i + 1 : Nat))] [.cells (encM m)] (Sel.one 0 rfl rfl)
      ⟨rfl, Le.refl _, rfl, Le.refl _, rfl, Le.refl _, rfl, Le.refl _, rfl, Le.refl _, trivial⟩ (ih (i + 1) x.1 (by omega) h)

theorem maniCheck_spec (m : Mani) (hl : okM m) (H : List AObj) : ASpec Try.prog 99 [.agg (encM m)] H (fun r H' => r = .bool (manOk m) ∧ H' = H) :=
  ASpec.pureH H (ASpec.sel (s99 _ _ (mani3 hl m.2.length 0 (-1) (by omega) rfl))) _ _ rfl rfl

theorem verFit_spec (x : Int) (H : List AObj) : ASpec Try.prog 133 [.int .i64 x] H (fun r H' => r = .bool (decide (0 ≤ x ∧ x < 1000000000)) ∧ H' = H) := by
  have k : ASpec Try.prog 133 [.int .i64 x] [] (fun r H' => r = .bool (decide (0 ≤ x ∧ x < 1000000000)) ∧ H' = []) := by
    refine s133 _ _ (condD (fun h => ⟨?_, rfl⟩) fun h => ⟨?_, rfl⟩)
    · congr 1; exact decide_eq_decide.2 (by omega)
    · rw [decide_eq_false (by omega)]
  exact ASpec.pureH H k _ _ rfl rfl

theorem rmani2 {m : Mani} {c : Bool} (hl : okM m) : ∀ (k i : Nat) (e : Int), k + i = m.2.length → (i = 0 → e = -1) → (0 < i → e = (m.2.getD (i - 1) (0, [])).1 ∧ 0 ≤ e) → (relF e (m.2.drop i) && (fitM m.1 && decide (m.2.length ≤ 8))) = c →
    AWP Try.prog 52 0 c114_2 [(1, .ptr 0 0), (3, .int .i64 i)] [.cells (encM m)] (q114_2 0 (PB c)) := by
  obtain ⟨hl1, hl2, hl3⟩ := hl
  intro k
  induction k with
  | zero =>
    intro i e hm _ _ h
    refine v114_2 _ _ _ _ (condD (fun hc => by omega) fun _ => ?_)
    rw [List.drop_eq_nil_of_le (by omega)] at h
    simp only [relF, Bool.true_and] at h
    refine ASpec.call (rfit_spec (l := m.1) (by unfold big; unfold lim at hl1; omega) _) (Les.refl _) ⟨_, rfl, rfl, condB (fun h1 => pb ?_) fun h1 => pb ?_⟩
    · rw [h1, Bool.true_and] at h
      rw [show decide ((m.2.length : Int) ≤ 8) = decide (m.2.length ≤ 8) from decide_eq_decide.2 (by omega)]
      exact h
    · rw [h1, Bool.false_and] at h
      exact h
  | succ k ih =>
    intro i e hm h0 he h
    have hin : (0 : Int) ≤ (i : Int) ∧ (i : Int) < (m.2.length : Int) := ⟨by omega, by omega⟩
    have hx := hl3 _ (memD m.2 (0, []) i (by omega))
    rw [dropD m.2 (0, []) i (by omega)] at h
    simp only [relF] at h
    have hge : -1 ≤ e := by
      rcases Nat.eq_zero_or_pos i with z | z
      · have := h0 z; omega
      · have := he z; omega
    have hnext : ∀ (q : List AObj), ¬ ((m.2.getD i (0, [])).1 ≤ e ∨ 1000000000 ≤ (m.2.getD i (0, [])).1 ∨ needOk (m.2.getD i (0, [])).2 = false) →
        AWP Try.prog 52 0 c114_2 [(1, .ptr 0 0), (3, .int .i64 (IntKind.wrap .i64 ((i : Int) + 1)))] (.cells (encM m) :: q) (q114_2 0 (PB c)) := by
      intro q hn
      rw [if_neg hn] at h
      rw [succ64 (by unfold lim at hl2; omega)]
      exact AWP.shape [0] [(1, .ptr 0 0), (3, .int .i64 (i + 1 : Nat))] [.cells (encM m)] (Sel.one 0 rfl rfl)
        ⟨rfl, Le.refl _, rfl, Le.refl _, trivial⟩ (ih (i + 1) (m.2.getD i (0, [])).1 (by omega) (fun hh => by omega) (fun _ => ⟨rfl, by omega⟩) h)
    have bad : ∀ {H' : List AObj}, ((m.2.getD i (0, [])).1 ≤ e ∨ 1000000000 ≤ (m.2.getD i (0, [])).1 ∨ needOk (m.2.getD i (0, [])).2 = false) → PB c (.bool false) H' := by
      intro H' hh
      rw [if_pos hh] at h
      exact pb h
    refine v114_2 _ _ _ _ (condD (fun hc => needJ hin ?_) fun hc => by omega)
    rw [Int.toNat_natCast]
    clear h ih
    generalize m.2.getD i (0, []) = x at hx hnext bad ⊢
    refine ASpec.call (verFit_spec x.1 _) (Les.refl _) ⟨_, rfl, rfl, condBn (fun h1 => bad ?_) fun h1 => ?_⟩
    · have := of_decide_eq_false h1; omega
    have h1 := of_decide_eq_true h1
    refine ASpec.call (rneedCheck_spec x.2 hx _) (Les.refl _) ⟨_, rfl, rfl, condBn (fun h2 => bad (.inr (.inr h2))) fun h2 => condD (fun h4 => ?_) fun h4 => hnext _ ?_⟩
    · rw [pred64 (by unfold lim at hl2; omega) (by omega), Int.toNat_natCast]
      have hh := he (by omega)
      refine needJ ⟨by omega, by omega⟩ (condD (fun h5 => bad (.inl (by omega))) fun h5 => hnext _ ?_)
      rw [h2]; simp; omega
    · have := h0 (by omega)
      rw [h2]; simp; omega

theorem rmaniCheck_spec (m : Mani) (hl : okM m) (H : List AObj) : ASpec Try.prog 114 [.agg (encM m)] H (fun r H' => r = .bool (manOk m) ∧ H' = H) :=
  ASpec.pureH H (ASpec.sel (s114 _ _ (rmani2 hl m.2.length 0 (-1) (by omega) (fun _ => rfl) (fun h => by omega) rfl))) _ _ rfl rfl

/-! ### are they large? -/

def largeNF : List Need → Bool
  | [] => false
  | x :: r => if 40 < x.2.length ∨ 100 < x.1.length then true else largeNF r
def largeN (l : List Need) : Bool := if 40 < l.length then true else largeNF l

theorem large4 {l : List Need} {c : Bool} (hl : l.length ≤ 40) : ∀ (m i : Nat), m + i = l.length → largeNF (l.drop i) = c →
    AWP Try.prog 29 0 c9_4 [(0, .sl 2 (.map encN ([], []) l) .none), (3, .int .i64 i)] [] (q9_2 0 (PB c)) := by
  intro m
  induction m with
  | zero =>
    intro i hm h
    refine v9_4 _ _ _ _ (condD (fun hc => by omega) fun _ => pb ?_)
    rw [List.drop_eq_nil_of_le (by omega)] at h
    exact h
  | succ m ih =>
    intro i hm h
    have hin : (0 : Int) ≤ (i : Int) ∧ (i : Int) < (l.length : Int) := ⟨by omega, by omega⟩
    rw [dropD l ([], []) i (by omega)] at h
    simp only [largeNF] at h
    refine v9_4 _ _ _ _ (condD (fun hc => needJ hin ?_) fun hc => by omega)
    rw [Int.toNat_natCast]
    generalize l.getD i ([], []) = x at h ⊢
    rw [B_size]
    refine condD (fun h1 => pb ?_) fun h1 => needJ hin (condD (fun h2 => pb ?_) fun h2 => ?_)
    · rw [if_pos (by omega)] at h; exact h
    · rw [if_pos (by omega)] at h; exact h
    · rw [if_neg (by omega)] at h
      rw [succ64 (by omega)]
      exact ih (i + 1) (by omega) h

theorem largeN_spec (l : List Need) (H : List AObj) : ASpec Try.prog 9 [.sl 2 (.map encN ([], []) l) .none] H (fun r H' => r = .bool (largeN l) ∧ H' = H) := by
  have k : ASpec Try.prog 9 [.sl 2 (.map encN ([], []) l) .none] [] (fun r H' => r = .bool (largeN l) ∧ H' = []) := by
    refine ASpec.sel (s9 _ _ (condD (fun h => pb ?_) fun h => ?_))
    · rw [largeN, if_pos (by omega)]
    · refine large4 (by omega) l.length 0 (by omega) ?_
      rw [largeN, if_neg (by omega)]; rfl
  exact ASpec.pureH H k _ _ rfl rfl

theorem largeNF_ok : ∀ (l : List Need), largeNF l = false → ∀ n ∈ l, n.1.length ≤ 100 ∧ n.2.length ≤ 40
  | [], _, n, hn => by simp at hn
  | x :: r, h, n, hn => by
    simp only [largeNF] at h
    split at h
    · cases h
    · rcases List.mem_cons.1 hn with rfl | hn
      · omega
      · exact largeNF_ok r h n hn

theorem largeN_ok {l : List Need} (h : largeN l = false) : okN l := by
  unfold largeN at h
  split at h
  · cases h
  · refine ⟨by unfold lim; omega, fun n hn => ?_⟩
    have := largeNF_ok l h n hn
    unfold lim; omega

end C
end

section
/- Manifests as bytes: what the code puts, and the document. -/

set_option linter.unusedVariables false
set_option linter.unusedSimpArgs false
set_option maxRecDepth 100000
open Go Go.Ab Go.Proofs V S T C
namespace W

section
variable {Post : AV → List AObj → Prop}

abbrev sl1 (b : List UInt8) : AV := .sl 1 (.map encB 0 b) .none
noncomputable abbrev slR (l : List Rel) : AV := .sl 2 (.map T.encR (0, []) l) .none
noncomputable abbrev slN (l : List Need) : AV := .sl 2 (.map encN ([], []) l) .none
noncomputable abbrev slS (l : List Span) : AV := .sl 2 (.map encS (0, 0) l) .none

/-! ### the document's -/

end
end W
end

section
/- Manifests out of bytes: what the code reads. -/

set_option linter.unusedVariables false
set_option linter.unusedSimpArgs false
set_option maxRecDepth 100000
open Go Go.Ab Go.Proofs V S T C
namespace W

/-! ### the model -/

def spanR (bs : List UInt8) (p : Nat) (e : Int) : Span × Nat × Int :=
  (((numM bs p e 1000000000).1, IntKind.wrap .i64 ((numM bs p e 1000000000).1 + (numM bs (numM bs p e 1000000000).2.1 (numM bs p e 1000000000).2.2 1000000000).1)),
    (numM bs (numM bs p e 1000000000).2.1 (numM bs p e 1000000000).2.2 1000000000).2)

def listR {α : Type} (one : Nat → Int → α × Nat × Int) : Nat → Nat → Int → List α × Nat × Int
  | 0, p, e => ([], p, e)
  | k + 1, p, e => if e = 0 then ((one p e).1 :: (listR one k (one p e).2.1 (one p e).2.2).1, (listR one k (one p e).2.1 (one p e).2.2).2) else ([], p, e)

def listM {α : Type} (one : Nat → Int → α × Nat × Int) (bs : List UInt8) (p : Nat) (e most : Int) : List α × Nat × Int :=
  listR one (numM bs p e most).1.toNat (numM bs p e most).2.1 (numM bs p e most).2.2

def needR (bs : List UInt8) (p : Nat) (e : Int) : Need × Nat × Int :=
  (((strM bs p e 24).1, (listM (spanR bs) bs (strM bs p e 24).2.1 (strM bs p e 24).2.2 6).1), (listM (spanR bs) bs (strM bs p e 24).2.1 (strM bs p e 24).2.2 6).2)

def relR (bs : List UInt8) (p : Nat) (e : Int) : Rel × Nat × Int :=
  (((numM bs p e 1000000000).1, (listM (needR bs) bs (numM bs p e 1000000000).2.1 (numM bs p e 1000000000).2.2 6).1), (listM (needR bs) bs (numM bs p e 1000000000).2.1 (numM bs p e 1000000000).2.2 6).2)

def maniR (bs : List UInt8) : Mani × Nat × Int :=
  (((strM bs 0 0 24).1, (listM (relR bs) bs (strM bs 0 0 24).2.1 (strM bs 0 0 24).2.2 8).1), (listM (relR bs) bs (strM bs 0 0 24).2.1 (strM bs 0 0 24).2.2 8).2)

def endM (m : Mani) (c : Int) : Mani × Int := if c ≠ 0 then (([], []), c) else if manOk m = true then (m, 0) else (([], []), 3)

def readM (bs : List UInt8) : Mani × Int :=
  if 8192 < bs.length then (([], []), 4) else endM (maniR bs).1 (closeM (maniR bs).2.2 (bs.length - (maniR bs).2.1))

theorem lookM_most (s : List UInt8) (most : Int) (h : 0 ≤ most) : (lookM s most).1 ≤ most := by
  cases s with
  | nil => simpa [lookM] using h
  | cons c s =>
    simp only [lookM]
    split
    · exact h
    · split
      · exact h
      · split
        · exact h
        · simp only; omega

theorem numM_most (bs : List UInt8) (p : Nat) (e most : Int) (h : 0 ≤ most) : 0 ≤ (numM bs p e most).1 ∧ (numM bs p e most).1 ≤ most := by
  unfold numM
  split
  · exact ⟨Int.le_refl _, h⟩
  · exact ⟨(lookM_le _ _).2.1, lookM_most _ _ h⟩

theorem numM_p {bs : List UInt8} {p : Nat} {e most : Int} (hp : p ≤ bs.length) : (numM bs p e most).2.1 ≤ bs.length := (num_doc bs p e most hp).2
theorem strM_p {bs : List UInt8} {p : Nat} {e most : Int} (hp : p ≤ bs.length) : (strM bs p e most).2.1 ≤ bs.length := (str_doc bs p e most hp).2

theorem strM_len (bs : List UInt8) (p : Nat) (e most : Int) (h : 0 ≤ most) : ((strM bs p e most).1.length : Int) ≤ most := by
  unfold strM
  have := lookM_most (bs.drop p) most h
  have h2 := (lookM_le (bs.drop p) most).2.1
  repeat' split
  all_goals (simp only [List.length_nil, List.length_take]; omega)

/-- one keeps its place in the bytes -/
def Inside {α : Type} (bs : List UInt8) (one : Nat → Int → α × Nat × Int) : Prop := ∀ p e, p ≤ bs.length → (one p e).2.1 ≤ bs.length

theorem listR_p {α : Type} {bs : List UInt8} {one : Nat → Int → α × Nat × Int} (h : Inside bs one) : ∀ (k p : Nat) (e : Int), p ≤ bs.length → (listR one k p e).2.1 ≤ bs.length
  | 0, p, e, hp => hp
  | k + 1, p, e, hp => by
    simp only [listR]
    split
    · exact listR_p h k _ _ (h p e hp)
    · exact hp

theorem listM_p {α : Type} {bs : List UInt8} {one : Nat → Int → α × Nat × Int} (h : Inside bs one) {p : Nat} {e most : Int} (hp : p ≤ bs.length) : (listM one bs p e most).2.1 ≤ bs.length :=
  listR_p h _ _ _ (numM_p hp)

theorem listR_len {α : Type} (one : Nat → Int → α × Nat × Int) : ∀ (k p : Nat) (e : Int), (listR one k p e).1.length ≤ k
  | 0, p, e => by simp [listR]
  | k + 1, p, e => by
    simp only [listR]
    split
    · have := listR_len one k (one p e).2.1 (one p e).2.2
      simp only [List.length_cons]; omega
    · simp

theorem listM_len {α : Type} (one : Nat → Int → α × Nat × Int) (bs : List UInt8) (p : Nat) (e most : Int) (h : 0 ≤ most) : ((listM one bs p e most).1.length : Int) ≤ most := by
  have h1 := numM_most bs p e most h
  have h2 := listR_len one (numM bs p e most).1.toNat (numM bs p e most).2.1 (numM bs p e most).2.2
  unfold listM
  omega

theorem listR_all {α : Type} {one : Nat → Int → α × Nat × Int} {Q : α → Prop} (h : ∀ p e, Q (one p e).1) : ∀ (k p : Nat) (e : Int), ∀ x ∈ (listR one k p e).1, Q x
  | 0, p, e, x, hx => by simp [listR] at hx
  | k + 1, p, e, x, hx => by
    simp only [listR] at hx
    split at hx
    · rcases List.mem_cons.1 hx with rfl | hx
      · exact h p e
      · exact listR_all h k _ _ x hx
    · simp at hx

theorem spanR_p (bs : List UInt8) : Inside bs (spanR bs) := fun p e hp => numM_p (numM_p hp)
theorem needR_p (bs : List UInt8) : Inside bs (needR bs) := fun p e hp => listM_p (spanR_p bs) (strM_p hp)
theorem relR_p (bs : List UInt8) : Inside bs (relR bs) := fun p e hp => listM_p (needR_p bs) (numM_p hp)
theorem maniR_p (bs : List UInt8) : (maniR bs).2.1 ≤ bs.length := listM_p (relR_p bs) (strM_p (Nat.zero_le _))

theorem needR_ok (bs : List UInt8) (p : Nat) (e : Int) : (needR bs p e).1.1.length ≤ 24 ∧ (needR bs p e).1.2.length ≤ 6 := by
  have h1 := strM_len bs p e 24 (by omega)
  have h2 := listM_len (spanR bs) bs (strM bs p e 24).2.1 (strM bs p e 24).2.2 6 (by omega)
  simp only [needR]; omega

theorem relR_ok (bs : List UInt8) (p : Nat) (e : Int) : (relR bs p e).1.2.length ≤ 6 ∧ okN (relR bs p e).1.2 := by
  have h2 := listM_len (needR bs) bs (numM bs p e 1000000000).2.1 (numM bs p e 1000000000).2.2 6 (by omega)
  refine ⟨by simp only [relR]; omega, by simp only [relR]; unfold lim; omega, fun n hn => ?_⟩
  have := listR_all (Q := fun n : Need => n.1.length ≤ 24 ∧ n.2.length ≤ 6) (needR_ok bs) _ _ _ n hn
  unfold lim; omega

theorem maniR_ok (bs : List UInt8) : okM (maniR bs).1 := by
  have h1 := strM_len bs 0 0 24 (by omega)
  have h2 := listM_len (relR bs) bs (strM bs 0 0 24).2.1 (strM bs 0 0 24).2.2 8 (by omega)
  refine ⟨by simp only [maniR]; unfold lim; omega, by simp only [maniR]; unfold lim; omega, fun r hr => ?_⟩
  exact (listR_all (Q := fun r : Rel => r.2.length ≤ 6 ∧ okN r.2) (relR_ok bs) _ _ _ r hr).2

theorem readM_ok (bs : List UInt8) : okM (readM bs).1 := by
  have h0 : okM (([], []) : Mani) := ⟨by simp, by simp, fun r hr => by simp at hr⟩
  unfold readM
  split
  · exact h0
  · unfold endM
    split
    · exact h0
    · split
      · exact maniR_ok bs
      · exact h0

/-! ### the walk -/

section
variable {bs : List UInt8} {p : Nat} {e : Int}

theorem selHR (q : List AObj) : Sel 5 [0, 1, 2, 3, 4] (HR bs p e ++ q) (HR bs p e) := by
  refine ⟨by decide, rfl, by decide, fun i hi => ?_, fun i hi => .inl ?_⟩
  · match i, hi with
    | 0, _ | 1, _ | 2, _ | 3, _ | 4, _ => rfl
  · match i, hi with
    | 0, _ | 1, _ | 2, _ | 3, _ | 4, _ => rfl

theorem selTokR : Sel 5 [0, 1, 2, 3, 4, 6] (HR bs p e ++ [.gone, .tok]) (HR bs p e ++ [.tok]) := by
  refine ⟨by decide, rfl, by decide, fun i hi => ?_, fun i hi => .inl ?_⟩
  · match i, hi with
    | 0, _ | 1, _ | 2, _ | 3, _ | 4, _ => rfl
  · match i, hi with
    | 0, _ | 1, _ | 2, _ | 3, _ | 4, _ | 5, _ => rfl

theorem subHR {f : FuncId} {args : List AV} {r0 : AV} {p' : Nat} {e' : Int} (q : List AObj) (k : ASpec Try.prog f args (HR bs p e) (fun r H' => r = r0 ∧ H' = HR bs p' e'))
    (ha : args.map (AV.ren (callR [0, 1, 2, 3, 4] (HR bs p e ++ q).length)) = args) (hr : AV.ren (callR [0, 1, 2, 3, 4] (HR bs p e ++ q).length) r0 = r0) :
    ASpec Try.prog f args (HR bs p e ++ q) (fun r H' => r = r0 ∧ H' = HR bs p' e' ++ q) := by
  refine ASpec.subH [0, 1, 2, 3, 4] _ _ k args r0 (by decide) rfl ha hr (fun i hi => ?_) ?_
  · match i, hi with
    | 0, _ | 1, _ | 2, _ | 3, _ | 4, _ => rfl
  · show HR bs p' e' ++ q ++ [] = _
    rw [List.append_nil]

theorem leAppT {α : Type} {en : α → List AV} {d : α} (hr : ∀ ρ x, renL ρ (en x) = en x) {acc : List α} {x : α} {sz k j : Nat} {ρ : Nat → Nat} {ex : List AV} (hx : ex = en x) (hk : ρ j = k) :
    Le (.sl sz (.app (.map en d acc) (.raw [ex])) (.tok k)) (AV.ren ρ (.sl sz (.map en d (acc ++ [x])) (.tok j))) := by
  subst hk; subst hx
  refine Le.sl (s' := Seq.ren ρ (.map en d (acc ++ [x]))) ?_ (.inl rfl) (.inl rfl)
  simp [Ab.Seq.toList, Seq.ren, hr]

theorem leNone {α : Type} {en : α → List AV} {d : α} (hr : ∀ ρ x, renL ρ (en x) = en x) {acc : List α} {sz : Nat} {tip : Tip} {ρ : Nat → Nat} :
    Le (.sl sz (.map en d acc) tip) (AV.ren ρ (.sl sz (.map en d acc) .none)) :=
  Le.sl (s' := Seq.ren ρ (.map en d acc)) (by simp [Ab.Seq.toList, Seq.ren, hr]) (.inl rfl) (.inr rfl)

theorem renS (ρ : Nat → Nat) (x : Span) : renL ρ (encS x) = encS x := rfl
theorem renN (ρ : Nat → Nat) (x : Need) : renL ρ (encN x) = encN x := rfl
theorem renR (ρ : Nat → Nat) (x : Rel) : renL ρ (T.encR x) = T.encR x := rfl

theorem name98 (hb : bs.length ≤ big) (hp : p ≤ bs.length) : ASpec Try.prog 89 [.ptr 1 0] (HR bs p e) (fun r H' => r = .str (B (strM bs p e 24).1) ∧ H' = HR bs (strM bs p e 24).2.1 (strM bs p e 24).2.2) :=
  s89 _ _ _ _ (ASpec.call (str_spec (H := HR bs p e) (id := 0) (bs := bs) (p := p) (e := e) 24 hb hp rfl) (Les.refl _) ⟨(B (strM bs p e 24).1, ((strM bs p e 24).2.1 : Nat), (strM bs p e 24).2.2), rfl, rfl, rfl, rfl⟩)

theorem span99 (hb : bs.length ≤ big) (hp : p ≤ bs.length) : ASpec Try.prog 91 [.ptr 1 0] (HR bs p e) (fun r H' => r = .agg (encS (spanR bs p e).1) ∧ H' = HR bs (spanR bs p e).2.1 (spanR bs p e).2.2) := by
  have h1 := numM_p (e := e) (most := 1000000000) hp
  refine ASpec.sel (s91 _ _ _ _ (ASpec.call (num_spec (H := HR bs p e ++ [.cells [.int .i64 0, .int .i64 0]]) (id := 0) (bs := bs) (p := p) (e := e) 1000000000 hb hp rfl) (Les.refl _) ⟨((numM bs p e 1000000000).1, ((numM bs p e 1000000000).2.1 : Nat), (numM bs p e 1000000000).2.2), rfl, rfl, ?_⟩))
  refine ASpec.call (num_spec (H := HR bs (numM bs p e 1000000000).2.1 (numM bs p e 1000000000).2.2 ++ [.cells [.int .i64 0, .int .i64 0]]) (id := 0) (bs := bs) (p := (numM bs p e 1000000000).2.1) (e := (numM bs p e 1000000000).2.2) 1000000000 hb h1 rfl) (Les.refl _)
    ⟨((numM bs (numM bs p e 1000000000).2.1 (numM bs p e 1000000000).2.2 1000000000).1, ((numM bs (numM bs p e 1000000000).2.1 (numM bs p e 1000000000).2.2 1000000000).2.1 : Nat), (numM bs (numM bs p e 1000000000).2.1 (numM bs p e 1000000000).2.2 1000000000).2.2), rfl, rfl, ?_⟩
  exact ⟨[0, 1, 2, 3, 4], HR bs (spanR bs p e).2.1 (spanR bs p e).2.2, .agg (encS (spanR bs p e).1), selHR _, Le.refl _, rfl, rfl⟩

theorem loop101 {Post : AV → List AObj → Prop} (hb : bs.length ≤ big) : ∀ (k p : Nat) (e : Int) (acc : List Span), p ≤ bs.length → acc.length + k ≤ 100 →
    Post (.sl 2 (.map encS (0, 0) (acc ++ (listR (spanR bs) k p e).1)) (.tok 5)) (HR bs (listR (spanR bs) k p e).2.1 (listR (spanR bs) k p e).2.2 ++ [.tok]) →
    AWP Try.prog 27 5 c94_3 [(0, .ptr 0 0), (2, .fn 91 [.ptr 1 0]), (7, .sl 2 (.map encS (0, 0) acc) (.tok 5)), (8, .int .i64 k)] (HR bs p e ++ [.tok]) (q94_2 5 Post) := by
  intro k
  induction k with
  | zero =>
    intro p e acc hp ha h
    refine v94_3 _ _ _ _ _ _ _ (condD (fun hc => by omega) fun _ => ?_)
    simp only [listR, List.append_nil] at h
    exact h
  | succ k ih =>
    intro p e acc hp ha h
    simp only [listR] at h
    refine v94_3 _ _ _ _ _ _ _ (condD (fun _ => ?_) fun hc => by omega)
    refine ASpec.call (err_spec (H := HR bs p e ++ [.tok]) (id := 0) (bs := bs) (p := p) (e := e) rfl) (Les.refl _) ⟨e, rfl, rfl, condE (fun he => ?_) fun he => ?_⟩
    · rw [if_pos he] at h
      refine ASpec.call (subHR [.tok] (span99 (e := e) hb hp) rfl rfl) (Les.refl _) ⟨((spanR bs p e).1, ((spanR bs p e).2.1 : Nat), (spanR bs p e).2.2), rfl, rfl, needJ (by omega) ?_⟩
      rw [show IntKind.wrap .i64 (((k + 1 : Nat) : Int) - 1) = (k : Int) by rw [wrap64 (by omega) (by omega)]; omega]
      refine AWP.shape [0, 1, 2, 3, 4, 6] [(0, .ptr 0 0), (2, .fn 91 [.ptr 1 0]), (7, .sl 2 (.map encS (0, 0) (acc ++ [(spanR bs p e).1])) (.tok 5)), (8, .int .i64 k)] _ selTokR
        ⟨rfl, Le.refl _, rfl, Le.refl _, rfl, leAppT renS rfl rfl, rfl, Le.refl _, trivial⟩ (ih _ _ _ (spanR_p bs p e hp) (by simp; omega) ?_)
      simpa using h
    · rw [if_neg he] at h
      simp only [List.append_nil] at h
      exact h

theorem list101 {most : Int} (hm : 0 ≤ most ∧ most ≤ 100) (hb : bs.length ≤ big) (hp : p ≤ bs.length) : ASpec Try.prog 94 [.ptr 0 0, .int .i64 most, .fn 91 [.ptr 1 0]] (HR bs p e)
    (fun r H' => r = slS (listM (spanR bs) bs p e most).1 ∧ H' = HR bs (listM (spanR bs) bs p e most).2.1 (listM (spanR bs) bs p e most).2.2) := by
  have hn := numM_most bs p e most hm.1
  refine ASpec.sel (s94 _ _ _ _ _ (ASpec.call (num_spec (H := HR bs p e) (id := 0) (bs := bs) (p := p) (e := e) most hb hp rfl) (Les.refl _) ⟨((numM bs p e most).1, ((numM bs p e most).2.1 : Nat), (numM bs p e most).2.2), rfl, rfl, ?_⟩))
  refine AWP.re (ReSt.tok (H := HR bs (numM bs p e most).2.1 (numM bs p e most).2.2) (k := 7) (q' := .map encS (0, 0) []) (sz' := 2) (s2 := [(0, .ptr 0 0), (2, .fn 91 [.ptr 1 0]), (7, .sl 2 (.map encS (0, 0) []) (.tok 5)), (8, .int .i64 (numM bs p e most).1)]) rfl (.inl rfl) rfl (.inr rfl) (fun d hd => ?_) rfl) ?_
  · simp only [Ab.get]
    have e : Nat.beq 7 d = false := by
      cases hx : Nat.beq 7 d with
      | false => rfl
      | true => exact absurd (Nat.eq_of_beq_eq_true hx).symm hd
    rw [e]; rfl
  · obtain ⟨k, hk⟩ := Int.eq_ofNat_of_zero_le hn.1
    rw [hk]
    refine loop101 hb k _ _ [] (numM_p hp) (by simp; omega) ?_
    have hL : listR (spanR bs) k (numM bs p e most).2.1 (numM bs p e most).2.2 = listM (spanR bs) bs p e most := by rw [listM, hk]; rfl
    rw [hL, List.nil_append]
    exact ⟨[0, 1, 2, 3, 4], _, slS (listM (spanR bs) bs p e most).1, selHR _, leNone renS, rfl, rfl⟩

theorem need100 (hb : bs.length ≤ big) (hp : p ≤ bs.length) : ASpec Try.prog 93 [.ptr 2 0, .ptr 1 0, .ptr 3 0] (HR bs p e) (fun r H' => r = .agg (encN (needR bs p e).1) ∧ H' = HR bs (needR bs p e).2.1 (needR bs p e).2.2) := by
  have h1 := strM_p (e := e) (most := 24) hp
  refine ASpec.sel (s93 _ _ _ _ (ASpec.call (subHR [.cells [.str ⟨#[]⟩, .sl 0 (.raw []) .nil]] (name98 (e := e) hb hp) rfl rfl) (Les.refl _) ⟨(B (strM bs p e 24).1, ((strM bs p e 24).2.1 : Nat), (strM bs p e 24).2.2), rfl, rfl, ?_⟩))
  refine ASpec.call (subHR [.cells [.str ⟨#[]⟩, .sl 0 (.raw []) .nil], .cells [.str (B (strM bs p e 24).1), .sl 0 (.raw []) .nil]] (list101 (e := (strM bs p e 24).2.2) (most := 6) (by omega) hb h1) rfl rfl) (Les.refl _)
    ⟨((listM (spanR bs) bs (strM bs p e 24).2.1 (strM bs p e 24).2.2 6).1, ((listM (spanR bs) bs (strM bs p e 24).2.1 (strM bs p e 24).2.2 6).2.1 : Nat), (listM (spanR bs) bs (strM bs p e 24).2.1 (strM bs p e 24).2.2 6).2.2), rfl, rfl, ?_⟩
  exact ⟨[0, 1, 2, 3, 4], HR bs (needR bs p e).2.1 (needR bs p e).2.2, .agg (encN (needR bs p e).1), selHR _, Le.refl _, rfl, rfl⟩

theorem loop104 {Post : AV → List AObj → Prop} (hb : bs.length ≤ big) : ∀ (k p : Nat) (e : Int) (acc : List Need), p ≤ bs.length → acc.length + k ≤ 100 →
    Post (.sl 2 (.map encN ([], []) (acc ++ (listR (needR bs) k p e).1)) (.tok 5)) (HR bs (listR (needR bs) k p e).2.1 (listR (needR bs) k p e).2.2 ++ [.tok]) →
    AWP Try.prog 27 5 c97_3 [(0, .ptr 0 0), (2, .fn 93 [.ptr 2 0, .ptr 1 0, .ptr 3 0]), (7, .sl 2 (.map encN ([], []) acc) (.tok 5)), (8, .int .i64 k)] (HR bs p e ++ [.tok]) (q97_2 5 Post) := by
  intro k
  induction k with
  | zero =>
    intro p e acc hp ha h
    refine v97_3 _ _ _ _ _ _ _ (condD (fun hc => by omega) fun _ => ?_)
    simp only [listR, List.append_nil] at h
    exact h
  | succ k ih =>
    intro p e acc hp ha h
    simp only [listR] at h
    refine v97_3 _ _ _ _ _ _ _ (condD (fun _ => ?_) fun hc => by omega)
    refine ASpec.call (err_spec (H := HR bs p e ++ [.tok]) (id := 0) (bs := bs) (p := p) (e := e) rfl) (Les.refl _) ⟨e, rfl, rfl, condE (fun he => ?_) fun he => ?_⟩
    · rw [if_pos he] at h
      refine ASpec.call (subHR [.tok] (need100 (e := e) hb hp) rfl rfl) (Les.refl _) ⟨((needR bs p e).1, ((needR bs p e).2.1 : Nat), (needR bs p e).2.2), rfl, rfl, needJ (by omega) ?_⟩
      rw [show IntKind.wrap .i64 (((k + 1 : Nat) : Int) - 1) = (k : Int) by rw [wrap64 (by omega) (by omega)]; omega]
      refine AWP.shape [0, 1, 2, 3, 4, 6] [(0, .ptr 0 0), (2, .fn 93 [.ptr 2 0, .ptr 1 0, .ptr 3 0]), (7, .sl 2 (.map encN ([], []) (acc ++ [(needR bs p e).1])) (.tok 5)), (8, .int .i64 k)] _ selTokR
        ⟨rfl, Le.refl _, rfl, Le.refl _, rfl, leAppT renN rfl rfl, rfl, Le.refl _, trivial⟩ (ih _ _ _ (needR_p bs p e hp) (by simp; omega) ?_)
      simpa using h
    · rw [if_neg he] at h
      simp only [List.append_nil] at h
      exact h

theorem list104 {most : Int} (hm : 0 ≤ most ∧ most ≤ 100) (hb : bs.length ≤ big) (hp : p ≤ bs.length) : ASpec Try.prog 97 [.ptr 0 0, .int .i64 most, .fn 93 [.ptr 2 0, .ptr 1 0, .ptr 3 0]] (HR bs p e)
    (fun r H' => r = slN (listM (needR bs) bs p e most).1 ∧ H' = HR bs (listM (needR bs) bs p e most).2.1 (listM (needR bs) bs p e most).2.2) := by
  have hn := numM_most bs p e most hm.1
  refine ASpec.sel (s97 _ _ _ _ _ (ASpec.call (num_spec (H := HR bs p e) (id := 0) (bs := bs) (p := p) (e := e) most hb hp rfl) (Les.refl _) ⟨((numM bs p e most).1, ((numM bs p e most).2.1 : Nat), (numM bs p e most).2.2), rfl, rfl, ?_⟩))
  refine AWP.re (ReSt.tok (H := HR bs (numM bs p e most).2.1 (numM bs p e most).2.2) (k := 7) (q' := .map encN ([], []) []) (sz' := 2) (s2 := [(0, .ptr 0 0), (2, .fn 93 [.ptr 2 0, .ptr 1 0, .ptr 3 0]), (7, .sl 2 (.map encN ([], []) []) (.tok 5)), (8, .int .i64 (numM bs p e most).1)]) rfl (.inl rfl) rfl (.inr rfl) (fun d hd => ?_) rfl) ?_
  · simp only [Ab.get]
    have e : Nat.beq 7 d = false := by
      cases hx : Nat.beq 7 d with
      | false => rfl
      | true => exact absurd (Nat.eq_of_beq_eq_true hx).symm hd
    rw [e]; rfl
  · obtain ⟨k, hk⟩ := Int.eq_ofNat_of_zero_le hn.1
    rw [hk]
    refine loop104 hb k _ _ [] (numM_p hp) (by simp; omega) ?_
    have hL : listR (needR bs) k (numM bs p e most).2.1 (numM bs p e most).2.2 = listM (needR bs) bs p e most := by rw [listM, hk]; rfl
    rw [hL, List.nil_append]
    exact ⟨[0, 1, 2, 3, 4], _, slN (listM (needR bs) bs p e most).1, selHR _, leNone renN, rfl, rfl⟩

theorem rel103 (hb : bs.length ≤ big) (hp : p ≤ bs.length) : ASpec Try.prog 96 [.ptr 1 0, .ptr 4 0] (HR bs p e) (fun r H' => r = .agg (T.encR (relR bs p e).1) ∧ H' = HR bs (relR bs p e).2.1 (relR bs p e).2.2) := by
  have h1 := numM_p (e := e) (most := 1000000000) hp
  refine ASpec.sel (s96 _ _ _ _ (ASpec.call (num_spec (H := HR bs p e ++ [.cells [.int .i64 0, .sl 0 (.raw []) .nil]]) (id := 0) (bs := bs) (p := p) (e := e) 1000000000 hb hp rfl) (Les.refl _) ⟨((numM bs p e 1000000000).1, ((numM bs p e 1000000000).2.1 : Nat), (numM bs p e 1000000000).2.2), rfl, rfl, ?_⟩))
  refine ASpec.call (subHR [.cells [.int .i64 0, .sl 0 (.raw []) .nil], .cells [.int .i64 (numM bs p e 1000000000).1, .sl 0 (.raw []) .nil]] (list104 (e := (numM bs p e 1000000000).2.2) (most := 6) (by omega) hb h1) rfl rfl) (Les.refl _)
    ⟨((listM (needR bs) bs (numM bs p e 1000000000).2.1 (numM bs p e 1000000000).2.2 6).1, ((listM (needR bs) bs (numM bs p e 1000000000).2.1 (numM bs p e 1000000000).2.2 6).2.1 : Nat), (listM (needR bs) bs (numM bs p e 1000000000).2.1 (numM bs p e 1000000000).2.2 6).2.2), rfl, rfl, ?_⟩
  exact ⟨[0, 1, 2, 3, 4], HR bs (relR bs p e).2.1 (relR bs p e).2.2, .agg (T.encR (relR bs p e).1), selHR _, Le.refl _, rfl, rfl⟩

theorem loop102 {Post : AV → List AObj → Prop} (hb : bs.length ≤ big) : ∀ (k p : Nat) (e : Int) (acc : List Rel), p ≤ bs.length → acc.length + k ≤ 100 →
    Post (.sl 2 (.map T.encR (0, []) (acc ++ (listR (relR bs) k p e).1)) (.tok 5)) (HR bs (listR (relR bs) k p e).2.1 (listR (relR bs) k p e).2.2 ++ [.tok]) →
    AWP Try.prog 27 5 c95_3 [(0, .ptr 0 0), (2, .fn 96 [.ptr 1 0, .ptr 4 0]), (7, .sl 2 (.map T.encR (0, []) acc) (.tok 5)), (8, .int .i64 k)] (HR bs p e ++ [.tok]) (q95_2 5 Post) := by
  intro k
  induction k with
  | zero =>
    intro p e acc hp ha h
    refine v95_3 _ _ _ _ _ _ _ (condD (fun hc => by omega) fun _ => ?_)
    simp only [listR, List.append_nil] at h
    exact h
  | succ k ih =>
    intro p e acc hp ha h
    simp only [listR] at h
    refine v95_3 _ _ _ _ _ _ _ (condD (fun _ => ?_) fun hc => by omega)
    refine ASpec.call (err_spec (H := HR bs p e ++ [.tok]) (id := 0) (bs := bs) (p := p) (e := e) rfl) (Les.refl _) ⟨e, rfl, rfl, condE (fun he => ?_) fun he => ?_⟩
    · rw [if_pos he] at h
      refine ASpec.call (subHR [.tok] (rel103 (e := e) hb hp) rfl rfl) (Les.refl _) ⟨((relR bs p e).1, ((relR bs p e).2.1 : Nat), (relR bs p e).2.2), rfl, rfl, needJ (by omega) ?_⟩
      rw [show IntKind.wrap .i64 (((k + 1 : Nat) : Int) - 1) = (k : Int) by rw [wrap64 (by omega) (by omega)]; omega]
      refine AWP.shape [0, 1, 2, 3, 4, 6] [(0, .ptr 0 0), (2, .fn 96 [.ptr 1 0, .ptr 4 0]), (7, .sl 2 (.map T.encR (0, []) (acc ++ [(relR bs p e).1])) (.tok 5)), (8, .int .i64 k)] _ selTokR
        ⟨rfl, Le.refl _, rfl, Le.refl _, rfl, leAppT renR rfl rfl, rfl, Le.refl _, trivial⟩ (ih _ _ _ (relR_p bs p e hp) (by simp; omega) ?_)
      simpa using h
    · rw [if_neg he] at h
      simp only [List.append_nil] at h
      exact h

theorem list102 {most : Int} (hm : 0 ≤ most ∧ most ≤ 100) (hb : bs.length ≤ big) (hp : p ≤ bs.length) : ASpec Try.prog 95 [.ptr 0 0, .int .i64 most, .fn 96 [.ptr 1 0, .ptr 4 0]] (HR bs p e)
    (fun r H' => r = slR (listM (relR bs) bs p e most).1 ∧ H' = HR bs (listM (relR bs) bs p e most).2.1 (listM (relR bs) bs p e most).2.2) := by
  have hn := numM_most bs p e most hm.1
  refine ASpec.sel (s95 _ _ _ _ _ (ASpec.call (num_spec (H := HR bs p e) (id := 0) (bs := bs) (p := p) (e := e) most hb hp rfl) (Les.refl _) ⟨((numM bs p e most).1, ((numM bs p e most).2.1 : Nat), (numM bs p e most).2.2), rfl, rfl, ?_⟩))
  refine AWP.re (ReSt.tok (H := HR bs (numM bs p e most).2.1 (numM bs p e most).2.2) (k := 7) (q' := .map T.encR (0, []) []) (sz' := 2) (s2 := [(0, .ptr 0 0), (2, .fn 96 [.ptr 1 0, .ptr 4 0]), (7, .sl 2 (.map T.encR (0, []) []) (.tok 5)), (8, .int .i64 (numM bs p e most).1)]) rfl (.inl rfl) rfl (.inr rfl) (fun d hd => ?_) rfl) ?_
  · simp only [Ab.get]
    have e : Nat.beq 7 d = false := by
      cases hx : Nat.beq 7 d with
      | false => rfl
      | true => exact absurd (Nat.eq_of_beq_eq_true hx).symm hd
    rw [e]; rfl
  · obtain ⟨k, hk⟩ := Int.eq_ofNat_of_zero_le hn.1
    rw [hk]
    refine loop102 hb k _ _ [] (numM_p hp) (by simp; omega) ?_
    have hL : listR (relR bs) k (numM bs p e most).2.1 (numM bs p e most).2.2 = listM (relR bs) bs p e most := by rw [listM, hk]; rfl
    rw [hL, List.nil_append]
    exact ⟨[0, 1, 2, 3, 4], _, slR (listM (relR bs) bs p e most).1, selHR _, leNone renR, rfl, rfl⟩

end

abbrev zM : AObj := .cells [.str ⟨#[]⟩, .sl 0 (.raw []) .nil]

theorem read_spec (bs : List UInt8) (hb : bs.length ≤ 1000000) (H : List AObj) : ASpec Try.prog 64 [sl1 bs] H (fun r H' => r = .tup [.agg (encM (readM bs).1), .int .i64 (readM bs).2] ∧ H' = H) := by
  have k : ASpec Try.prog 64 [sl1 bs] [] (fun r H' => r = .tup [.agg (encM (readM bs).1), .int .i64 (readM bs).2] ∧ H' = []) := by
    have hb' : bs.length ≤ big := by unfold big; omega
    have none_ : ∀ (c : Int) (H' : List AObj), readM bs = (([], []), c) → ∃ l H2 r2, Sel 0 l H' H2 ∧ Le (.tup [.agg [.str ⟨#[]⟩, .sl 0 (.raw []) .nil], .int .i64 c]) (AV.ren (selR l H'.length) r2) ∧
        r2 = .tup [.agg (encM (readM bs).1), .int .i64 (readM bs).2] ∧ H2 = [] := by
      intro c H' e
      rw [e]
      exact ⟨[], [], .tup [.agg (encM ([], [])), .int .i64 c], Sel.none,
        Le.tup ⟨Le.agg ⟨Le.refl _, Le.sl (s' := Seq.ren _ (.map T.encR (0, []) [])) rfl (.inr ⟨rfl, fun _ h => by cases h⟩) (.inr rfl), trivial⟩, Le.refl _, trivial⟩, rfl, rfl⟩
    refine ASpec.sel (s64 _ _ (condD (fun h => none_ 4 _ ?_) fun h => ?_))
    · rw [readM, if_pos (by omega)]
    have hR : readM bs = endM (maniR bs).1 (closeM (maniR bs).2.2 (bs.length - (maniR bs).2.1)) := by rw [readM, if_neg (by omega)]
    refine ASpec.call (V.open_spec bs hb' [zM]) (Les.refl _) ⟨bs, rfl, rfl, ?_⟩
    have c1 : ASpec Try.prog 89 [.ptr 2 0] [zM, rd bs 0 0, .cells [.ptr 1 0], .cells [.fn 89 [.ptr 2 0]], .cells [.fn 91 [.ptr 2 0]], .cells [.fn 93 [.ptr 3 0, .ptr 2 0, .ptr 4 0]]]
        (fun r H' => r = .str (B (strM bs 0 0 24).1) ∧ H' = [zM, rd bs (strM bs 0 0 24).2.1 (strM bs 0 0 24).2.2, .cells [.ptr 1 0], .cells [.fn 89 [.ptr 2 0]], .cells [.fn 91 [.ptr 2 0]], .cells [.fn 93 [.ptr 3 0, .ptr 2 0, .ptr 4 0]]]) := by
      refine ASpec.subH [1, 2, 3, 4, 5] _ _ (name98 (bs := bs) (p := 0) (e := 0) hb' (by omega)) _ _ (by decide) rfl rfl rfl (fun i hi => ?_) rfl
      match i, hi with
      | 0, _ | 1, _ | 2, _ | 3, _ | 4, _ => rfl
    refine ASpec.call c1 (Les.refl _) ⟨(B (strM bs 0 0 24).1, ((strM bs 0 0 24).2.1 : Nat), (strM bs 0 0 24).2.2), rfl, rfl, ?_⟩
    have hp1 : (strM bs 0 0 24).2.1 ≤ bs.length := strM_p (by omega)
    have c2 : ASpec Try.prog 95 [.ptr 1 0, .int .i64 8, .fn 96 [.ptr 2 0, .ptr 5 0]] [zM, rd bs (strM bs 0 0 24).2.1 (strM bs 0 0 24).2.2, .cells [.ptr 1 0], .cells [.fn 89 [.ptr 2 0]], .cells [.fn 91 [.ptr 2 0]], .cells [.fn 93 [.ptr 3 0, .ptr 2 0, .ptr 4 0]], .cells [.str (B (strM bs 0 0 24).1), .sl 0 (.raw []) .nil]]
        (fun r H' => r = slR (maniR bs).1.2 ∧ H' = [zM, rd bs (maniR bs).2.1 (maniR bs).2.2, .cells [.ptr 1 0], .cells [.fn 89 [.ptr 2 0]], .cells [.fn 91 [.ptr 2 0]], .cells [.fn 93 [.ptr 3 0, .ptr 2 0, .ptr 4 0]], .cells [.str (B (strM bs 0 0 24).1), .sl 0 (.raw []) .nil]]) := by
      refine ASpec.subH [1, 2, 3, 4, 5] _ _ (list102 (bs := bs) (p := (strM bs 0 0 24).2.1) (e := (strM bs 0 0 24).2.2) (most := 8) (by omega) hb' hp1) _ _ (by decide) rfl rfl rfl (fun i hi => ?_) rfl
      match i, hi with
      | 0, _ | 1, _ | 2, _ | 3, _ | 4, _ => rfl
    refine ASpec.call c2 (Les.refl _) ⟨((maniR bs).1.2, ((maniR bs).2.1 : Nat), (maniR bs).2.2), rfl, rfl, ?_⟩
    refine ASpec.call (close_spec (id := 1) (bs := bs) (p := (maniR bs).2.1) (e := (maniR bs).2.2) hb' (maniR_p bs) rfl) (Les.refl _) ⟨_, rfl, rfl, ?_⟩
    generalize hc : closeM (maniR bs).2.2 (bs.length - (maniR bs).2.1) = c at hR
    refine condE (fun h0 => ?_) fun h0 => condNe (fun _ => none_ _ _ (by rw [hR, endM, if_pos h0])) fun h1 => (h0 h1).elim
    refine ASpec.call (maniCheck_spec (maniR bs).1 (maniR_ok bs) _) (Les.refl _) ⟨_, rfl, rfl, condBn (fun hm => none_ _ _ ?_) fun hm => condNe (fun h1 => (h1 h0).elim) fun _ => ?_⟩
    · rw [hR, endM, if_neg (by simpa using h0), if_neg (by rw [hm]; simp)]
    · rw [hR, endM, if_neg (by simpa using h0), if_pos hm]
      exact ⟨[], [], .tup [.agg (encM (maniR bs).1), .int .i64 0], Sel.none, Le.refl _, rfl, rfl⟩
  exact ASpec.pureH H k _ _ rfl rfl

end W
end

section
/- WirePuts: the bytes of any manifest, and the manifest of any bytes, or what is wrong first, are the document's: the law's function returns true. -/

set_option linter.unusedVariables false
set_option linter.unusedSimpArgs false
set_option maxRecDepth 100000
open Go Go.Ab Go.Proofs V S T C
namespace W

/-! ### the document's model -/

def dSpan (l : List UInt8) (e : Int) : Span × List UInt8 × Int :=
  (((dnumM l e 1000000000).1, IntKind.wrap .i64 ((dnumM l e 1000000000).1 + (dnumM (dnumM l e 1000000000).2.1 (dnumM l e 1000000000).2.2 1000000000).1)),
    (dnumM (dnumM l e 1000000000).2.1 (dnumM l e 1000000000).2.2 1000000000).2)

def dF {α : Type} (one : List UInt8 → Int → α × List UInt8 × Int) : Nat → List UInt8 → Int → List α × List UInt8 × Int
  | 0, l, e => ([], l, e)
  | k + 1, l, e => ((one l e).1 :: (dF one k (one l e).2.1 (one l e).2.2).1, (dF one k (one l e).2.1 (one l e).2.2).2)

def dL {α : Type} (one : List UInt8 → Int → α × List UInt8 × Int) (l : List UInt8) (e most : Int) : List α × List UInt8 × Int :=
  dF one (dnumM l e most).1.toNat (dnumM l e most).2.1 (dnumM l e most).2.2

def dNeed (l : List UInt8) (e : Int) : Need × List UInt8 × Int :=
  (((dstrM l e 24).1, (dL dSpan (dstrM l e 24).2.1 (dstrM l e 24).2.2 6).1), (dL dSpan (dstrM l e 24).2.1 (dstrM l e 24).2.2 6).2)
def dRel (l : List UInt8) (e : Int) : Rel × List UInt8 × Int :=
  (((dnumM l e 1000000000).1, (dL dNeed (dnumM l e 1000000000).2.1 (dnumM l e 1000000000).2.2 6).1), (dL dNeed (dnumM l e 1000000000).2.1 (dnumM l e 1000000000).2.2 6).2)
def dMani (l : List UInt8) : Mani × List UInt8 × Int :=
  (((dstrM l 0 24).1, (dL dRel (dstrM l 0 24).2.1 (dstrM l 0 24).2.2 8).1), (dL dRel (dstrM l 0 24).2.1 (dstrM l 0 24).2.2 8).2)
def dRead (l : List UInt8) : Mani × Int := if 8192 < l.length then (([], []), 4) else endM (dMani l).1 (closeM (dMani l).2.2 (dMani l).2.1.length)

/-! ### it is the code's -/

def Alike {α : Type} (bs : List UInt8) (R : α × Nat × Int) (D : α × List UInt8 × Int) : Prop := D.2.1 = bs.drop R.2.1 ∧ D.2.2 = R.2.2 ∧ (R.2.2 = 0 → D.1 = R.1)

/-- behind an error nothing is taken -/
def Sticks {α : Type} (one : List UInt8 → Int → α × List UInt8 × Int) : Prop := ∀ l e, e ≠ 0 → (one l e).2 = (l, e)

theorem dnumM_err {l : List UInt8} {e most : Int} (h : e ≠ 0) : dnumM l e most = (0, l, e) := by simp only [dnumM, if_pos h]
theorem dstrM_err {l : List UInt8} {e most : Int} (h : e ≠ 0) : dstrM l e most = ([], l, e) := by simp only [dstrM, if_pos h]

theorem dF_err {α : Type} {one : List UInt8 → Int → α × List UInt8 × Int} (hs : Sticks one) {e : Int} (h : e ≠ 0) : ∀ (k : Nat) (l : List UInt8), (dF one k l e).2 = (l, e)
  | 0, l => rfl
  | k + 1, l => by
    have := hs l e h
    simp only [dF, this]
    exact dF_err hs h k l

theorem dL_err {α : Type} {one : List UInt8 → Int → α × List UInt8 × Int} (hs : Sticks one) {l : List UInt8} {e most : Int} (h : e ≠ 0) : (dL one l e most).2 = (l, e) := by
  unfold dL
  rw [dnumM_err h]
  exact dF_err hs h _ _

theorem dSpan_sticks : Sticks dSpan := fun l e h => by simp only [dSpan, dnumM_err h]
theorem dNeed_sticks : Sticks dNeed := fun l e h => by simp only [dNeed, dstrM_err h, dL_err dSpan_sticks h]
theorem dRel_sticks : Sticks dRel := fun l e h => by simp only [dRel, dnumM_err h, dL_err dNeed_sticks h]

theorem listR_err {α : Type} {one : Nat → Int → α × Nat × Int} {e : Int} (h : e ≠ 0) (k p : Nat) : listR one k p e = ([], p, e) := by
  cases k with
  | zero => rfl
  | succ k => simp only [listR, if_neg h]

theorem alikeF {α : Type} {bs : List UInt8} {one : Nat → Int → α × Nat × Int} {done : List UInt8 → Int → α × List UInt8 × Int} (h1 : ∀ p e, p ≤ bs.length → Alike bs (one p e) (done (bs.drop p) e)) (hin : Inside bs one) (hs : Sticks done) :
    ∀ (k p : Nat) (e : Int), p ≤ bs.length → Alike bs (listR one k p e) (dF done k (bs.drop p) e)
  | 0, p, e, hp => ⟨rfl, rfl, fun _ => rfl⟩
  | k + 1, p, e, hp => by
    by_cases he : e = 0
    · obtain ⟨a1, a2, a3⟩ := h1 p e hp
      obtain ⟨b1, b2, b3⟩ := alikeF h1 hin hs k (one p e).2.1 (one p e).2.2 (hin p e hp)
      simp only [listR, if_pos he, dF, a1, a2]
      refine ⟨b1, b2, fun h0 => ?_⟩
      have hz : (one p e).2.2 = 0 := by
        by_cases hz : (one p e).2.2 = 0
        · exact hz
        · simp only [listR_err hz] at h0
          exact h0
      show _ :: _ = _ :: _
      rw [a3 hz, b3 h0]
    · rw [listR_err he]
      have := dF_err hs he (k + 1) (bs.drop p)
      exact ⟨by rw [this], by rw [this], fun h => (he h).elim⟩

theorem alikeL {α : Type} {bs : List UInt8} {one : Nat → Int → α × Nat × Int} {done : List UInt8 → Int → α × List UInt8 × Int} (h1 : ∀ p e, p ≤ bs.length → Alike bs (one p e) (done (bs.drop p) e)) (hin : Inside bs one) (hs : Sticks done)
    {p : Nat} {e most : Int} (hp : p ≤ bs.length) : Alike bs (listM one bs p e most) (dL done (bs.drop p) e most) := by
  obtain ⟨hd, hq⟩ := num_doc bs p e most hp
  unfold listM dL
  rw [hd]
  exact alikeF h1 hin hs _ _ _ hq

theorem alikeSpan (bs : List UInt8) (p : Nat) (e : Int) (hp : p ≤ bs.length) : Alike bs (spanR bs p e) (dSpan (bs.drop p) e) := by
  obtain ⟨hd, hq⟩ := num_doc bs p e 1000000000 hp
  obtain ⟨hd2, hq2⟩ := num_doc bs (numM bs p e 1000000000).2.1 (numM bs p e 1000000000).2.2 1000000000 hq
  unfold dSpan spanR Alike
  rw [hd]
  simp only [hd2]
  exact ⟨trivial, trivial, fun _ => trivial⟩

theorem alikeNeed (bs : List UInt8) (p : Nat) (e : Int) (hp : p ≤ bs.length) : Alike bs (needR bs p e) (dNeed (bs.drop p) e) := by
  obtain ⟨hd, hq⟩ := str_doc bs p e 24 hp
  obtain ⟨a1, a2, a3⟩ := alikeL (alikeSpan bs) (spanR_p bs) dSpan_sticks (e := (strM bs p e 24).2.2) (most := 6) hq
  unfold dNeed needR Alike
  rw [hd]
  simp only [a1, a2]
  exact ⟨trivial, trivial, fun h => by rw [a3 h]⟩

theorem alikeRel (bs : List UInt8) (p : Nat) (e : Int) (hp : p ≤ bs.length) : Alike bs (relR bs p e) (dRel (bs.drop p) e) := by
  obtain ⟨hd, hq⟩ := num_doc bs p e 1000000000 hp
  obtain ⟨a1, a2, a3⟩ := alikeL (alikeNeed bs) (needR_p bs) dNeed_sticks (e := (numM bs p e 1000000000).2.2) (most := 6) hq
  unfold dRel relR Alike
  rw [hd]
  simp only [a1, a2]
  exact ⟨trivial, trivial, fun h => by rw [a3 h]⟩

theorem alikeMani (bs : List UInt8) : Alike bs (maniR bs) (dMani bs) := by
  obtain ⟨hd, hq⟩ := str_doc bs 0 0 24 (Nat.zero_le _)
  rw [List.drop_zero] at hd
  obtain ⟨a1, a2, a3⟩ := alikeL (alikeRel bs) (relR_p bs) dRel_sticks (e := (strM bs 0 0 24).2.2) (most := 8) hq
  unfold dMani maniR Alike
  rw [hd]
  simp only [a1, a2]
  exact ⟨trivial, trivial, fun h => by rw [a3 h]⟩

theorem dRead_eq (bs : List UInt8) : dRead bs = readM bs := by
  obtain ⟨a1, a2, a3⟩ := alikeMani bs
  unfold dRead readM
  rw [a1, a2, List.length_drop]
  by_cases h : (maniR bs).2.2 = 0
  · rw [a3 h]
  · have hc : ∀ n, closeM (maniR bs).2.2 n = (maniR bs).2.2 := fun n => by simp only [closeM, if_pos h]
    rw [hc]
    unfold endM
    rw [if_pos h, if_pos h]

/-! ### the document's walk -/

theorem dnumM_len (l : List UInt8) (e most : Int) : (dnumM l e most).2.1.length ≤ l.length := by
  unfold dnumM; split <;> simp
theorem dstrM_len (l : List UInt8) (e most : Int) : (dstrM l e most).2.1.length ≤ l.length := by
  unfold dstrM; repeat' split
  all_goals simp
theorem dnumM_most (l : List UInt8) (e most : Int) (h : 0 ≤ most) : 0 ≤ (dnumM l e most).1 ∧ (dnumM l e most).1 ≤ most := by
  unfold dnumM
  split
  · exact ⟨Int.le_refl _, h⟩
  · exact ⟨(lookM_le _ _).2.1, lookM_most _ _ h⟩
theorem dSpan_len (l : List UInt8) (e : Int) : (dSpan l e).2.1.length ≤ l.length := Nat.le_trans (dnumM_len _ _ _) (dnumM_len _ _ _)
theorem dF_len {α : Type} {one : List UInt8 → Int → α × List UInt8 × Int} (h : ∀ l e, (one l e).2.1.length ≤ l.length) : ∀ (k : Nat) (l : List UInt8) (e : Int), (dF one k l e).2.1.length ≤ l.length
  | 0, l, e => Nat.le_refl _
  | k + 1, l, e => Nat.le_trans (dF_len h k _ _) (h l e)
theorem dL_len {α : Type} {one : List UInt8 → Int → α × List UInt8 × Int} (h : ∀ l e, (one l e).2.1.length ≤ l.length) (l : List UInt8) (e most : Int) : (dL one l e most).2.1.length ≤ l.length :=
  Nat.le_trans (dF_len h _ _ _) (dnumM_len _ _ _)
theorem dNeed_len (l : List UInt8) (e : Int) : (dNeed l e).2.1.length ≤ l.length := Nat.le_trans (dL_len dSpan_len _ _ _) (dstrM_len _ _ _)
theorem dRel_len (l : List UInt8) (e : Int) : (dRel l e).2.1.length ≤ l.length := Nat.le_trans (dL_len dNeed_len _ _ _) (dnumM_len _ _ _)

section
variable {Post : AV → List AObj → Prop}

theorem q9 {acc : List Need} {n i : Int} {nm : List UInt8} (ha : acc.length ≤ 100) {k : Nat} (hk : k ≤ 100) {R : Need × List UInt8 × Int}
    (K : AWP Try.prog 47 1 c112_4 [(0, .ptr 0 0), (3, .sl 2 (.map encN ([], []) (acc ++ [R.1])) (.tok 1)), (4, .int .i64 n), (5, .int .i64 (IntKind.wrap .i64 (i + 1)))] [dr R.2.1 R.2.2, .tok] (q112_2 1 Post)) :
    ∀ (m j : Nat) (l : List UInt8) (e : Int) (sp : List Span), m + j = k → l.length ≤ 10 * big → sp.length + m ≤ 100 → R = ((nm, sp ++ (dF dSpan m l e).1), (dF dSpan m l e).2) →
    AWP Try.prog 47 1 c112_9 [(0, .ptr 0 0), (3, .sl 2 (.map encN ([], []) acc) (.tok 1)), (4, .int .i64 n), (5, .int .i64 i), (6, .ptr 2 0), (7, .int .i64 k), (8, .int .i64 j)]
      [dr l e, .tok, .cells [.str (B nm), .sl 2 (.map encS (0, 0) sp) (.tok 3)], .tok] (q112_7 1 Post) := by
  intro m
  induction m with
  | zero =>
    intro j l e sp hm hl hs hR
    refine v112_9 _ _ _ _ _ _ _ _ _ _ _ (condD (fun hc => by omega) fun _ => needJ (by omega) ?_)
    simp only [dF, List.append_nil] at hR
    subst hR
    refine AWP.shape [0, 4] [(0, .ptr 0 0), (3, .sl 2 (.map encN ([], []) (acc ++ [(nm, sp)])) (.tok 1)), (4, .int .i64 n), (5, .int .i64 (IntKind.wrap .i64 (i + 1)))] [dr l e, .tok] ?_ ⟨rfl, Le.refl _, rfl, ?_, rfl, Le.refl _, rfl, Le.refl _, trivial⟩ K
    · refine ⟨by decide, rfl, by decide, fun i hi => ?_, fun i hi => .inl ?_⟩
      · match i, hi with
        | 0, _ => rfl
      · match i, hi with
        | 0, _ | 1, _ => rfl
    · exact Le.trans (leAppE (x := (nm, sp)) ⟨Le.refl _, Le.sl rfl (.inl rfl) (.inr rfl), trivial⟩) (Le.refl _)
  | succ m ih =>
    intro j l e sp hm hl hs hR
    refine v112_9 _ _ _ _ _ _ _ _ _ _ _ (condD (fun _ => ?_) fun hc => by omega)
    have h1 := dnumM_len l e 1000000000
    refine ASpec.call (dnum_spec (H := [dr l e, .tok, .cells [.str (B nm), .sl 2 (.map encS (0, 0) sp) (.tok 3)], .tok]) (id := 0) (l := l) (e := e) 1000000000 hl rfl) (Les.refl _)
      ⟨((dnumM l e 1000000000).1, B (dnumM l e 1000000000).2.1, (dnumM l e 1000000000).2.2), rfl, rfl, ?_⟩
    refine ASpec.call (dnum_spec (H := [dr (dnumM l e 1000000000).2.1 (dnumM l e 1000000000).2.2, .tok, .cells [.str (B nm), .sl 2 (.map encS (0, 0) sp) (.tok 3)], .tok]) (id := 0) (l := (dnumM l e 1000000000).2.1) (e := (dnumM l e 1000000000).2.2) 1000000000 (by omega) rfl) (Les.refl _)
      ⟨((dnumM (dnumM l e 1000000000).2.1 (dnumM l e 1000000000).2.2 1000000000).1, B (dnumM (dnumM l e 1000000000).2.1 (dnumM l e 1000000000).2.2 1000000000).2.1, (dnumM (dnumM l e 1000000000).2.1 (dnumM l e 1000000000).2.2 1000000000).2.2), rfl, rfl, needJ (by omega) ?_⟩
    refine AWP.re (ReSt.leCell (id := 2) (cs' := [.str (B nm), .sl 2 (.map encS (0, 0) (sp ++ [(dSpan l e).1])) (.tok 4)]) rfl ⟨Le.refl _, leAppE (Les.refl _), trivial⟩) ?_
    rw [succ64 (by omega)]
    refine AWP.shape [0, 1, 2, 4] [(0, .ptr 0 0), (3, .sl 2 (.map encN ([], []) acc) (.tok 1)), (4, .int .i64 n), (5, .int .i64 i), (6, .ptr 2 0), (7, .int .i64 k), (8, .int .i64 (j + 1 : Nat))]
      [dr (dSpan l e).2.1 (dSpan l e).2.2, .tok, .cells [.str (B nm), .sl 2 (.map encS (0, 0) (sp ++ [(dSpan l e).1])) (.tok 3)], .tok] ?_
      ⟨rfl, Le.refl _, rfl, Le.refl _, rfl, Le.refl _, rfl, Le.refl _, rfl, Le.refl _, rfl, Le.refl _, rfl, Le.refl _, trivial⟩ (ih (j + 1) _ _ _ (by omega) (Nat.le_trans (dSpan_len l e) hl) (by simp; omega) ?_)
    · refine ⟨by decide, rfl, by decide, fun i hi => ?_, fun i hi => .inl ?_⟩
      · match i, hi with
        | 0, _ => rfl
      · match i, hi with
        | 0, _ | 1, _ | 2, _ | 3, _ => rfl
    · rw [hR]; simp [dF]

theorem q4 {n : Nat} (hn : n ≤ 50) : ∀ (m i : Nat) (l : List UInt8) (e : Int) (acc : List Need), m + i = n → l.length ≤ 10 * big → acc.length + m ≤ 100 →
    Post (.sl 2 (.map encN ([], []) (acc ++ (dF dNeed m l e).1)) (.tok 1)) [dr (dF dNeed m l e).2.1 (dF dNeed m l e).2.2, .tok] →
    AWP Try.prog 47 1 c112_4 [(0, .ptr 0 0), (3, .sl 2 (.map encN ([], []) acc) (.tok 1)), (4, .int .i64 n), (5, .int .i64 i)] [dr l e, .tok] (q112_2 1 Post) := by
  intro m
  induction m with
  | zero =>
    intro i l e acc hm hl ha h
    refine v112_4 _ _ _ _ _ _ _ (condD (fun hc => by omega) fun _ => ?_)
    simp only [dF, List.append_nil] at h
    exact h
  | succ m ih =>
    intro i l e acc hm hl ha h
    refine v112_4 _ _ _ _ _ _ _ (condD (fun _ => ?_) fun hc => by omega)
    have h1 := dstrM_len l e 24
    have h2 := dnumM_most (dstrM l e 24).2.1 (dstrM l e 24).2.2 6 (by omega)
    have h3 := dnumM_len (dstrM l e 24).2.1 (dstrM l e 24).2.2 6
    refine ASpec.call (dstr_spec (H := [dr l e, .tok]) (id := 0) (l := l) (e := e) 24 hl rfl) (Les.refl _) ⟨(B (dstrM l e 24).1, B (dstrM l e 24).2.1, (dstrM l e 24).2.2), rfl, rfl, ?_⟩
    refine ASpec.call (dnum_spec (H := [dr (dstrM l e 24).2.1 (dstrM l e 24).2.2, .tok, .cells [.str (B (dstrM l e 24).1), .sl 0 (.raw []) .nil]]) (id := 0) (l := (dstrM l e 24).2.1) (e := (dstrM l e 24).2.2) 6 (by omega) rfl) (Les.refl _)
      ⟨((dnumM (dstrM l e 24).2.1 (dstrM l e 24).2.2 6).1, B (dnumM (dstrM l e 24).2.1 (dstrM l e 24).2.2 6).2.1, (dnumM (dstrM l e 24).2.1 (dstrM l e 24).2.2 6).2.2), rfl, rfl, ?_⟩
    refine AWP.re (ReSt.tokCell (id := 2) (j := 1) (q' := .map encS (0, 0) []) (sz' := 2) rfl rfl (.inl rfl) rfl (.inr rfl)) ?_
    obtain ⟨k, hk⟩ := Int.eq_ofNat_of_zero_le h2.1
    rw [hk]
    refine q9 (nm := (dstrM l e 24).1) (by omega) (k := k) (by omega) (R := dNeed l e) ?_ k 0 _ _ [] (by omega) (by omega) (by simp; omega) ?_
    · rw [succ64 (by omega)]
      refine ih (i + 1) _ _ _ (by omega) (Nat.le_trans (dNeed_len l e) hl) (by simp; omega) ?_
      simp only [dF] at h
      simpa using h
    · rw [dNeed, dL, hk]; rfl

theorem dneeds_read {H : List AObj} {id : Nat} {l : List UInt8} {e : Int} (hl : l.length ≤ 10 * big) (h : AtD H id l e) :
    ASpec Try.prog 112 [.ptr id 0] H (fun r H' => r = slN (dL dNeed l e 6).1 ∧ H' = H.set id (dr (dL dNeed l e 6).2.1 (dL dNeed l e 6).2.2)) := by
  have k : ASpec Try.prog 112 [.ptr 0 0] [dr l e] (fun r H' => r = slN (dL dNeed l e 6).1 ∧ H' = [dr (dL dNeed l e 6).2.1 (dL dNeed l e 6).2.2]) := by
    have h2 := dnumM_most l e 6 (by omega)
    have h3 := dnumM_len l e 6
    refine ASpec.sel (s112 _ _ _ (ASpec.call (dnum_spec (H := [dr l e]) (id := 0) (l := l) (e := e) 6 hl rfl) (Les.refl _) ⟨((dnumM l e 6).1, B (dnumM l e 6).2.1, (dnumM l e 6).2.2), rfl, rfl, ?_⟩))
    refine AWP.re (ReSt.tok (H := [dr (dnumM l e 6).2.1 (dnumM l e 6).2.2]) (k := 3) (q' := .map encN ([], []) []) (sz' := 2) (s2 := [(0, .ptr 0 0), (3, .sl 2 (.map encN ([], []) []) (.tok 1)), (4, .int .i64 (dnumM l e 6).1), (5, .int .i64 0)]) rfl (.inl rfl) rfl (.inr rfl) (fun d hd => ?_) rfl) ?_
    · simp only [Ab.get]
      have e : Nat.beq 3 d = false := by
        cases hx : Nat.beq 3 d with
        | false => rfl
        | true => exact absurd (Nat.eq_of_beq_eq_true hx).symm hd
      rw [e]; rfl
    · obtain ⟨k, hk⟩ := Int.eq_ofNat_of_zero_le h2.1
      rw [hk]
      refine q4 (n := k) (by omega) k 0 _ _ [] (by omega) (by omega) (by simp; omega) ?_
      have hL : dF dNeed k (dnumM l e 6).2.1 (dnumM l e 6).2.2 = dL dNeed l e 6 := by rw [dL, hk]; rfl
      rw [hL, List.nil_append]
      refine ⟨[0], [dr (dL dNeed l e 6).2.1 (dL dNeed l e 6).2.2], slN (dL dNeed l e 6).1, ?_, leNone renN, rfl, rfl⟩
      refine ⟨by decide, rfl, Nat.le_refl _, fun i hi => ?_, fun i hi => .inl ?_⟩
      · match i, hi with
        | 0, _ => rfl
      · match i, hi with
        | 0, _ => rfl
  exact ASpec.oneH H id k _ _ _ rfl rfl h rfl

/-- a manifest and an error are told, whatever lies in the heap -/
abbrev PM (v : Mani × Int) : AV → List AObj → Prop := fun r H' => ∃ l H2 r2, Sel 0 l H' H2 ∧ Le r (AV.ren (selR l H'.length) r2) ∧ (r2 = .tup [.agg (encM v.1), .int .i64 v.2] ∧ H2 = [])

theorem pmNil {v : Mani × Int} {c : Int} {H' : List AObj} (h : v = (([], []), c)) : PM v (.tup [.agg [.str ⟨#[]⟩, .sl 0 (.raw []) .nil], .int .i64 c]) H' := by
  subst h
  exact ⟨[], [], .tup [.agg (encM ([], [])), .int .i64 c], Sel.none,
    Le.tup ⟨Le.agg ⟨Le.refl _, Le.sl (s' := Seq.ren _ (.map T.encR (0, []) [])) rfl (.inr ⟨rfl, fun _ h => by cases h⟩) (.inr rfl), trivial⟩, Le.refl _, trivial⟩, rfl, rfl⟩

theorem pmVal {v : Mani × Int} {nm : List UInt8} {rs : List Rel} {tip : Tip} {H' : List AObj} (h : v = ((nm, rs), 0)) : PM v (.tup [.agg [.str (B nm), .sl 2 (.map T.encR (0, []) rs) tip], .int .i64 0]) H' := by
  subst h
  exact ⟨[], [], .tup [.agg (encM (nm, rs)), .int .i64 0], Sel.none, Le.tup ⟨Le.agg ⟨Le.refl _, leNone renR, trivial⟩, Le.refl _, trivial⟩, rfl, rfl⟩

theorem q7 {nm : List UInt8} {n : Nat} (hn : n ≤ 50) {v : Mani × Int} {R : List Rel × List UInt8 × Int} (hR : v = endM (nm, R.1) (closeM R.2.2 R.2.1.length)) (hok : closeM R.2.2 R.2.1.length = 0 → okM (nm, R.1)) :
    ∀ (m i : Nat) (l : List UInt8) (e : Int) (acc : List Rel), m + i = n → l.length ≤ 10 * big → acc.length + m ≤ 100 → R = (acc ++ (dF dRel m l e).1, (dF dRel m l e).2) →
    AWP Try.prog 53 0 c75_7 [(2, .ptr 0 0), (4, .ptr 1 0), (5, .ptr 2 0), (6, .int .i64 n), (7, .int .i64 i)] [zM, dr l e, .cells [.str (B nm), .sl 2 (.map T.encR (0, []) acc) (.tok 3)], .tok] (q75_2 0 (PM v)) := by
  intro m
  induction m with
  | zero =>
    intro i l e acc hm hl ha h
    simp only [dF, List.append_nil] at h
    subst h
    refine v75_7 _ _ _ _ _ _ _ _ (condD (fun hc => by omega) fun _ => ?_)
    refine ASpec.call (dclose_spec (H := [zM, dr l e, .cells [.str (B nm), .sl 2 (.map T.encR (0, []) acc) (.tok 3)], .tok]) (id := 1) (l := l) (e := e) rfl) (Les.refl _) ⟨_, rfl, rfl, ?_⟩
    generalize closeM e l.length = c at hR hok
    refine condE (fun h0 => ?_) fun h0 => condNe (fun _ => pmNil (by rw [hR, endM, if_pos h0])) fun h1 => (h0 h1).elim
    refine ASpec.call (rmaniCheck_spec (nm, acc) (hok h0) _) ⟨Le.agg ⟨Le.refl _, Le.sl rfl (.inl rfl) (.inr rfl), trivial⟩, trivial⟩ ⟨_, rfl, rfl, condBn (fun hm => pmNil ?_) fun hm => condNe (fun h1 => (h1 h0).elim) fun _ => pmVal ?_⟩
    · rw [hR, endM, if_neg (by simpa using h0), if_neg (by rw [hm]; simp)]
    · rw [hR, endM, if_neg (by simpa using h0), if_pos hm]
  | succ m ih =>
    intro i l e acc hm hl ha h
    have h1 := dnumM_len l e 1000000000
    refine v75_7 _ _ _ _ _ _ _ _ (condD (fun _ => ?_) fun hc => by omega)
    refine ASpec.call (dnum_spec (H := [zM, dr l e, .cells [.str (B nm), .sl 2 (.map T.encR (0, []) acc) (.tok 3)], .tok]) (id := 1) (l := l) (e := e) 1000000000 hl rfl) (Les.refl _)
      ⟨((dnumM l e 1000000000).1, B (dnumM l e 1000000000).2.1, (dnumM l e 1000000000).2.2), rfl, rfl, ?_⟩
    refine ASpec.call (dneeds_read (H := [zM, dr (dnumM l e 1000000000).2.1 (dnumM l e 1000000000).2.2, .cells [.str (B nm), .sl 2 (.map T.encR (0, []) acc) (.tok 3)], .tok, .cells [.int .i64 (dnumM l e 1000000000).1, .sl 0 (.raw []) .nil]]) (id := 1) (l := (dnumM l e 1000000000).2.1) (e := (dnumM l e 1000000000).2.2) (by omega) rfl) (Les.refl _)
      ⟨((dRel l e).1.2, B (dRel l e).2.1, (dRel l e).2.2), rfl, rfl, needJ (by omega) ?_⟩
    refine AWP.re (ReSt.leCell (id := 2) (cs' := [.str (B nm), .sl 2 (.map T.encR (0, []) (acc ++ [(dRel l e).1])) (.tok 5)]) rfl ⟨Le.refl _, leAppE (Les.refl _), trivial⟩) ?_
    rw [succ64 (by omega)]
    refine AWP.shape [0, 1, 2, 5] [(2, .ptr 0 0), (4, .ptr 1 0), (5, .ptr 2 0), (6, .int .i64 n), (7, .int .i64 (i + 1 : Nat))]
      [zM, dr (dRel l e).2.1 (dRel l e).2.2, .cells [.str (B nm), .sl 2 (.map T.encR (0, []) (acc ++ [(dRel l e).1])) (.tok 3)], .tok] ?_
      ⟨rfl, Le.refl _, rfl, Le.refl _, rfl, Le.refl _, rfl, Le.refl _, rfl, Le.refl _, trivial⟩ (ih (i + 1) _ _ _ (by omega) (Nat.le_trans (dRel_len l e) hl) (by simp; omega) ?_)
    · refine ⟨by decide, rfl, by decide, fun i hi => by omega, fun i hi => .inl ?_⟩
      match i, hi with
      | 0, _ | 1, _ | 2, _ | 3, _ => rfl
    · rw [h]; simp [dF]

theorem rread_spec (bs : List UInt8) (hb : bs.length ≤ 1000000) (H : List AObj) : ASpec Try.prog 75 [.str (B bs)] H (fun r H' => r = .tup [.agg (encM (readM bs).1), .int .i64 (readM bs).2] ∧ H' = H) := by
  have k : ASpec Try.prog 75 [.str (B bs)] [] (fun r H' => r = .tup [.agg (encM (readM bs).1), .int .i64 (readM bs).2] ∧ H' = []) := by
    have hl : bs.length ≤ 10 * big := by unfold big; omega
    refine ASpec.sel (s75 _ _ ?_)
    rw [B_size]
    refine condD (fun h => pmNil ?_) fun h => ?_
    · rw [readM, if_pos (by omega)]
    have h1 := dstrM_len bs 0 24
    have h2 := dnumM_most (dstrM bs 0 24).2.1 (dstrM bs 0 24).2.2 8 (by omega)
    have h3 := dnumM_len (dstrM bs 0 24).2.1 (dstrM bs 0 24).2.2 8
    refine ASpec.call (dstr_spec (H := [zM, dr bs 0]) (id := 1) (l := bs) (e := 0) 24 hl rfl) (Les.refl _) ⟨(B (dstrM bs 0 24).1, B (dstrM bs 0 24).2.1, (dstrM bs 0 24).2.2), rfl, rfl, ?_⟩
    refine ASpec.call (dnum_spec (H := [zM, dr (dstrM bs 0 24).2.1 (dstrM bs 0 24).2.2, .cells [.str (B (dstrM bs 0 24).1), .sl 0 (.raw []) .nil]]) (id := 1) (l := (dstrM bs 0 24).2.1) (e := (dstrM bs 0 24).2.2) 8 (by omega) rfl) (Les.refl _)
      ⟨((dnumM (dstrM bs 0 24).2.1 (dstrM bs 0 24).2.2 8).1, B (dnumM (dstrM bs 0 24).2.1 (dstrM bs 0 24).2.2 8).2.1, (dnumM (dstrM bs 0 24).2.1 (dstrM bs 0 24).2.2 8).2.2), rfl, rfl, ?_⟩
    refine AWP.re (ReSt.tokCell (id := 2) (j := 1) (q' := .map T.encR (0, []) []) (sz' := 2) rfl rfl (.inl rfl) rfl (.inr rfl)) ?_
    obtain ⟨k, hk⟩ := Int.eq_ofNat_of_zero_le h2.1
    rw [hk]
    obtain ⟨a1, a2, a3⟩ := alikeMani bs
    refine q7 (n := k) (by omega) (R := ((dMani bs).1.2, (dMani bs).2)) ?_ ?_ k 0 _ _ [] (by omega) (by omega) (by simp; omega) ?_
    · rw [← dRead_eq, dRead, if_neg (by omega)]; rfl
    · intro h0
      have he : (maniR bs).2.2 = 0 := by
        by_cases he : (maniR bs).2.2 = 0
        · exact he
        · simp only [a2] at h0
          have hc : ∀ n, closeM (maniR bs).2.2 n = (maniR bs).2.2 := fun n => by simp only [closeM, if_pos he]
          rw [hc] at h0
          exact h0
      have := maniR_ok bs
      rw [← a3 he] at this
      exact this
    · simp only [dMani, dL, hk]; rfl
  exact ASpec.pureH H k _ _ rfl rfl

/-! ### are they alike? -/

/-! ### the law -/

end
end W
end

section
/- Nothing stays in the heap: what a result may be told as. -/

open Go Go.Ab
namespace E
abbrev PA (r0 : AV) : AV → List AObj → Prop := fun r H' => ∃ l H2 r2, Sel 0 l H' H2 ∧ Le r (AV.ren (selR l H'.length) r2) ∧ (r2 = r0 ∧ H2 = [])
theorem pa {r r0 : AV} {H' : List AObj} (h : Le r (AV.ren (selR [] H'.length) r0)) : PA r0 r H' := ⟨[], [], r0, Sel.none, h, rfl, rfl⟩
end E
end

section
/- Picks as slices. -/

open Go Go.Ab Go.Proofs V S T C
namespace Pc
noncomputable abbrev slK (l : List Pk) : AV := .sl 2 (.map encPk noPk l) .none
theorem renPk (ρ : Nat → Nat) (x : Pk) : renL ρ (encPk x) = encPk x := rfl
theorem slKLe {ρ : Nat → Nat} (l : List Pk) (tip : Tip) : Le (.sl 2 (.map encPk noPk l) tip) (AV.ren ρ (slK l)) := Le.sl (s' := Seq.ren _ (.map encPk noPk l)) (by simp [Ab.Seq.toList, Seq.ren, renPk]) (.inl rfl) (.inr rfl)
end Pc
end

section
/- Where a pick stands, or would stand: what the code computes. -/

set_option linter.unusedVariables false
set_option linter.unusedSimpArgs false
set_option maxRecDepth 100000
open Go Go.Ab Go.Proofs V S T C
open E (PA pa)
open In
open Go.Proofs
namespace Pc

def bsF (p : Nat → Bool) : Nat → Nat → Nat → Nat
  | 0, lo, _ => lo
  | f + 1, lo, hi => if lo = hi then lo else if p ((lo + hi) / 2) = true then bsF p f ((lo + hi) / 2 + 1) hi else bsF p f lo ((lo + hi) / 2)
def lessAt (s : List Pk) (x : List UInt8) (k : Nat) : Bool := Op.bytesLess (s.getD k noPk).1 x
def placeM (s : List Pk) (x : List UInt8) : Nat := bsF (lessAt s x) s.length 0 s.length

theorem tdiv2 (n : Nat) : Int.tdiv (n : Int) 2 = ((n / 2 : Nat) : Int) := rfl
theorem half64 {a b : Nat} (h : a + b ≤ 1000000000) : IntKind.wrap .i64 (Int.tdiv (IntKind.wrap .i64 ((a : Int) + b)) 2) = (((a + b) / 2 : Nat) : Int) := by
  rw [show ((a : Int) + b) = ((a + b : Nat) : Int) by omega, wrap64 (x := ((a + b : Nat) : Int)) (by omega) (by omega), tdiv2, wrap64 (by omega) (by omega)]

end Pc
end

section
/- The order of names, and looking for one by halves: plain laws. -/

set_option linter.unusedVariables false
set_option linter.unusedSimpArgs false
open Go Go.Ab Go.Proofs V S T C
namespace Dp

theorem less_iff {a b : List UInt8} : Op.bytesLess a b = true ↔ a < b := by rw [bytesLess_eq]; simp
theorem less_trans {a b c : List UInt8} (h : Op.bytesLess a b = true) (k : Op.bytesLess b c = true) : Op.bytesLess a c = true := by
  rw [less_iff] at *; exact List.lt_trans h k
theorem less_irrefl (a : List UInt8) : Op.bytesLess a a = false := by
  rw [bytesLess_eq, decide_eq_false_iff_not]; exact List.lt_irrefl a
theorem less_tri : ∀ {a b : List UInt8}, Op.bytesLess a b = false → a ≠ b → Op.bytesLess b a = true
  | [], [], _, h => absurd rfl h
  | [], _ :: _, h, _ => by simp [Op.bytesLess] at h
  | _ :: _, [], _, _ => by simp [Op.bytesLess]
  | x :: a, y :: b, h, hne => by
    simp only [Op.bytesLess, Bool.or_eq_false_iff, decide_eq_false_iff_not, Bool.and_eq_false_iff, beq_eq_false_iff_ne] at h
    simp only [Op.bytesLess, Bool.or_eq_true, decide_eq_true_eq, Bool.and_eq_true, beq_iff_eq]
    by_cases e : x = y
    · subst e
      rcases h.2 with h2 | h2
      · exact absurd rfl h2
      · exact .inr ⟨rfl, less_tri h2 (fun h3 => hne (by rw [h3]))⟩
    · left
      have h1 := h.1
      rw [UInt8.not_lt] at h1
      exact UInt8.lt_of_le_of_ne h1 (fun h => e h.symm)
/-! ### entries that may be -/

end Dp
end

section
/- Picks that rise: the place of a name, what is put, got, dropped: plain laws. -/

set_option linter.unusedVariables false
set_option linter.unusedSimpArgs false
open Go Go.Ab Go.Proofs V S T C
namespace Pc
open Dp (less_iff less_trans less_irrefl less_tri)
abbrev Nm := List UInt8
abbrev lessN (a b : Nm) : Prop := Op.bytesLess a b = true

theorem ltn_irrefl {a : Nm} (h : lessN a a) : False := by rw [lessN, less_irrefl] at h; cases h
theorem ltn_tri (a b : Nm) : lessN a b ∨ a = b ∨ lessN b a := by
  cases h : Op.bytesLess a b with
  | true => exact .inl h
  | false =>
    by_cases e : a = b
    · exact .inr (.inl e)
    · exact .inr (.inr (less_tri h e))
theorem ltn_ne {a b : Nm} (h : lessN a b) : a ≠ b := by rintro rfl; exact ltn_irrefl h
/-- looking by halves, of what rises -/
theorem bsF_spec {p : Nat → Bool} {n : Nat} (hp : ∀ i j, i ≤ j → j < n → p j = true → p i = true) : ∀ (f lo hi : Nat), hi - lo ≤ f → lo ≤ hi → hi ≤ n → (∀ i, i < lo → p i = true) → (∀ i, hi ≤ i → i < n → p i = false) →
    bsF p f lo hi ≤ n ∧ (∀ i, i < bsF p f lo hi → p i = true) ∧ ∀ i, bsF p f lo hi ≤ i → i < n → p i = false
  | 0, lo, hi, h, h1, h2, h3, h4 => by
    have e : lo = hi := by omega
    subst e
    simp only [bsF]
    exact ⟨h2, h3, h4⟩
  | f + 1, lo, hi, h, h1, h2, h3, h4 => by
    simp only [bsF]
    by_cases e : lo = hi
    · subst e
      rw [if_pos rfl]
      exact ⟨h2, h3, h4⟩
    · rw [if_neg e]
      have hm : (lo + hi) / 2 < hi := by omega
      have hm2 : lo ≤ (lo + hi) / 2 := by omega
      by_cases hb : p ((lo + hi) / 2) = true
      · rw [if_pos hb]
        exact bsF_spec hp f _ hi (by omega) (by omega) h2 (fun i hi' => hp i _ (by omega) (by omega) hb) h4
      · rw [if_neg hb]
        refine bsF_spec hp f lo _ (by omega) (by omega) (by omega) h3 fun i hi' hin => ?_
        cases hx : p i with
        | false => rfl
        | true => exact (hb (hp _ i hi' hin hx)).elim

abbrev UpK (l : List Pk) : Prop := l.Pairwise fun a b => lessN a.1 b.1

/-- a name's place splits picks that rise -/
theorem place_split {s : List Pk} (hu : UpK s) (x : Nm) : ∃ A B, s = A ++ B ∧ placeM s x = A.length ∧ (∀ y ∈ A, lessN y.1 x) ∧ ∀ y ∈ B, Op.bytesLess y.1 x = false := by
  have hat : ∀ i, i < s.length → s[i]? = some (s.getD i noPk) := fun i hi => by
    rw [List.getD_eq_getElem?_getD, List.getElem?_eq_getElem hi]; rfl
  have hmono : ∀ i j, i ≤ j → j < s.length → lessAt s x j = true → lessAt s x i = true := by
    intro i j hij hj h
    rcases Nat.lt_or_eq_of_le hij with hlt | rfl
    · have := List.pairwise_iff_getElem.1 hu i j (by omega) hj hlt
      have e1 : s.getD i noPk = s[i] := by rw [List.getD_eq_getElem?_getD, List.getElem?_eq_getElem (by omega)]; rfl
      have e2 : s.getD j noPk = s[j] := by rw [List.getD_eq_getElem?_getD, List.getElem?_eq_getElem hj]; rfl
      unfold lessAt at h ⊢
      rw [e1]; rw [e2] at h
      exact less_trans this h
    · exact h
  obtain ⟨h1, h2, h3⟩ := bsF_spec hmono s.length 0 s.length (by omega) (by omega) (Nat.le_refl _) (fun i h => absurd h (Nat.not_lt_zero _)) (fun i h k => by omega)
  refine ⟨s.take (placeM s x), s.drop (placeM s x), (List.take_append_drop _ _).symm, ?_, ?_, ?_⟩
  · rw [List.length_take]; unfold placeM; omega
  · intro y hy
    obtain ⟨i, hi, rfl⟩ := List.mem_iff_getElem.1 hy
    rw [List.length_take] at hi
    rw [List.getElem_take]
    have := h2 i (by unfold placeM at hi; omega)
    unfold lessAt at this
    rw [List.getD_eq_getElem?_getD, List.getElem?_eq_getElem (by omega)] at this
    exact this
  · intro y hy
    obtain ⟨i, hi, rfl⟩ := List.mem_iff_getElem.1 hy
    rw [List.length_drop] at hi
    rw [List.getElem_drop]
    have := h3 (placeM s x + i) (by unfold placeM; omega) (by omega)
    unfold lessAt at this
    rw [List.getD_eq_getElem?_getD, List.getElem?_eq_getElem (by omega)] at this
    exact this

/-- the document's -/
def getM : List Pk → Nm → Int × Bool
  | [], _ => (0, false)
  | y :: r, x => if y.1 = x then (y.2, true) else getM r x
def dropM (l : List Pk) (x : Nm) : List Pk := l.filter fun y => !(y.1 == x)
theorem getM_ne : ∀ {A : List Pk} {x : Nm} (B : List Pk), (∀ y ∈ A, y.1 ≠ x) → getM (A ++ B) x = getM B x
  | [], _, _, _ => rfl
  | y :: A, x, B, h => by
    simp only [List.cons_append, getM]
    rw [if_neg (h y (by simp))]
    exact getM_ne B fun z hz => h z (by simp [hz])
/-- how picks that rise stand about a name -/
theorem split3 {s : List Pk} (hu : UpK s) (x : Nm) : ∃ A B, placeM s x = A.length ∧ (∀ y ∈ A, lessN y.1 x) ∧ (∀ y ∈ B, lessN x y.1) ∧ (s = A ++ B ∨ ∃ v, s = A ++ (x, v) :: B) := by
  obtain ⟨A, B, e, h1, h2, h3⟩ := place_split hu x
  subst e
  have huB : UpK B := (List.pairwise_append.1 hu).2.1
  cases B with
  | nil => exact ⟨A, [], h1, h2, by simp, .inl rfl⟩
  | cons y r =>
    have hr := (List.pairwise_cons.1 huB).1
    have hy := h3 y (by simp)
    rcases ltn_tri x y.1 with h | h | h
    · refine ⟨A, y :: r, h1, h2, fun z hz => ?_, .inl rfl⟩
      rcases List.mem_cons.1 hz with rfl | hz
      · exact h
      · exact less_trans h (hr z hz)
    · subst h
      exact ⟨A, r, h1, h2, fun z hz => hr z hz, .inr ⟨y.2, rfl⟩⟩
    · rw [lessN, hy] at h; cases h

end Pc
end
