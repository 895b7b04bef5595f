/- Q4: several of this proof's own texts, one behind the other: what each proves stands at its head. -/
import Derived.Test.YtbjcdgepclmmjaaProg
import Derived.Test.YtbjcdgepclmmjaaQ3
import Derived.Test.YtbjcdgepclmmjaaA1
import Derived.Test.YtbjcdgepclmmjaaQ2
section
/- Printed: what the code of functions 41, 42, 49, 167, 266, 265, 174, 171, 168, 169, 43, 46, 48, 40, 5 asks for, by the framework's own reading of it; each line is checked against the code. -/

set_option linter.unusedVariables false
set_option maxRecDepth 100000
set_option maxHeartbeats 4000000
open Go Go.Ab Go.Proofs
namespace Sd
noncomputable section

noncomputable def updW (args : List AV) (H : List AObj) (W : List T.Item) : List AObj := match args with
  | .ptr p _ :: _ => match H[p]? with
    | some (.cells [l, .sl _ _ (.tok a), s]) => ((H.set a .gone).set p (.cells [l, .sl 2 (.map T.encIt (0, []) W) (.tok H.length), s])) ++ [.tok]
    | _ => H
  | _ => H
noncomputable def updS (args : List AV) (H : List AObj) (W : List T.Item) (S : List T.Ev) : List AObj := match args with
  | .ptr p _ :: _ => match H[p]? with
    | some (.cells [l, .sl _ _ (.tok a), .sl _ _ (.tok b)]) => (((H.set a .gone).set b .gone).set p (.cells [l, .sl 2 (.map T.encIt (0, []) W) (.tok H.length), .sl 1 (.map T.encSn T.noEv S) (.tok (H.length + 1))])) ++ [.tok, .tok]
    | _ => H
  | _ => H
noncomputable def cutRow (args : List AV) (H : List AObj) : List AObj := match args with
  | .msl _ id _ _ :: _ => H.set id .gone ++ [.tok]
  | _ => H
noncomputable def retT : List (Nat × Ret) := [
  (40, ⟨Unit, fun _ _ _ => .bool true, fun _ H _ => H⟩),
  (41, ⟨List T.Ent, fun _ H _ => .ptr H.length 0, fun _ H x => H ++ [T.stO x [] [] (H.length + 1) (H.length + 2), .tok, .tok]⟩),
  (41, ⟨Unit, fun _ _ _ => .nilp, fun _ H _ => H⟩),
  (42, ⟨Int × List T.Item, fun _ _ x => .int .i64 x.1, fun a H x => updW a H x.2⟩),
  (43, ⟨T.Ev × Bool × List T.Item × List T.Ev, fun _ _ x => .tup [.agg (T.encE x.1), .bool x.2.1], fun a H x => updS a H x.2.2.1 x.2.2.2⟩), (43, ⟨T.Ev × Bool, fun _ _ x => .tup [.agg (T.encE x.1), .bool x.2], fun _ H _ => H⟩), (44, ⟨T.Ev × Bool × List T.Item × List T.Ev, fun _ _ x => .tup [.agg (T.encE x.1), .bool x.2.1], fun a H x => updS a H x.2.2.1 x.2.2.2⟩), (44, ⟨T.Ev × Bool, fun _ _ x => .tup [.agg (T.encE x.1), .bool x.2], fun _ H _ => H⟩), (46, ⟨T.Ev × Bool, fun _ _ x => .tup [.agg (T.encE x.1), .bool x.2], fun _ H _ => H⟩), (168, ⟨T.Ev × Bool × List T.Item × List T.Ev, fun _ _ x => .tup [.agg (T.encE x.1), .bool x.2.1], fun a H x => updS a H x.2.2.1 x.2.2.2⟩),
  (48, ⟨Bool, fun _ _ x => .bool x, fun _ H _ => H⟩), (49, ⟨Int, fun _ _ x => .int .i64 x, fun _ H _ => H⟩), (167, ⟨Bool, fun _ _ x => .bool x, fun _ H _ => H⟩), (169, ⟨List UInt8, fun _ _ x => .sl 1 (.map encB 0 x) .none, fun _ H _ => H⟩), (166, ⟨List UInt8, fun _ _ x => .sl 1 (.map encB 0 x) .none, fun _ H _ => H⟩),
  (171, ⟨T.Ev, fun _ _ x => .agg (T.encE x), fun _ H _ => H⟩),
  (174, ⟨T.Item × List T.Item, fun _ _ x => .agg (T.encIt x.1), fun a H x => updW a H x.2⟩),
  (265, ⟨List T.Item, fun _ H x => .sl 2 (.map T.encIt (0, []) x) (.tok H.length), fun a H _ => cutRow a H⟩),
  (266, ⟨List T.Item, fun _ H x => .msl 2 H.length 0 x.length, fun _ H x => H ++ [.arr 2 (.map T.encIt (0, []) x)]⟩)]
noncomputable def rets : FuncId → List Ret := lookupR (retT ++ Dp.retD ++ S.retS ++ W.retW ++ C.retC ++ V.retL)

-- 41
noncomputable def l41 : Nat → List Nat
  | 5 => [3, 11, 12, 13]
  | _ => []
noncomputable def u41 : Nat → Bool
  | _ => false
noncomputable def m41 : Nat → Bool
  | _ => false
noncomputable def g41 : Cfg := { N := 34, live := l41, cut := u41, mu := m41, ret := rets }
noncomputable def c41 : Go.Code := Go.Ab.bodyOf Go.Proofs.Try.f41
noncomputable def q41_0 : Nat → (AV → List AObj → Prop) → AQ := fun (n : Nat) (Post : AV → List AObj → Prop) => endQ Try.prog (resultsOf Try.f41) Post
noncomputable def q41_1 : Nat → (AV → List AObj → Prop) → AQ := fun (n : Nat) (Post : AV → List AObj → Prop) => seqQ (fun (s' : Slots) (H' : List AObj) => awp Try.prog g41 n (codeSnd (codeSnd (codeSnd (codeSnd c41)))) s' H' (q41_0 n Post)) (q41_0 n Post)
noncomputable def q41_2 : Nat → (AV → List AObj → Prop) → AQ := fun (n : Nat) (Post : AV → List AObj → Prop) => blockQ 0 (q41_1 n Post)
noncomputable def c41_5 : Go.Code := codeFst (codeSnd (codeFst (codeSnd (codeSnd (codeSnd c41)))))
theorem s41 : ∀ (l : List T.Ent) (Post : AV → List AObj → Prop),
  (ASpec Try.prog 58 [AV.sl 2 (Seq.map T.encEn ([], []) l) Tip.none] [] fun (r : AV) (H' : List AObj) =>
      ∃ (x : Bool),
        r = AV.bool x ∧
        H' = [] ∧
        condP (!x) (Post AV.nilp [])
        (AWP Try.prog 34 0 c41_5
        [(3, AV.ptr 0 0), (11, AV.sl 2 (Seq.map T.encEn ([], []) l) Tip.none), (12, AV.int IntKind.i64 (↑(List.length l) : Int)),
        (13, AV.int IntKind.i64 (0 : Int))]
        [AObj.cells [AV.sl 0 (Seq.raw []) Tip.nil, AV.sl 0 (Seq.raw []) Tip.nil, AV.sl 0 (Seq.raw []) Tip.nil]] (q41_2 0 Post))) →
    ASpec Try.prog 41 [AV.sl 2 (Seq.map T.encEn ([], []) l) Tip.none] [] Post := fun l Post h => Go.Ab.ASpec.of_vc g41 Go.Proofs.Try.func41 (by kernel_rfl) (by kernel_rfl) (by kernel_rfl) (Go.Ab.kc (by kernel_rfl) h)
theorem v41_5 : ∀ (l acc : List T.Ent) (n i : Int) (n_1 : Nat) (Post : AV → List AObj → Prop),
  condP (decide (i < n))
      (needP ((0 : Int) ≤ i ∧ i < (↑(List.length l) : Int))
        (ASpec Try.prog 166 [AV.sl 1 (Seq.map encB (0 : UInt8) (Prod.snd (List.getD l (Int.toNat i) ([], [])))) Tip.none]
        [AObj.cells [AV.sl 2 (Seq.map T.encEn ([], []) acc) (Tip.tok 1), AV.sl 0 (Seq.raw []) Tip.nil, AV.sl 0 (Seq.raw []) Tip.nil], AObj.tok,
        AObj.cells
        [AV.str { data := List.toArray (Prod.fst (List.getD l (Int.toNat i) ([], []))) }, AV.sl 1 (Seq.map encB (0 : UInt8) (Prod.snd (List.getD l (Int.toNat i) ([], [])))) Tip.none]]
        fun (r : AV) (H' : List AObj) =>
        ∃ (x : List UInt8),
        r = AV.sl 1 (Seq.map encB (0 : UInt8) x) Tip.none ∧
        H' =
        [AObj.cells [AV.sl 2 (Seq.map T.encEn ([], []) acc) (Tip.tok 1), AV.sl 0 (Seq.raw []) Tip.nil, AV.sl 0 (Seq.raw []) Tip.nil], AObj.tok,
        AObj.cells
        [AV.str { data := List.toArray (Prod.fst (List.getD l (Int.toNat i) ([], []))) },
        AV.sl 1 (Seq.map encB (0 : UInt8) (Prod.snd (List.getD l (Int.toNat i) ([], [])))) Tip.none]] ∧
        (AV.str { data := List.toArray (Prod.fst (List.getD l (Int.toNat i) ([], []))) } = AV.str { data := List.toArray (Prod.fst (List.getD l (Int.toNat i) ([], []))) } ∧
        [AObj.cells [AV.sl 2 (Seq.map T.encEn ([], []) acc) (Tip.tok 1), AV.sl 0 (Seq.raw []) Tip.nil, AV.sl 0 (Seq.raw []) Tip.nil], AObj.tok,
        AObj.cells
        [AV.str { data := List.toArray (Prod.fst (List.getD l (Int.toNat i) ([], []))) },
        AV.sl 1 (Seq.map encB (0 : UInt8) (Prod.snd (List.getD l (Int.toNat i) ([], [])))) Tip.none]] =
        [AObj.cells [AV.sl 2 (Seq.map T.encEn ([], []) acc) (Tip.tok 1), AV.sl 0 (Seq.raw []) Tip.nil, AV.sl 0 (Seq.raw []) Tip.nil], AObj.tok,
        AObj.cells
        [AV.str { data := List.toArray (Prod.fst (List.getD l (Int.toNat i) ([], []))) },
        AV.sl 1 (Seq.map encB (0 : UInt8) (Prod.snd (List.getD l (Int.toNat i) ([], [])))) Tip.none]]) ∧
        (AV.sl 2 (Seq.map T.encEn ([], []) acc) (Tip.tok 1) = AV.sl 2 (Seq.map T.encEn ([], []) acc) (Tip.tok 1) ∧
        [AObj.cells [AV.sl 2 (Seq.map T.encEn ([], []) acc) (Tip.tok 1), AV.sl 0 (Seq.raw []) Tip.nil, AV.sl 0 (Seq.raw []) Tip.nil], AObj.tok,
        AObj.cells
        [AV.str { data := List.toArray (Prod.fst (List.getD l (Int.toNat i) ([], []))) },
        AV.sl 1 (Seq.map encB (0 : UInt8) (Prod.snd (List.getD l (Int.toNat i) ([], [])))) Tip.none]] =
        [AObj.cells [AV.sl 2 (Seq.map T.encEn ([], []) acc) (Tip.tok 1), AV.sl 0 (Seq.raw []) Tip.nil, AV.sl 0 (Seq.raw []) Tip.nil], AObj.tok,
        AObj.cells
        [AV.str { data := List.toArray (Prod.fst (List.getD l (Int.toNat i) ([], []))) },
        AV.sl 1 (Seq.map encB (0 : UInt8) (Prod.snd (List.getD l (Int.toNat i) ([], [])))) Tip.none]]) ∧
        needP ((List.length acc + 1) * 40 ≤ 140737488351232)
        (AWP Try.prog 34 n_1 c41_5
        [(3, AV.ptr 0 0), (11, AV.sl 2 (Seq.map T.encEn ([], []) l) Tip.none), (12, AV.int IntKind.i64 n),
        (13, AV.int IntKind.i64 (IntKind.wrap IntKind.i64 (i + (1 : Int))))]
        [AObj.cells
        [AV.sl 2
        (Seq.app (Seq.map T.encEn ([], []) acc)
        (Seq.raw [[AV.str { data := List.toArray (Prod.fst (List.getD l (Int.toNat i) ([], []))) }, AV.sl 1 (Seq.map encB (0 : UInt8) x) Tip.none]]))
        (Tip.tok 3),
        AV.sl 0 (Seq.raw []) Tip.nil, AV.sl 0 (Seq.raw []) Tip.nil],
        AObj.gone,
        AObj.cells
        [AV.str { data := List.toArray (Prod.fst (List.getD l (Int.toNat i) ([], []))) },
        AV.sl 1 (Seq.map encB (0 : UInt8) (Prod.snd (List.getD l (Int.toNat i) ([], [])))) Tip.none],
        AObj.tok]
        (q41_2 n_1 Post))))
      (Post (AV.ptr 0 0)
        [AObj.cells [AV.sl 2 (Seq.map T.encEn ([], []) acc) (Tip.tok 1), AV.sl 0 (Seq.raw []) Tip.nil, AV.sl 0 (Seq.raw []) Tip.nil], AObj.tok]) →
    AWP Try.prog 34 n_1 c41_5
      [(3, AV.ptr 0 0), (11, AV.sl 2 (Seq.map T.encEn ([], []) l) Tip.none), (12, AV.int IntKind.i64 n), (13, AV.int IntKind.i64 i)]
      [AObj.cells [AV.sl 2 (Seq.map T.encEn ([], []) acc) (Tip.tok 1), AV.sl 0 (Seq.raw []) Tip.nil, AV.sl 0 (Seq.raw []) Tip.nil], AObj.tok] (q41_2 n_1 Post) := fun l acc n i n Post h => Go.Ab.AWP.loop' g41 (Cfg.live g41) c41_5 (by kernel_rfl) (by kernel_rfl) (Go.Ab.kc (by kernel_rfl) h)

-- 42
noncomputable def l42 : Nat → List Nat
  | 3 => [0, 5, 8, 9, 10]
  | _ => []
noncomputable def u42 : Nat → Bool
  | _ => false
noncomputable def m42 : Nat → Bool
  | _ => false
noncomputable def g42 : Cfg := { N := 39, live := l42, cut := u42, mu := m42, ret := rets }
noncomputable def c42 : Go.Code := Go.Ab.bodyOf Go.Proofs.Try.f42
noncomputable def q42_0 : Nat → (AV → List AObj → Prop) → AQ := fun (n : Nat) (Post : AV → List AObj → Prop) => endQ Try.prog (resultsOf Try.f42) Post
noncomputable def q42_1 : Nat → (AV → List AObj → Prop) → AQ := fun (n : Nat) (Post : AV → List AObj → Prop) => seqQ (fun (s' : Slots) (H' : List AObj) => awp Try.prog g42 n (codeSnd (codeSnd (codeSnd c42))) s' H' (q42_0 n Post)) (q42_0 n Post)
noncomputable def q42_2 : Nat → (AV → List AObj → Prop) → AQ := fun (n : Nat) (Post : AV → List AObj → Prop) => blockQ 0 (q42_1 n Post)
noncomputable def c42_3 : Go.Code := codeFst (codeSnd (codeFst (codeSnd (codeSnd c42))))
theorem s42 : ∀ (D : List T.Ent) (W : List T.Item) (S : List T.Ev) (l : List T.Ac) (Post : AV → List AObj → Prop),
  AWP Try.prog 39 3 c42_3
      [(0, AV.ptr 0 0), (5, AV.int IntKind.i64 (0 : Int)), (8, AV.sl 7 (Seq.map T.encA ((0 : Int), (0 : Int), []) l) Tip.none),
        (9, AV.int IntKind.i64 (↑(List.length l) : Int)), (10, AV.int IntKind.i64 (0 : Int))]
      [AObj.cells
        [AV.sl 2 (Seq.map T.encEn ([], []) D) Tip.none, AV.sl 2 (Seq.map T.encIt ((0 : Int), []) W) (Tip.tok 1),
        AV.sl 1 (Seq.map T.encSn T.noEv S) (Tip.tok 2)],
        AObj.tok, AObj.tok]
      (q42_2 3 Post) →
    ASpec Try.prog 42 [AV.ptr 0 0, AV.sl 7 (Seq.map T.encA ((0 : Int), (0 : Int), []) l) Tip.none] (T.HS D W S) Post := fun D W S l Post h => Go.Ab.ASpec.of_vc g42 Go.Proofs.Try.func42 (by kernel_rfl) (by kernel_rfl) (by kernel_rfl) (Go.Ab.kc (by kernel_rfl) h)
theorem v42_3 : ∀ (D : List T.Ent) (W : List T.Item) (S : List T.Ev) (l : List T.Ac) (m n i : Int) (n_1 : Nat) (Post : AV → List AObj → Prop),
  condP (decide (i < n))
      (needP ((0 : Int) ≤ i ∧ i < (↑(List.length l) : Int))
        (condP (Prod.fst (List.getD l (Int.toNat i) ((0 : Int), (0 : Int), [])) == (1 : Int))
        (needP ((List.length W + 1) * 24 ≤ 140737488351232)
        (AWP Try.prog 39 n_1 c42_3
        [(0, AV.ptr 0 0), (5, AV.int IntKind.i64 (IntKind.wrap IntKind.i64 (m + (1 : Int)))),
        (8, AV.sl 7 (Seq.map T.encA ((0 : Int), (0 : Int), []) l) Tip.none), (9, AV.int IntKind.i64 n),
        (10, AV.int IntKind.i64 (IntKind.wrap IntKind.i64 (i + (1 : Int))))]
        [AObj.cells
        [AV.sl 2 (Seq.map T.encEn ([], []) D) Tip.none,
        AV.sl 2
        (Seq.app (Seq.map T.encIt ((0 : Int), []) W)
        (Seq.raw
        [[AV.int IntKind.i64 (Prod.fst (Prod.snd (List.getD l (Int.toNat i) ((0 : Int), (0 : Int), [])))),
        AV.str { data := List.toArray (Prod.snd (Prod.snd (List.getD l (Int.toNat i) ((0 : Int), (0 : Int), [])))) }]]))
        (Tip.tok 4),
        AV.sl 1 (Seq.map T.encSn T.noEv S) (Tip.tok 2)],
        AObj.gone, AObj.tok,
        AObj.cells
        [AV.int IntKind.i64 (Prod.fst (List.getD l (Int.toNat i) ((0 : Int), (0 : Int), []))),
        AV.int IntKind.i64 (Prod.fst (Prod.snd (List.getD l (Int.toNat i) ((0 : Int), (0 : Int), [])))),
        AV.str { data := List.toArray (Prod.snd (Prod.snd (List.getD l (Int.toNat i) ((0 : Int), (0 : Int), [])))) }, AV.int IntKind.i64 (0 : Int), AV.int IntKind.i64 (0 : Int),
        AV.sl 0 (Seq.raw []) Tip.nil, AV.sl 0 (Seq.raw []) Tip.nil],
        AObj.tok]
        (q42_2 n_1 Post)))
        (AWP Try.prog 39 n_1 c42_3
        [(0, AV.ptr 0 0), (5, AV.int IntKind.i64 m), (8, AV.sl 7 (Seq.map T.encA ((0 : Int), (0 : Int), []) l) Tip.none),
        (9, AV.int IntKind.i64 n), (10, AV.int IntKind.i64 (IntKind.wrap IntKind.i64 (i + (1 : Int))))]
        [AObj.cells
        [AV.sl 2 (Seq.map T.encEn ([], []) D) Tip.none, AV.sl 2 (Seq.map T.encIt ((0 : Int), []) W) (Tip.tok 1),
        AV.sl 1 (Seq.map T.encSn T.noEv S) (Tip.tok 2)],
        AObj.tok, AObj.tok,
        AObj.cells
        [AV.int IntKind.i64 (Prod.fst (List.getD l (Int.toNat i) ((0 : Int), (0 : Int), []))), AV.int IntKind.i64 (Prod.fst (Prod.snd (List.getD l (Int.toNat i) ((0 : Int), (0 : Int), [])))),
        AV.str { data := List.toArray (Prod.snd (Prod.snd (List.getD l (Int.toNat i) ((0 : Int), (0 : Int), [])))) }, AV.int IntKind.i64 (0 : Int), AV.int IntKind.i64 (0 : Int),
        AV.sl 0 (Seq.raw []) Tip.nil, AV.sl 0 (Seq.raw []) Tip.nil]]
        (q42_2 n_1 Post))))
      (Post (AV.int IntKind.i64 m)
        [AObj.cells
        [AV.sl 2 (Seq.map T.encEn ([], []) D) Tip.none, AV.sl 2 (Seq.map T.encIt ((0 : Int), []) W) (Tip.tok 1),
        AV.sl 1 (Seq.map T.encSn T.noEv S) (Tip.tok 2)],
        AObj.tok, AObj.tok]) →
    AWP Try.prog 39 n_1 c42_3
      [(0, AV.ptr 0 0), (5, AV.int IntKind.i64 m), (8, AV.sl 7 (Seq.map T.encA ((0 : Int), (0 : Int), []) l) Tip.none),
        (9, AV.int IntKind.i64 n), (10, AV.int IntKind.i64 i)]
      (T.HS D W S) (q42_2 n_1 Post) := fun D W S l m n i n Post h => Go.Ab.AWP.loop' g42 (Cfg.live g42) c42_3 (by kernel_rfl) (by kernel_rfl) (Go.Ab.kc (by kernel_rfl) h)

-- 49
noncomputable def l49 : Nat → List Nat
  | _ => []
noncomputable def u49 : Nat → Bool
  | _ => false
noncomputable def m49 : Nat → Bool
  | _ => false
noncomputable def g49 : Cfg := { N := 10, live := l49, cut := u49, mu := m49, ret := rets }
noncomputable def c49 : Go.Code := Go.Ab.bodyOf Go.Proofs.Try.f49
theorem s49 : ∀ (D : List T.Ent) (W : List T.Item) (S : List T.Ev) (Post : AV → List AObj → Prop),
  Post (AV.int IntKind.i64 (↑(List.length W) : Int))
      [AObj.cells
        [AV.sl 2 (Seq.map T.encEn ([], []) D) Tip.none, AV.sl 2 (Seq.map T.encIt ((0 : Int), []) W) (Tip.tok 1),
        AV.sl 1 (Seq.map T.encSn T.noEv S) (Tip.tok 2)],
        AObj.tok, AObj.tok] →
    ASpec Try.prog 49 [AV.ptr 0 0] (T.HS D W S) Post := fun D W S Post h => Go.Ab.ASpec.of_vc g49 Go.Proofs.Try.func49 (by kernel_rfl) (by kernel_rfl) (by kernel_rfl) (Go.Ab.kc (by kernel_rfl) h)

-- 167
noncomputable def l167 : Nat → List Nat
  | _ => []
noncomputable def u167 : Nat → Bool
  | _ => false
noncomputable def m167 : Nat → Bool
  | _ => false
noncomputable def g167 : Cfg := { N := 13, live := l167, cut := u167, mu := m167, ret := rets }
noncomputable def c167 : Go.Code := Go.Ab.bodyOf Go.Proofs.Try.f167
theorem s167 : ∀ (D : List T.Ent) (W : List T.Item) (S : List T.Ev) (k : Int) (Post : AV → List AObj → Prop),
  condP (decide (k ≥ (0 : Int)))
      (ASpec Try.prog 49 [AV.ptr 0 0]
        [AObj.cells
        [AV.sl 2 (Seq.map T.encEn ([], []) D) Tip.none, AV.sl 2 (Seq.map T.encIt ((0 : Int), []) W) (Tip.tok 1),
        AV.sl 1 (Seq.map T.encSn T.noEv S) (Tip.tok 2)],
        AObj.tok, AObj.tok]
        fun (r : AV) (H' : List AObj) =>
        ∃ (x : Int),
        r = AV.int IntKind.i64 x ∧
        H' =
        [AObj.cells
        [AV.sl 2 (Seq.map T.encEn ([], []) D) Tip.none, AV.sl 2 (Seq.map T.encIt ((0 : Int), []) W) (Tip.tok 1),
        AV.sl 1 (Seq.map T.encSn T.noEv S) (Tip.tok 2)],
        AObj.tok, AObj.tok] ∧
        Post (AV.bool (decide (k < x)))
        [AObj.cells
        [AV.sl 2 (Seq.map T.encEn ([], []) D) Tip.none, AV.sl 2 (Seq.map T.encIt ((0 : Int), []) W) (Tip.tok 1),
        AV.sl 1 (Seq.map T.encSn T.noEv S) (Tip.tok 2)],
        AObj.tok, AObj.tok])
      (Post (AV.bool false)
        [AObj.cells
        [AV.sl 2 (Seq.map T.encEn ([], []) D) Tip.none, AV.sl 2 (Seq.map T.encIt ((0 : Int), []) W) (Tip.tok 1),
        AV.sl 1 (Seq.map T.encSn T.noEv S) (Tip.tok 2)],
        AObj.tok, AObj.tok]) →
    ASpec Try.prog 167 [AV.ptr 0 0, AV.int IntKind.i64 k] (T.HS D W S) Post := fun D W S k Post h => Go.Ab.ASpec.of_vc g167 Go.Proofs.Try.func167 (by kernel_rfl) (by kernel_rfl) (by kernel_rfl) (Go.Ab.kc (by kernel_rfl) h)

-- 266
noncomputable def l266 : Nat → List Nat
  | _ => []
noncomputable def u266 : Nat → Bool
  | _ => false
noncomputable def m266 : Nat → Bool
  | 7 => true
  | _ => false
noncomputable def g266 : Cfg := { N := 8, live := l266, cut := u266, mu := m266, ret := rets }
noncomputable def c266 : Go.Code := Go.Ab.bodyOf Go.Proofs.Try.f266
theorem s266 : ∀ (l : List T.Item) (Post : AV → List AObj → Prop),
  (∀ (b : Bool),
      (b = true → Seq.toList (Seq.map T.encIt ((0 : Int), []) l) = []) →
        condP b (Post (AV.sl 0 (Seq.raw []) Tip.nil) [])
        (needP (∀ (x : T.Item), List.all (T.encIt x) oneAV = true)
        (needP ((0 + List.length l) * 24 ≤ 140737488351232)
        (needP (1 ≤ List.length l) (Post (AV.msl 2 0 0 (List.length l)) [AObj.arr 2 (Seq.map T.encIt ((0 : Int), []) l)]))))) →
    ASpec Try.prog 266 [AV.sl 2 (Seq.map T.encIt ((0 : Int), []) l) Tip.none] [] Post := fun l Post h => Go.Ab.ASpec.of_vc g266 Go.Proofs.Try.func266 (by kernel_rfl) (by kernel_rfl) (by kernel_rfl) (Go.Ab.kc (by kernel_rfl) h)

-- 265
noncomputable def l265 : Nat → List Nat
  | 7 => [0]
  | _ => []
noncomputable def u265 : Nat → Bool
  | 7 => true
  | _ => false
noncomputable def m265 : Nat → Bool
  | 25 => true
  | 31 => true
  | _ => false
noncomputable def g265 : Cfg := { N := 33, live := l265, cut := u265, mu := m265, ret := rets }
noncomputable def c265 : Go.Code := Go.Ab.bodyOf Go.Proofs.Try.f265
noncomputable def q265_0 : Nat → (AV → List AObj → Prop) → AQ := fun (n : Nat) (Post : AV → List AObj → Prop) => endQ Try.prog (resultsOf Try.f265) Post
noncomputable def c265_7 : Go.Code := codeSnd (codeSnd (codeSnd (codeSnd (codeSnd (codeSnd c265)))))
theorem s265 : ∀ (l : List T.Item) (k : Nat) (i j : Int) (Post : AV → List AObj → Prop),
  needP ((0 : Int) ≤ i ∧ i ≤ j ∧ j ≤ (↑k : Int) ∧ (↑k : Int) ≤ (↑k : Int))
      (condP (i == j) (Post (AV.msl 2 0 0 k) [AObj.arr 2 (Seq.map T.encIt ((0 : Int), []) l)])
        (needP ((0 : Int) ≤ i ∧ i ≤ (↑k : Int))
        (needP ((0 : Int) ≤ j ∧ j ≤ (↑k : Int))
        (condP (decide (j < (↑k : Int)))
        (needP (0 + Int.toNat j + (k - Int.toNat j) ≤ List.length l)
        (needP (∀ (x : T.Item), List.all (T.encIt x) oneAV = true)
        (needP (0 + Int.toNat i + List.length (List.drop (0 + Int.toNat j) (List.take (0 + Int.toNat j + (k - Int.toNat j)) l)) ≤ List.length l)
        (needP
        ((0 : Int) ≤ (↑(Int.toNat i + List.length (List.drop (0 + Int.toNat j) (List.take (0 + Int.toNat j + (k - Int.toNat j)) l))) : Int) ∧
        (↑(Int.toNat i + List.length (List.drop (0 + Int.toNat j) (List.take (0 + Int.toNat j + (k - Int.toNat j)) l))) : Int) < (↑k : Int) ∧
        (0 : Int) + (↑k : Int) ≤
        (↑(rowLen
        [AObj.arr 2
        (copied (Seq.map T.encIt ((0 : Int), []) l) (0 + Int.toNat i)
        (Seq.map T.encIt ((0 : Int), []) (List.drop (0 + Int.toNat j) (List.take (0 + Int.toNat j + (k - Int.toNat j)) l))))]
        0) :
        Int))
        (needP
        (0 + (Int.toNat i + List.length (List.drop (0 + Int.toNat j) (List.take (0 + Int.toNat j + (k - Int.toNat j)) l))) +
        (k - (Int.toNat i + List.length (List.drop (0 + Int.toNat j) (List.take (0 + Int.toNat j + (k - Int.toNat j)) l)))) ≤
        Seq.len
        (copied (Seq.map T.encIt ((0 : Int), []) l) (0 + Int.toNat i)
        (Seq.map T.encIt ((0 : Int), []) (List.drop (0 + Int.toNat j) (List.take (0 + Int.toNat j + (k - Int.toNat j)) l)))))
        (AWP Try.prog 33 1 c265_7
        [(0,
        AV.msl 2 0 0 (Int.toNat i + List.length (List.drop (0 + Int.toNat j) (List.take (0 + Int.toNat j + (k - Int.toNat j)) l))))]
        [AObj.arr 2
        (copied
        (copied (Seq.map T.encIt ((0 : Int), []) l) (0 + Int.toNat i)
        (Seq.map T.encIt ((0 : Int), []) (List.drop (0 + Int.toNat j) (List.take (0 + Int.toNat j + (k - Int.toNat j)) l))))
        (0 + (Int.toNat i + List.length (List.drop (0 + Int.toNat j) (List.take (0 + Int.toNat j + (k - Int.toNat j)) l))))
        (Seq.raw
        (List.replicate (k - (Int.toNat i + List.length (List.drop (0 + Int.toNat j) (List.take (0 + Int.toNat j + (k - Int.toNat j)) l))))
        (List.map ofCell (Array.toList (Value.cells (Value.agg #[Value.int IntKind.i64 (0 : Int), Value.string { data := #[] }])))))))]
        (q265_0 1 Post)))))))
        (needP (0 + Int.toNat i + 0 ≤ List.length l)
        (needP
        ((0 : Int) ≤ (↑(Int.toNat i + 0) : Int) ∧
        (↑(Int.toNat i + 0) : Int) < (↑k : Int) ∧
        (0 : Int) + (↑k : Int) ≤ (↑(rowLen [AObj.arr 2 (copied (Seq.map T.encIt ((0 : Int), []) l) (0 + Int.toNat i) (Seq.raw []))] 0) : Int))
        (needP (0 + (Int.toNat i + 0) + (k - (Int.toNat i + 0)) ≤ Seq.len (copied (Seq.map T.encIt ((0 : Int), []) l) (0 + Int.toNat i) (Seq.raw [])))
        (AWP Try.prog 33 1 c265_7 [(0, AV.msl 2 0 0 (Int.toNat i + 0))]
        [AObj.arr 2
        (copied (copied (Seq.map T.encIt ((0 : Int), []) l) (0 + Int.toNat i) (Seq.raw [])) (0 + (Int.toNat i + 0))
        (Seq.raw
        (List.replicate (k - (Int.toNat i + 0))
        (List.map ofCell (Array.toList (Value.cells (Value.agg #[Value.int IntKind.i64 (0 : Int), Value.string { data := #[] }])))))))]
        (q265_0 1 Post))))))))) →
    ASpec Try.prog 265 [AV.msl 2 0 0 k, AV.int IntKind.i64 i, AV.int IntKind.i64 j] [AObj.arr 2 (Seq.map T.encIt ((0 : Int), []) l)] Post := fun l k i j Post h => Go.Ab.ASpec.of_vc g265 Go.Proofs.Try.func265 (by kernel_rfl) (by kernel_rfl) (by kernel_rfl) (Go.Ab.kc (by kernel_rfl) h)
theorem v265_7 : ∀ (l : List T.Item) (n : Nat) (Post : AV → List AObj → Prop),
  Post (AV.sl 2 (Seq.map T.encIt ((0 : Int), []) l) (Tip.tok 1)) [AObj.gone, AObj.tok] →
    AWP Try.prog 33 n c265_7 [(0, AV.sl 2 (Seq.map T.encIt ((0 : Int), []) l) (Tip.tok 1))] [AObj.gone, AObj.tok] (q265_0 n Post) := fun l n Post h => Go.Ab.awp_sound g265 n _ _ _ _ (Go.Ab.kc (by kernel_rfl) h)

-- 174
noncomputable def l174 : Nat → List Nat
  | _ => []
noncomputable def u174 : Nat → Bool
  | _ => false
noncomputable def m174 : Nat → Bool
  | _ => false
noncomputable def g174 : Cfg := { N := 26, live := l174, cut := u174, mu := m174, ret := rets }
noncomputable def c174 : Go.Code := Go.Ab.bodyOf Go.Proofs.Try.f174
theorem s174 : ∀ (D : List T.Ent) (W : List T.Item) (S : List T.Ev) (k : Int) (Post : AV → List AObj → Prop),
  needP ((0 : Int) ≤ k ∧ k < (↑(List.length W) : Int))
      (ASpec Try.prog 266 [AV.sl 2 (Seq.map T.encIt ((0 : Int), []) W) (Tip.tok 1)]
        [AObj.cells
        [AV.sl 2 (Seq.map T.encEn ([], []) D) Tip.none, AV.sl 2 (Seq.map T.encIt ((0 : Int), []) W) (Tip.tok 1),
        AV.sl 1 (Seq.map T.encSn T.noEv S) (Tip.tok 2)],
        AObj.tok, AObj.tok, AObj.cells [AV.int IntKind.i64 (0 : Int), AV.str { data := #[] }],
        AObj.cells [AV.int IntKind.i64 (Prod.fst (List.getD W (Int.toNat k) ((0 : Int), []))), AV.str { data := List.toArray (Prod.snd (List.getD W (Int.toNat k) ((0 : Int), []))) }]]
        fun (r : AV) (H' : List AObj) =>
        ∃ (x : List T.Item),
        r = AV.msl 2 5 0 (List.length x) ∧
        H' =
        [AObj.cells
        [AV.sl 2 (Seq.map T.encEn ([], []) D) Tip.none, AV.sl 2 (Seq.map T.encIt ((0 : Int), []) W) (Tip.tok 1),
        AV.sl 1 (Seq.map T.encSn T.noEv S) (Tip.tok 2)],
        AObj.tok, AObj.tok, AObj.cells [AV.int IntKind.i64 (0 : Int), AV.str { data := #[] }],
        AObj.cells [AV.int IntKind.i64 (Prod.fst (List.getD W (Int.toNat k) ((0 : Int), []))), AV.str { data := List.toArray (Prod.snd (List.getD W (Int.toNat k) ((0 : Int), []))) }],
        AObj.arr 2 (Seq.map T.encIt ((0 : Int), []) x)] ∧
        ASpec Try.prog 265 [AV.msl 2 5 0 (List.length x), AV.int IntKind.i64 k, AV.int IntKind.i64 (IntKind.wrap IntKind.i64 (k + (1 : Int)))]
        [AObj.cells
        [AV.sl 2 (Seq.map T.encEn ([], []) D) Tip.none, AV.sl 2 (Seq.map T.encIt ((0 : Int), []) W) (Tip.tok 1),
        AV.sl 1 (Seq.map T.encSn T.noEv S) (Tip.tok 2)],
        AObj.tok, AObj.tok, AObj.cells [AV.int IntKind.i64 (0 : Int), AV.str { data := #[] }],
        AObj.cells [AV.int IntKind.i64 (Prod.fst (List.getD W (Int.toNat k) ((0 : Int), []))), AV.str { data := List.toArray (Prod.snd (List.getD W (Int.toNat k) ((0 : Int), []))) }],
        AObj.arr 2 (Seq.map T.encIt ((0 : Int), []) x)]
        fun (r : AV) (H' : List AObj) =>
        ∃ (x : List T.Item),
        r = AV.sl 2 (Seq.map T.encIt ((0 : Int), []) x) (Tip.tok 6) ∧
        H' =
        [AObj.cells
        [AV.sl 2 (Seq.map T.encEn ([], []) D) Tip.none, AV.sl 2 (Seq.map T.encIt ((0 : Int), []) W) (Tip.tok 1),
        AV.sl 1 (Seq.map T.encSn T.noEv S) (Tip.tok 2)],
        AObj.tok, AObj.tok, AObj.cells [AV.int IntKind.i64 (0 : Int), AV.str { data := #[] }],
        AObj.cells
        [AV.int IntKind.i64 (Prod.fst (List.getD W (Int.toNat k) ((0 : Int), []))), AV.str { data := List.toArray (Prod.snd (List.getD W (Int.toNat k) ((0 : Int), []))) }],
        AObj.gone, AObj.tok] ∧
        Post (AV.agg [AV.int IntKind.i64 (Prod.fst (List.getD W (Int.toNat k) ((0 : Int), []))), AV.str { data := List.toArray (Prod.snd (List.getD W (Int.toNat k) ((0 : Int), []))) }])
        [AObj.cells
        [AV.sl 2 (Seq.map T.encEn ([], []) D) Tip.none, AV.sl 2 (Seq.map T.encIt ((0 : Int), []) x) (Tip.tok 6),
        AV.sl 1 (Seq.map T.encSn T.noEv S) (Tip.tok 2)],
        AObj.tok, AObj.tok,
        AObj.cells
        [AV.int IntKind.i64 (Prod.fst (List.getD W (Int.toNat k) ((0 : Int), []))), AV.str { data := List.toArray (Prod.snd (List.getD W (Int.toNat k) ((0 : Int), []))) }],
        AObj.cells
        [AV.int IntKind.i64 (Prod.fst (List.getD W (Int.toNat k) ((0 : Int), []))), AV.str { data := List.toArray (Prod.snd (List.getD W (Int.toNat k) ((0 : Int), []))) }],
        AObj.gone, AObj.tok]) →
    ASpec Try.prog 174 [AV.ptr 0 0, AV.int IntKind.i64 k] (T.HS D W S) Post := fun D W S k Post h => Go.Ab.ASpec.of_vc g174 Go.Proofs.Try.func174 (by kernel_rfl) (by kernel_rfl) (by kernel_rfl) (Go.Ab.kc (by kernel_rfl) h)

-- 171
noncomputable def l171 : Nat → List Nat
  | _ => []
noncomputable def u171 : Nat → Bool
  | _ => false
noncomputable def m171 : Nat → Bool
  | _ => false
noncomputable def g171 : Cfg := { N := 8, live := l171, cut := u171, mu := m171, ret := rets }
noncomputable def c171 : Go.Code := Go.Ab.bodyOf Go.Proofs.Try.f171
theorem s171 : ∀ (e : T.Ev) (Post : AV → List AObj → Prop),
  (ASpec Try.prog 166 [AV.sl 1 (Seq.map encB (0 : UInt8) (Prod.snd (Prod.snd (Prod.snd (Prod.snd e))))) Tip.none]
      [AObj.cells
        [AV.int IntKind.i64 (Prod.fst e), AV.sl 2 (Seq.map T.encN ([], []) (Prod.fst (Prod.snd e))) Tip.none, AV.int IntKind.i64 (Prod.fst (Prod.snd (Prod.snd e))),
        AV.int IntKind.i64 (Prod.fst (Prod.snd (Prod.snd (Prod.snd e)))), AV.sl 1 (Seq.map encB (0 : UInt8) (Prod.snd (Prod.snd (Prod.snd (Prod.snd e))))) Tip.none],
        AObj.cells [AV.int IntKind.i64 (0 : Int), AV.sl 0 (Seq.raw []) Tip.nil, AV.int IntKind.i64 (0 : Int), AV.int IntKind.i64 (0 : Int), AV.sl 0 (Seq.raw []) Tip.nil]]
      fun (r : AV) (H' : List AObj) =>
      ∃ (x : List UInt8),
        r = AV.sl 1 (Seq.map encB (0 : UInt8) x) Tip.none ∧
        H' =
        [AObj.cells
        [AV.int IntKind.i64 (Prod.fst e), AV.sl 2 (Seq.map T.encN ([], []) (Prod.fst (Prod.snd e))) Tip.none, AV.int IntKind.i64 (Prod.fst (Prod.snd (Prod.snd e))),
        AV.int IntKind.i64 (Prod.fst (Prod.snd (Prod.snd (Prod.snd e)))), AV.sl 1 (Seq.map encB (0 : UInt8) (Prod.snd (Prod.snd (Prod.snd (Prod.snd e))))) Tip.none],
        AObj.cells [AV.int IntKind.i64 (0 : Int), AV.sl 0 (Seq.raw []) Tip.nil, AV.int IntKind.i64 (0 : Int), AV.int IntKind.i64 (0 : Int), AV.sl 0 (Seq.raw []) Tip.nil]] ∧
        Post
        (AV.agg
        [AV.int IntKind.i64 (Prod.fst e), AV.sl 2 (Seq.map T.encN ([], []) (Prod.fst (Prod.snd e))) Tip.none, AV.int IntKind.i64 (Prod.fst (Prod.snd (Prod.snd e))),
        AV.int IntKind.i64 (Prod.fst (Prod.snd (Prod.snd (Prod.snd e)))), AV.sl 1 (Seq.map encB (0 : UInt8) x) Tip.none])
        [AObj.cells
        [AV.int IntKind.i64 (Prod.fst e), AV.sl 2 (Seq.map T.encN ([], []) (Prod.fst (Prod.snd e))) Tip.none, AV.int IntKind.i64 (Prod.fst (Prod.snd (Prod.snd e))),
        AV.int IntKind.i64 (Prod.fst (Prod.snd (Prod.snd (Prod.snd e)))), AV.sl 1 (Seq.map encB (0 : UInt8) x) Tip.none],
        AObj.cells
        [AV.int IntKind.i64 (Prod.fst e), AV.sl 2 (Seq.map T.encN ([], []) (Prod.fst (Prod.snd e))) Tip.none, AV.int IntKind.i64 (Prod.fst (Prod.snd (Prod.snd e))),
        AV.int IntKind.i64 (Prod.fst (Prod.snd (Prod.snd (Prod.snd e)))), AV.sl 1 (Seq.map encB (0 : UInt8) x) Tip.none]]) →
    ASpec Try.prog 171 [AV.agg (T.encE e)] [] Post := fun e Post h => Go.Ab.ASpec.of_vc g171 Go.Proofs.Try.func171 (by kernel_rfl) (by kernel_rfl) (by kernel_rfl) (Go.Ab.kc (by kernel_rfl) h)

-- 168
noncomputable def l168 : Nat → List Nat
  | _ => []
noncomputable def u168 : Nat → Bool
  | _ => false
noncomputable def m168 : Nat → Bool
  | _ => false
noncomputable def g168 : Cfg := { N := 28, live := l168, cut := u168, mu := m168, ret := rets }
noncomputable def c168 : Go.Code := Go.Ab.bodyOf Go.Proofs.Try.f168
theorem s168 : ∀ (D : List T.Ent) (W : List T.Item) (S : List T.Ev) (k : Int) (b : List UInt8) (Post : AV → List AObj → Prop),
  (ASpec Try.prog 174 [AV.ptr 0 0, AV.int IntKind.i64 k]
      [AObj.cells
        [AV.sl 2 (Seq.map T.encEn ([], []) D) Tip.none, AV.sl 2 (Seq.map T.encIt ((0 : Int), []) W) (Tip.tok 1),
        AV.sl 1 (Seq.map T.encSn T.noEv S) (Tip.tok 2)],
        AObj.tok, AObj.tok,
        AObj.cells [AV.int IntKind.i64 (0 : Int), AV.sl 0 (Seq.raw []) Tip.nil, AV.int IntKind.i64 (0 : Int), AV.int IntKind.i64 (0 : Int), AV.sl 0 (Seq.raw []) Tip.nil]]
      fun (r : AV) (H' : List AObj) =>
      ∃ (x : T.Item × List T.Item),
        r = AV.agg [AV.int IntKind.i64 (Prod.fst (Prod.fst x)), AV.str { data := List.toArray (Prod.snd (Prod.fst x)) }] ∧
        H' =
        [AObj.cells
        [AV.sl 2 (Seq.map T.encEn ([], []) D) Tip.none, AV.sl 2 (Seq.map T.encIt ((0 : Int), []) (Prod.snd x)) (Tip.tok 4),
        AV.sl 1 (Seq.map T.encSn T.noEv S) (Tip.tok 2)],
        AObj.gone, AObj.tok,
        AObj.cells [AV.int IntKind.i64 (0 : Int), AV.sl 0 (Seq.raw []) Tip.nil, AV.int IntKind.i64 (0 : Int), AV.int IntKind.i64 (0 : Int), AV.sl 0 (Seq.raw []) Tip.nil],
        AObj.tok] ∧
        ASpec Try.prog 171
        [AV.agg
        [AV.int IntKind.i64 (3 : Int), AV.sl 0 (Seq.raw []) Tip.nil, AV.int IntKind.i64 (0 : Int), AV.int IntKind.i64 (Prod.fst (Prod.fst x)),
        AV.sl 1 (Seq.map encB (0 : UInt8) b) Tip.none]]
        [AObj.cells
        [AV.sl 2 (Seq.map T.encEn ([], []) D) Tip.none, AV.sl 2 (Seq.map T.encIt ((0 : Int), []) (Prod.snd x)) (Tip.tok 4),
        AV.sl 1 (Seq.map T.encSn T.noEv S) (Tip.tok 2)],
        AObj.gone, AObj.tok,
        AObj.cells [AV.int IntKind.i64 (0 : Int), AV.sl 0 (Seq.raw []) Tip.nil, AV.int IntKind.i64 (0 : Int), AV.int IntKind.i64 (0 : Int), AV.sl 0 (Seq.raw []) Tip.nil],
        AObj.tok,
        AObj.cells
        [AV.int IntKind.i64 (3 : Int), AV.sl 0 (Seq.raw []) Tip.nil, AV.int IntKind.i64 (0 : Int), AV.int IntKind.i64 (Prod.fst (Prod.fst x)),
        AV.sl 1 (Seq.map encB (0 : UInt8) b) Tip.none]]
        fun (r : AV) (H' : List AObj) =>
        ∃ (x_1 : Int × List T.Need × Int × Int × List UInt8),
        r =
        AV.agg
        [AV.int IntKind.i64 (Prod.fst x_1), AV.sl 2 (Seq.map T.encN ([], []) (Prod.fst (Prod.snd x_1))) Tip.none, AV.int IntKind.i64 (Prod.fst (Prod.snd (Prod.snd x_1))),
        AV.int IntKind.i64 (Prod.fst (Prod.snd (Prod.snd (Prod.snd x_1)))), AV.sl 1 (Seq.map encB (0 : UInt8) (Prod.snd (Prod.snd (Prod.snd (Prod.snd x_1))))) Tip.none] ∧
        H' =
        [AObj.cells
        [AV.sl 2 (Seq.map T.encEn ([], []) D) Tip.none, AV.sl 2 (Seq.map T.encIt ((0 : Int), []) (Prod.snd x)) (Tip.tok 4),
        AV.sl 1 (Seq.map T.encSn T.noEv S) (Tip.tok 2)],
        AObj.gone, AObj.tok,
        AObj.cells
        [AV.int IntKind.i64 (0 : Int), AV.sl 0 (Seq.raw []) Tip.nil, AV.int IntKind.i64 (0 : Int), AV.int IntKind.i64 (0 : Int), AV.sl 0 (Seq.raw []) Tip.nil],
        AObj.tok,
        AObj.cells
        [AV.int IntKind.i64 (3 : Int), AV.sl 0 (Seq.raw []) Tip.nil, AV.int IntKind.i64 (0 : Int), AV.int IntKind.i64 (Prod.fst (Prod.fst x)),
        AV.sl 1 (Seq.map encB (0 : UInt8) b) Tip.none]] ∧
        (AV.sl 1 (Seq.map T.encSn T.noEv S) (Tip.tok 2) = AV.sl 1 (Seq.map T.encSn T.noEv S) (Tip.tok 2) ∧
        [AObj.cells
        [AV.sl 2 (Seq.map T.encEn ([], []) D) Tip.none, AV.sl 2 (Seq.map T.encIt ((0 : Int), []) (Prod.snd x)) (Tip.tok 4),
        AV.sl 1 (Seq.map T.encSn T.noEv S) (Tip.tok 2)],
        AObj.gone, AObj.tok,
        AObj.cells
        [AV.int IntKind.i64 (0 : Int), AV.sl 0 (Seq.raw []) Tip.nil, AV.int IntKind.i64 (0 : Int), AV.int IntKind.i64 (0 : Int), AV.sl 0 (Seq.raw []) Tip.nil],
        AObj.tok,
        AObj.cells
        [AV.int IntKind.i64 (3 : Int), AV.sl 0 (Seq.raw []) Tip.nil, AV.int IntKind.i64 (0 : Int), AV.int IntKind.i64 (Prod.fst (Prod.fst x)),
        AV.sl 1 (Seq.map encB (0 : UInt8) b) Tip.none]] =
        [AObj.cells
        [AV.sl 2 (Seq.map T.encEn ([], []) D) Tip.none, AV.sl 2 (Seq.map T.encIt ((0 : Int), []) (Prod.snd x)) (Tip.tok 4),
        AV.sl 1 (Seq.map T.encSn T.noEv S) (Tip.tok 2)],
        AObj.gone, AObj.tok,
        AObj.cells
        [AV.int IntKind.i64 (0 : Int), AV.sl 0 (Seq.raw []) Tip.nil, AV.int IntKind.i64 (0 : Int), AV.int IntKind.i64 (0 : Int), AV.sl 0 (Seq.raw []) Tip.nil],
        AObj.tok,
        AObj.cells
        [AV.int IntKind.i64 (3 : Int), AV.sl 0 (Seq.raw []) Tip.nil, AV.int IntKind.i64 (0 : Int), AV.int IntKind.i64 (Prod.fst (Prod.fst x)),
        AV.sl 1 (Seq.map encB (0 : UInt8) b) Tip.none]]) ∧
        needP ((List.length S + 1) * 16 ≤ 140737488351232)
        (Post
        (AV.tup
        [AV.agg
        [AV.int IntKind.i64 (3 : Int), AV.sl 0 (Seq.raw []) Tip.nil, AV.int IntKind.i64 (0 : Int), AV.int IntKind.i64 (Prod.fst (Prod.fst x)),
        AV.sl 1 (Seq.map encB (0 : UInt8) b) Tip.none],
        AV.bool true])
        [AObj.cells
        [AV.sl 2 (Seq.map T.encEn ([], []) D) Tip.none, AV.sl 2 (Seq.map T.encIt ((0 : Int), []) (Prod.snd x)) (Tip.tok 4),
        AV.sl 1
        (Seq.app (Seq.map T.encSn T.noEv S)
        (Seq.raw
        [[AV.iface 68
        (AV.agg
        [AV.int IntKind.i64 (Prod.fst x_1), AV.sl 2 (Seq.map T.encN ([], []) (Prod.fst (Prod.snd x_1))) Tip.none,
        AV.int IntKind.i64 (Prod.fst (Prod.snd (Prod.snd x_1))), AV.int IntKind.i64 (Prod.fst (Prod.snd (Prod.snd (Prod.snd x_1)))),
        AV.sl 1 (Seq.map encB (0 : UInt8) (Prod.snd (Prod.snd (Prod.snd (Prod.snd x_1))))) Tip.none])]]))
        (Tip.tok 6)],
        AObj.gone, AObj.gone,
        AObj.cells
        [AV.int IntKind.i64 (3 : Int), AV.sl 0 (Seq.raw []) Tip.nil, AV.int IntKind.i64 (0 : Int), AV.int IntKind.i64 (Prod.fst (Prod.fst x)),
        AV.sl 1 (Seq.map encB (0 : UInt8) b) Tip.none],
        AObj.tok,
        AObj.cells
        [AV.int IntKind.i64 (3 : Int), AV.sl 0 (Seq.raw []) Tip.nil, AV.int IntKind.i64 (0 : Int), AV.int IntKind.i64 (Prod.fst (Prod.fst x)),
        AV.sl 1 (Seq.map encB (0 : UInt8) b) Tip.none],
        AObj.tok])) →
    ASpec Try.prog 168 [AV.ptr 0 0, AV.int IntKind.i64 k, AV.sl 1 (Seq.map encB (0 : UInt8) b) Tip.none] (T.HS D W S) Post := fun D W S k b Post h => Go.Ab.ASpec.of_vc g168 Go.Proofs.Try.func168 (by kernel_rfl) (by kernel_rfl) (by kernel_rfl) (Go.Ab.kc (by kernel_rfl) h)

-- 169
noncomputable def l169 : Nat → List Nat
  | _ => []
noncomputable def u169 : Nat → Bool
  | _ => false
noncomputable def m169 : Nat → Bool
  | _ => false
noncomputable def g169 : Cfg := { N := 22, live := l169, cut := u169, mu := m169, ret := rets }
noncomputable def c169 : Go.Code := Go.Ab.bodyOf Go.Proofs.Try.f169
theorem s169 : ∀ (D : List T.Ent) (W : List T.Item) (S : List T.Ev) (k : Int) (Post : AV → List AObj → Prop),
  needP ((0 : Int) ≤ k ∧ k < (↑(List.length W) : Int))
      (ASpec Try.prog 61 [AV.sl 2 (Seq.map T.encEn ([], []) D) Tip.none, AV.str { data := List.toArray (Prod.snd (List.getD W (Int.toNat k) ((0 : Int), []))) }]
        [AObj.cells
        [AV.sl 2 (Seq.map T.encEn ([], []) D) Tip.none, AV.sl 2 (Seq.map T.encIt ((0 : Int), []) W) (Tip.tok 1),
        AV.sl 1 (Seq.map T.encSn T.noEv S) (Tip.tok 2)],
        AObj.tok, AObj.tok]
        fun (r : AV) (H' : List AObj) =>
        ∃ (x : List UInt8),
        r = AV.sl 1 (Seq.map encB (0 : UInt8) x) Tip.none ∧
        H' =
        [AObj.cells
        [AV.sl 2 (Seq.map T.encEn ([], []) D) Tip.none, AV.sl 2 (Seq.map T.encIt ((0 : Int), []) W) (Tip.tok 1),
        AV.sl 1 (Seq.map T.encSn T.noEv S) (Tip.tok 2)],
        AObj.tok, AObj.tok] ∧
        ASpec Try.prog 262 [AV.str { data := List.toArray (Prod.snd (List.getD W (Int.toNat k) ((0 : Int), []))) }, AV.sl 1 (Seq.map encB (0 : UInt8) x) Tip.none]
        [AObj.cells
        [AV.sl 2 (Seq.map T.encEn ([], []) D) Tip.none, AV.sl 2 (Seq.map T.encIt ((0 : Int), []) W) (Tip.tok 1),
        AV.sl 1 (Seq.map T.encSn T.noEv S) (Tip.tok 2)],
        AObj.tok, AObj.tok]
        fun (r : AV) (H' : List AObj) =>
        ∃ (x : List UInt8),
        r = AV.sl 1 (Seq.map encB (0 : UInt8) x) Tip.none ∧
        H' =
        [AObj.cells
        [AV.sl 2 (Seq.map T.encEn ([], []) D) Tip.none, AV.sl 2 (Seq.map T.encIt ((0 : Int), []) W) (Tip.tok 1),
        AV.sl 1 (Seq.map T.encSn T.noEv S) (Tip.tok 2)],
        AObj.tok, AObj.tok] ∧
        Post (AV.sl 1 (Seq.map encB (0 : UInt8) x) Tip.none)
        [AObj.cells
        [AV.sl 2 (Seq.map T.encEn ([], []) D) Tip.none, AV.sl 2 (Seq.map T.encIt ((0 : Int), []) W) (Tip.tok 1),
        AV.sl 1 (Seq.map T.encSn T.noEv S) (Tip.tok 2)],
        AObj.tok, AObj.tok]) →
    ASpec Try.prog 169 [AV.ptr 0 0, AV.int IntKind.i64 k] (T.HS D W S) Post := fun D W S k Post h => Go.Ab.ASpec.of_vc g169 Go.Proofs.Try.func169 (by kernel_rfl) (by kernel_rfl) (by kernel_rfl) (Go.Ab.kc (by kernel_rfl) h)

-- 43
noncomputable def l43 : Nat → List Nat
  | _ => []
noncomputable def u43 : Nat → Bool
  | _ => false
noncomputable def m43 : Nat → Bool
  | _ => false
noncomputable def g43 : Cfg := { N := 19, live := l43, cut := u43, mu := m43, ret := rets }
noncomputable def c43 : Go.Code := Go.Ab.bodyOf Go.Proofs.Try.f43
theorem s43 : ∀ (D : List T.Ent) (W : List T.Item) (S : List T.Ev) (k : Int) (Post : AV → List AObj → Prop),
  (ASpec Try.prog 167 [AV.ptr 0 0, AV.int IntKind.i64 k]
      [AObj.cells
        [AV.sl 2 (Seq.map T.encEn ([], []) D) Tip.none, AV.sl 2 (Seq.map T.encIt ((0 : Int), []) W) (Tip.tok 1),
        AV.sl 1 (Seq.map T.encSn T.noEv S) (Tip.tok 2)],
        AObj.tok, AObj.tok,
        AObj.cells [AV.int IntKind.i64 (0 : Int), AV.sl 0 (Seq.raw []) Tip.nil, AV.int IntKind.i64 (0 : Int), AV.int IntKind.i64 (0 : Int), AV.sl 0 (Seq.raw []) Tip.nil]]
      fun (r : AV) (H' : List AObj) =>
      ∃ (x : Bool),
        r = AV.bool x ∧
        H' =
        [AObj.cells
        [AV.sl 2 (Seq.map T.encEn ([], []) D) Tip.none, AV.sl 2 (Seq.map T.encIt ((0 : Int), []) W) (Tip.tok 1),
        AV.sl 1 (Seq.map T.encSn T.noEv S) (Tip.tok 2)],
        AObj.tok, AObj.tok,
        AObj.cells [AV.int IntKind.i64 (0 : Int), AV.sl 0 (Seq.raw []) Tip.nil, AV.int IntKind.i64 (0 : Int), AV.int IntKind.i64 (0 : Int), AV.sl 0 (Seq.raw []) Tip.nil]] ∧
        condP (!x)
        (Post
        (AV.tup
        [AV.agg [AV.int IntKind.i64 (0 : Int), AV.sl 0 (Seq.raw []) Tip.nil, AV.int IntKind.i64 (0 : Int), AV.int IntKind.i64 (0 : Int), AV.sl 0 (Seq.raw []) Tip.nil],
        AV.bool false])
        [AObj.cells
        [AV.sl 2 (Seq.map T.encEn ([], []) D) Tip.none, AV.sl 2 (Seq.map T.encIt ((0 : Int), []) W) (Tip.tok 1),
        AV.sl 1 (Seq.map T.encSn T.noEv S) (Tip.tok 2)],
        AObj.tok, AObj.tok,
        AObj.cells [AV.int IntKind.i64 (0 : Int), AV.sl 0 (Seq.raw []) Tip.nil, AV.int IntKind.i64 (0 : Int), AV.int IntKind.i64 (0 : Int), AV.sl 0 (Seq.raw []) Tip.nil]])
        (ASpec Try.prog 169 [AV.ptr 0 0, AV.int IntKind.i64 k]
        [AObj.cells
        [AV.sl 2 (Seq.map T.encEn ([], []) D) Tip.none, AV.sl 2 (Seq.map T.encIt ((0 : Int), []) W) (Tip.tok 1),
        AV.sl 1 (Seq.map T.encSn T.noEv S) (Tip.tok 2)],
        AObj.tok, AObj.tok,
        AObj.cells [AV.int IntKind.i64 (0 : Int), AV.sl 0 (Seq.raw []) Tip.nil, AV.int IntKind.i64 (0 : Int), AV.int IntKind.i64 (0 : Int), AV.sl 0 (Seq.raw []) Tip.nil]]
        fun (r : AV) (H' : List AObj) =>
        ∃ (x : List UInt8),
        r = AV.sl 1 (Seq.map encB (0 : UInt8) x) Tip.none ∧
        H' =
        [AObj.cells
        [AV.sl 2 (Seq.map T.encEn ([], []) D) Tip.none, AV.sl 2 (Seq.map T.encIt ((0 : Int), []) W) (Tip.tok 1),
        AV.sl 1 (Seq.map T.encSn T.noEv S) (Tip.tok 2)],
        AObj.tok, AObj.tok,
        AObj.cells
        [AV.int IntKind.i64 (0 : Int), AV.sl 0 (Seq.raw []) Tip.nil, AV.int IntKind.i64 (0 : Int), AV.int IntKind.i64 (0 : Int), AV.sl 0 (Seq.raw []) Tip.nil]] ∧
        ASpec Try.prog 168 [AV.ptr 0 0, AV.int IntKind.i64 k, AV.sl 1 (Seq.map encB (0 : UInt8) x) Tip.none]
        [AObj.cells
        [AV.sl 2 (Seq.map T.encEn ([], []) D) Tip.none, AV.sl 2 (Seq.map T.encIt ((0 : Int), []) W) (Tip.tok 1),
        AV.sl 1 (Seq.map T.encSn T.noEv S) (Tip.tok 2)],
        AObj.tok, AObj.tok,
        AObj.cells
        [AV.int IntKind.i64 (0 : Int), AV.sl 0 (Seq.raw []) Tip.nil, AV.int IntKind.i64 (0 : Int), AV.int IntKind.i64 (0 : Int), AV.sl 0 (Seq.raw []) Tip.nil]]
        fun (r : AV) (H' : List AObj) =>
        ∃ (x : T.Ev × Bool × List T.Item × List T.Ev),
        r =
        AV.tup
        [AV.agg
        [AV.int IntKind.i64 (Prod.fst (Prod.fst x)), AV.sl 2 (Seq.map T.encN ([], []) (Prod.fst (Prod.snd (Prod.fst x)))) Tip.none,
        AV.int IntKind.i64 (Prod.fst (Prod.snd (Prod.snd (Prod.fst x)))), AV.int IntKind.i64 (Prod.fst (Prod.snd (Prod.snd (Prod.snd (Prod.fst x))))),
        AV.sl 1 (Seq.map encB (0 : UInt8) (Prod.snd (Prod.snd (Prod.snd (Prod.snd (Prod.fst x)))))) Tip.none],
        AV.bool (Prod.fst (Prod.snd x))] ∧
        H' =
        [AObj.cells
        [AV.sl 2 (Seq.map T.encEn ([], []) D) Tip.none, AV.sl 2 (Seq.map T.encIt ((0 : Int), []) (Prod.fst (Prod.snd (Prod.snd x)))) (Tip.tok 4),
        AV.sl 1 (Seq.map T.encSn T.noEv (Prod.snd (Prod.snd (Prod.snd x)))) (Tip.tok 5)],
        AObj.gone, AObj.gone,
        AObj.cells
        [AV.int IntKind.i64 (0 : Int), AV.sl 0 (Seq.raw []) Tip.nil, AV.int IntKind.i64 (0 : Int), AV.int IntKind.i64 (0 : Int),
        AV.sl 0 (Seq.raw []) Tip.nil],
        AObj.tok, AObj.tok] ∧
        Post
        (AV.tup
        [AV.agg
        [AV.int IntKind.i64 (Prod.fst (Prod.fst x)), AV.sl 2 (Seq.map T.encN ([], []) (Prod.fst (Prod.snd (Prod.fst x)))) Tip.none,
        AV.int IntKind.i64 (Prod.fst (Prod.snd (Prod.snd (Prod.fst x)))), AV.int IntKind.i64 (Prod.fst (Prod.snd (Prod.snd (Prod.snd (Prod.fst x))))),
        AV.sl 1 (Seq.map encB (0 : UInt8) (Prod.snd (Prod.snd (Prod.snd (Prod.snd (Prod.fst x)))))) Tip.none],
        AV.bool (Prod.fst (Prod.snd x))])
        [AObj.cells
        [AV.sl 2 (Seq.map T.encEn ([], []) D) Tip.none, AV.sl 2 (Seq.map T.encIt ((0 : Int), []) (Prod.fst (Prod.snd (Prod.snd x)))) (Tip.tok 4),
        AV.sl 1 (Seq.map T.encSn T.noEv (Prod.snd (Prod.snd (Prod.snd x)))) (Tip.tok 5)],
        AObj.gone, AObj.gone,
        AObj.cells
        [AV.int IntKind.i64 (Prod.fst (Prod.fst x)), AV.sl 2 (Seq.map T.encN ([], []) (Prod.fst (Prod.snd (Prod.fst x)))) Tip.none,
        AV.int IntKind.i64 (Prod.fst (Prod.snd (Prod.snd (Prod.fst x)))), AV.int IntKind.i64 (Prod.fst (Prod.snd (Prod.snd (Prod.snd (Prod.fst x))))),
        AV.sl 1 (Seq.map encB (0 : UInt8) (Prod.snd (Prod.snd (Prod.snd (Prod.snd (Prod.fst x)))))) Tip.none],
        AObj.tok, AObj.tok])) →
    ASpec Try.prog 43 [AV.ptr 0 0, AV.int IntKind.i64 k] (T.HS D W S) Post := fun D W S k Post h => Go.Ab.ASpec.of_vc g43 Go.Proofs.Try.func43 (by kernel_rfl) (by kernel_rfl) (by kernel_rfl) (Go.Ab.kc (by kernel_rfl) h)

-- 46
noncomputable def l46 : Nat → List Nat
  | _ => []
noncomputable def u46 : Nat → Bool
  | _ => false
noncomputable def m46 : Nat → Bool
  | _ => false
noncomputable def g46 : Cfg := { N := 38, live := l46, cut := u46, mu := m46, ret := rets }
noncomputable def c46 : Go.Code := Go.Ab.bodyOf Go.Proofs.Try.f46
theorem s46 : ∀ (D : List T.Ent) (W : List T.Item) (S : List T.Ev) (k : Int) (Post : AV → List AObj → Prop),
  condP (decide (k < (0 : Int)))
      (Post
        (AV.tup
        [AV.agg [AV.int IntKind.i64 (0 : Int), AV.sl 0 (Seq.raw []) Tip.nil, AV.int IntKind.i64 (0 : Int), AV.int IntKind.i64 (0 : Int), AV.sl 0 (Seq.raw []) Tip.nil],
        AV.bool false])
        [AObj.cells
        [AV.sl 2 (Seq.map T.encEn ([], []) D) Tip.none, AV.sl 2 (Seq.map T.encIt ((0 : Int), []) W) (Tip.tok 1),
        AV.sl 1 (Seq.map T.encSn T.noEv S) (Tip.tok 2)],
        AObj.tok, AObj.tok,
        AObj.cells [AV.int IntKind.i64 (0 : Int), AV.sl 0 (Seq.raw []) Tip.nil, AV.int IntKind.i64 (0 : Int), AV.int IntKind.i64 (0 : Int), AV.sl 0 (Seq.raw []) Tip.nil]])
      (condP (decide (k ≥ (↑(List.length S) : Int)))
        (Post
        (AV.tup
        [AV.agg [AV.int IntKind.i64 (0 : Int), AV.sl 0 (Seq.raw []) Tip.nil, AV.int IntKind.i64 (0 : Int), AV.int IntKind.i64 (0 : Int), AV.sl 0 (Seq.raw []) Tip.nil],
        AV.bool false])
        [AObj.cells
        [AV.sl 2 (Seq.map T.encEn ([], []) D) Tip.none, AV.sl 2 (Seq.map T.encIt ((0 : Int), []) W) (Tip.tok 1),
        AV.sl 1 (Seq.map T.encSn T.noEv S) (Tip.tok 2)],
        AObj.tok, AObj.tok,
        AObj.cells [AV.int IntKind.i64 (0 : Int), AV.sl 0 (Seq.raw []) Tip.nil, AV.int IntKind.i64 (0 : Int), AV.int IntKind.i64 (0 : Int), AV.sl 0 (Seq.raw []) Tip.nil]])
        (needP ((0 : Int) ≤ k ∧ k < (↑(List.length S) : Int))
        (ASpec Try.prog 171
        [AV.agg
        [AV.int IntKind.i64 (Prod.fst (List.getD S (Int.toNat k) T.noEv)), AV.sl 2 (Seq.map T.encN ([], []) (Prod.fst (Prod.snd (List.getD S (Int.toNat k) T.noEv)))) Tip.none,
        AV.int IntKind.i64 (Prod.fst (Prod.snd (Prod.snd (List.getD S (Int.toNat k) T.noEv)))),
        AV.int IntKind.i64 (Prod.fst (Prod.snd (Prod.snd (Prod.snd (List.getD S (Int.toNat k) T.noEv))))),
        AV.sl 1 (Seq.map encB (0 : UInt8) (Prod.snd (Prod.snd (Prod.snd (Prod.snd (List.getD S (Int.toNat k) T.noEv)))))) Tip.none]]
        [AObj.cells
        [AV.sl 2 (Seq.map T.encEn ([], []) D) Tip.none, AV.sl 2 (Seq.map T.encIt ((0 : Int), []) W) (Tip.tok 1),
        AV.sl 1 (Seq.map T.encSn T.noEv S) (Tip.tok 2)],
        AObj.tok, AObj.tok,
        AObj.cells [AV.int IntKind.i64 (0 : Int), AV.sl 0 (Seq.raw []) Tip.nil, AV.int IntKind.i64 (0 : Int), AV.int IntKind.i64 (0 : Int), AV.sl 0 (Seq.raw []) Tip.nil],
        AObj.cells
        [AV.int IntKind.i64 (Prod.fst (List.getD S (Int.toNat k) T.noEv)), AV.sl 2 (Seq.map T.encN ([], []) (Prod.fst (Prod.snd (List.getD S (Int.toNat k) T.noEv)))) Tip.none,
        AV.int IntKind.i64 (Prod.fst (Prod.snd (Prod.snd (List.getD S (Int.toNat k) T.noEv)))),
        AV.int IntKind.i64 (Prod.fst (Prod.snd (Prod.snd (Prod.snd (List.getD S (Int.toNat k) T.noEv))))),
        AV.sl 1 (Seq.map encB (0 : UInt8) (Prod.snd (Prod.snd (Prod.snd (Prod.snd (List.getD S (Int.toNat k) T.noEv)))))) Tip.none]]
        fun (r : AV) (H' : List AObj) =>
        ∃ (x : Int × List T.Need × Int × Int × List UInt8),
        r =
        AV.agg
        [AV.int IntKind.i64 (Prod.fst x), AV.sl 2 (Seq.map T.encN ([], []) (Prod.fst (Prod.snd x))) Tip.none, AV.int IntKind.i64 (Prod.fst (Prod.snd (Prod.snd x))),
        AV.int IntKind.i64 (Prod.fst (Prod.snd (Prod.snd (Prod.snd x)))), AV.sl 1 (Seq.map encB (0 : UInt8) (Prod.snd (Prod.snd (Prod.snd (Prod.snd x))))) Tip.none] ∧
        H' =
        [AObj.cells
        [AV.sl 2 (Seq.map T.encEn ([], []) D) Tip.none, AV.sl 2 (Seq.map T.encIt ((0 : Int), []) W) (Tip.tok 1),
        AV.sl 1 (Seq.map T.encSn T.noEv S) (Tip.tok 2)],
        AObj.tok, AObj.tok,
        AObj.cells [AV.int IntKind.i64 (0 : Int), AV.sl 0 (Seq.raw []) Tip.nil, AV.int IntKind.i64 (0 : Int), AV.int IntKind.i64 (0 : Int), AV.sl 0 (Seq.raw []) Tip.nil],
        AObj.cells
        [AV.int IntKind.i64 (Prod.fst (List.getD S (Int.toNat k) T.noEv)), AV.sl 2 (Seq.map T.encN ([], []) (Prod.fst (Prod.snd (List.getD S (Int.toNat k) T.noEv)))) Tip.none,
        AV.int IntKind.i64 (Prod.fst (Prod.snd (Prod.snd (List.getD S (Int.toNat k) T.noEv)))),
        AV.int IntKind.i64 (Prod.fst (Prod.snd (Prod.snd (Prod.snd (List.getD S (Int.toNat k) T.noEv))))),
        AV.sl 1 (Seq.map encB (0 : UInt8) (Prod.snd (Prod.snd (Prod.snd (Prod.snd (List.getD S (Int.toNat k) T.noEv)))))) Tip.none]] ∧
        Post
        (AV.tup
        [AV.agg
        [AV.int IntKind.i64 (Prod.fst x), AV.sl 2 (Seq.map T.encN ([], []) (Prod.fst (Prod.snd x))) Tip.none, AV.int IntKind.i64 (Prod.fst (Prod.snd (Prod.snd x))),
        AV.int IntKind.i64 (Prod.fst (Prod.snd (Prod.snd (Prod.snd x)))), AV.sl 1 (Seq.map encB (0 : UInt8) (Prod.snd (Prod.snd (Prod.snd (Prod.snd x))))) Tip.none],
        AV.bool true])
        [AObj.cells
        [AV.sl 2 (Seq.map T.encEn ([], []) D) Tip.none, AV.sl 2 (Seq.map T.encIt ((0 : Int), []) W) (Tip.tok 1),
        AV.sl 1 (Seq.map T.encSn T.noEv S) (Tip.tok 2)],
        AObj.tok, AObj.tok,
        AObj.cells
        [AV.int IntKind.i64 (Prod.fst x), AV.sl 2 (Seq.map T.encN ([], []) (Prod.fst (Prod.snd x))) Tip.none, AV.int IntKind.i64 (Prod.fst (Prod.snd (Prod.snd x))),
        AV.int IntKind.i64 (Prod.fst (Prod.snd (Prod.snd (Prod.snd x)))), AV.sl 1 (Seq.map encB (0 : UInt8) (Prod.snd (Prod.snd (Prod.snd (Prod.snd x))))) Tip.none],
        AObj.cells
        [AV.int IntKind.i64 (Prod.fst (List.getD S (Int.toNat k) T.noEv)), AV.sl 2 (Seq.map T.encN ([], []) (Prod.fst (Prod.snd (List.getD S (Int.toNat k) T.noEv)))) Tip.none,
        AV.int IntKind.i64 (Prod.fst (Prod.snd (Prod.snd (List.getD S (Int.toNat k) T.noEv)))),
        AV.int IntKind.i64 (Prod.fst (Prod.snd (Prod.snd (Prod.snd (List.getD S (Int.toNat k) T.noEv))))),
        AV.sl 1 (Seq.map encB (0 : UInt8) (Prod.snd (Prod.snd (Prod.snd (Prod.snd (List.getD S (Int.toNat k) T.noEv)))))) Tip.none]]))) →
    ASpec Try.prog 46 [AV.ptr 0 0, AV.int IntKind.i64 k] (T.HS D W S) Post := fun D W S k Post h => Go.Ab.ASpec.of_vc g46 Go.Proofs.Try.func46 (by kernel_rfl) (by kernel_rfl) (by kernel_rfl) (Go.Ab.kc (by kernel_rfl) h)

-- 48
noncomputable def l48 : Nat → List Nat
  | _ => []
noncomputable def u48 : Nat → Bool
  | _ => false
noncomputable def m48 : Nat → Bool
  | _ => false
noncomputable def g48 : Cfg := { N := 40, live := l48, cut := u48, mu := m48, ret := rets }
noncomputable def c48 : Go.Code := Go.Ab.bodyOf Go.Proofs.Try.f48
theorem s48 : ∀ (a b : T.Ev) (Post : AV → List AObj → Prop),
  condP (Prod.fst a == Prod.fst b)
      (ASpec Try.prog 173 [AV.sl 2 (Seq.map T.encN ([], []) (Prod.fst (Prod.snd a))) Tip.none, AV.sl 2 (Seq.map T.encN ([], []) (Prod.fst (Prod.snd b))) Tip.none]
        [AObj.cells
        [AV.int IntKind.i64 (Prod.fst a), AV.sl 2 (Seq.map T.encN ([], []) (Prod.fst (Prod.snd a))) Tip.none, AV.int IntKind.i64 (Prod.fst (Prod.snd (Prod.snd a))),
        AV.int IntKind.i64 (Prod.fst (Prod.snd (Prod.snd (Prod.snd a)))), AV.sl 1 (Seq.map encB (0 : UInt8) (Prod.snd (Prod.snd (Prod.snd (Prod.snd a))))) Tip.none],
        AObj.cells
        [AV.int IntKind.i64 (Prod.fst b), AV.sl 2 (Seq.map T.encN ([], []) (Prod.fst (Prod.snd b))) Tip.none, AV.int IntKind.i64 (Prod.fst (Prod.snd (Prod.snd b))),
        AV.int IntKind.i64 (Prod.fst (Prod.snd (Prod.snd (Prod.snd b)))), AV.sl 1 (Seq.map encB (0 : UInt8) (Prod.snd (Prod.snd (Prod.snd (Prod.snd b))))) Tip.none]]
        fun (r : AV) (H' : List AObj) =>
        ∃ (x : Bool),
        r = AV.bool x ∧
        H' =
        [AObj.cells
        [AV.int IntKind.i64 (Prod.fst a), AV.sl 2 (Seq.map T.encN ([], []) (Prod.fst (Prod.snd a))) Tip.none, AV.int IntKind.i64 (Prod.fst (Prod.snd (Prod.snd a))),
        AV.int IntKind.i64 (Prod.fst (Prod.snd (Prod.snd (Prod.snd a)))), AV.sl 1 (Seq.map encB (0 : UInt8) (Prod.snd (Prod.snd (Prod.snd (Prod.snd a))))) Tip.none],
        AObj.cells
        [AV.int IntKind.i64 (Prod.fst b), AV.sl 2 (Seq.map T.encN ([], []) (Prod.fst (Prod.snd b))) Tip.none, AV.int IntKind.i64 (Prod.fst (Prod.snd (Prod.snd b))),
        AV.int IntKind.i64 (Prod.fst (Prod.snd (Prod.snd (Prod.snd b)))), AV.sl 1 (Seq.map encB (0 : UInt8) (Prod.snd (Prod.snd (Prod.snd (Prod.snd b))))) Tip.none]] ∧
        condP x
        (condP (Prod.fst (Prod.snd (Prod.snd a)) == Prod.fst (Prod.snd (Prod.snd b)))
        (condP (Prod.fst (Prod.snd (Prod.snd (Prod.snd a))) == Prod.fst (Prod.snd (Prod.snd (Prod.snd b))))
        (needP (allBytes (Seq.map encB (0 : UInt8) (Prod.snd (Prod.snd (Prod.snd (Prod.snd a))))))
        (needP (allBytes (Seq.map encB (0 : UInt8) (Prod.snd (Prod.snd (Prod.snd (Prod.snd b))))))
        (Post
        (AV.bool
        (ByteArray.toList (bytesOf (Seq.map encB (0 : UInt8) (Prod.snd (Prod.snd (Prod.snd (Prod.snd a)))))) ==
        ByteArray.toList (bytesOf (Seq.map encB (0 : UInt8) (Prod.snd (Prod.snd (Prod.snd (Prod.snd b))))))))
        [AObj.cells
        [AV.int IntKind.i64 (Prod.fst a), AV.sl 2 (Seq.map T.encN ([], []) (Prod.fst (Prod.snd a))) Tip.none, AV.int IntKind.i64 (Prod.fst (Prod.snd (Prod.snd a))),
        AV.int IntKind.i64 (Prod.fst (Prod.snd (Prod.snd (Prod.snd a)))), AV.sl 1 (Seq.map encB (0 : UInt8) (Prod.snd (Prod.snd (Prod.snd (Prod.snd a))))) Tip.none],
        AObj.cells
        [AV.int IntKind.i64 (Prod.fst b), AV.sl 2 (Seq.map T.encN ([], []) (Prod.fst (Prod.snd b))) Tip.none, AV.int IntKind.i64 (Prod.fst (Prod.snd (Prod.snd b))),
        AV.int IntKind.i64 (Prod.fst (Prod.snd (Prod.snd (Prod.snd b)))), AV.sl 1 (Seq.map encB (0 : UInt8) (Prod.snd (Prod.snd (Prod.snd (Prod.snd b))))) Tip.none]])))
        (Post (AV.bool false)
        [AObj.cells
        [AV.int IntKind.i64 (Prod.fst a), AV.sl 2 (Seq.map T.encN ([], []) (Prod.fst (Prod.snd a))) Tip.none, AV.int IntKind.i64 (Prod.fst (Prod.snd (Prod.snd a))),
        AV.int IntKind.i64 (Prod.fst (Prod.snd (Prod.snd (Prod.snd a)))), AV.sl 1 (Seq.map encB (0 : UInt8) (Prod.snd (Prod.snd (Prod.snd (Prod.snd a))))) Tip.none],
        AObj.cells
        [AV.int IntKind.i64 (Prod.fst b), AV.sl 2 (Seq.map T.encN ([], []) (Prod.fst (Prod.snd b))) Tip.none, AV.int IntKind.i64 (Prod.fst (Prod.snd (Prod.snd b))),
        AV.int IntKind.i64 (Prod.fst (Prod.snd (Prod.snd (Prod.snd b)))), AV.sl 1 (Seq.map encB (0 : UInt8) (Prod.snd (Prod.snd (Prod.snd (Prod.snd b))))) Tip.none]]))
        (Post (AV.bool false)
        [AObj.cells
        [AV.int IntKind.i64 (Prod.fst a), AV.sl 2 (Seq.map T.encN ([], []) (Prod.fst (Prod.snd a))) Tip.none, AV.int IntKind.i64 (Prod.fst (Prod.snd (Prod.snd a))),
        AV.int IntKind.i64 (Prod.fst (Prod.snd (Prod.snd (Prod.snd a)))), AV.sl 1 (Seq.map encB (0 : UInt8) (Prod.snd (Prod.snd (Prod.snd (Prod.snd a))))) Tip.none],
        AObj.cells
        [AV.int IntKind.i64 (Prod.fst b), AV.sl 2 (Seq.map T.encN ([], []) (Prod.fst (Prod.snd b))) Tip.none, AV.int IntKind.i64 (Prod.fst (Prod.snd (Prod.snd b))),
        AV.int IntKind.i64 (Prod.fst (Prod.snd (Prod.snd (Prod.snd b)))), AV.sl 1 (Seq.map encB (0 : UInt8) (Prod.snd (Prod.snd (Prod.snd (Prod.snd b))))) Tip.none]]))
        (Post (AV.bool false)
        [AObj.cells
        [AV.int IntKind.i64 (Prod.fst a), AV.sl 2 (Seq.map T.encN ([], []) (Prod.fst (Prod.snd a))) Tip.none, AV.int IntKind.i64 (Prod.fst (Prod.snd (Prod.snd a))),
        AV.int IntKind.i64 (Prod.fst (Prod.snd (Prod.snd (Prod.snd a)))), AV.sl 1 (Seq.map encB (0 : UInt8) (Prod.snd (Prod.snd (Prod.snd (Prod.snd a))))) Tip.none],
        AObj.cells
        [AV.int IntKind.i64 (Prod.fst b), AV.sl 2 (Seq.map T.encN ([], []) (Prod.fst (Prod.snd b))) Tip.none, AV.int IntKind.i64 (Prod.fst (Prod.snd (Prod.snd b))),
        AV.int IntKind.i64 (Prod.fst (Prod.snd (Prod.snd (Prod.snd b)))), AV.sl 1 (Seq.map encB (0 : UInt8) (Prod.snd (Prod.snd (Prod.snd (Prod.snd b))))) Tip.none]]))
      (Post (AV.bool false)
        [AObj.cells
        [AV.int IntKind.i64 (Prod.fst a), AV.sl 2 (Seq.map T.encN ([], []) (Prod.fst (Prod.snd a))) Tip.none, AV.int IntKind.i64 (Prod.fst (Prod.snd (Prod.snd a))),
        AV.int IntKind.i64 (Prod.fst (Prod.snd (Prod.snd (Prod.snd a)))), AV.sl 1 (Seq.map encB (0 : UInt8) (Prod.snd (Prod.snd (Prod.snd (Prod.snd a))))) Tip.none],
        AObj.cells
        [AV.int IntKind.i64 (Prod.fst b), AV.sl 2 (Seq.map T.encN ([], []) (Prod.fst (Prod.snd b))) Tip.none, AV.int IntKind.i64 (Prod.fst (Prod.snd (Prod.snd b))),
        AV.int IntKind.i64 (Prod.fst (Prod.snd (Prod.snd (Prod.snd b)))), AV.sl 1 (Seq.map encB (0 : UInt8) (Prod.snd (Prod.snd (Prod.snd (Prod.snd b))))) Tip.none]]) →
    ASpec Try.prog 48 [AV.agg (T.encE a), AV.agg (T.encE b)] [] Post := fun a b Post h => Go.Ab.ASpec.of_vc g48 Go.Proofs.Try.func48 (by kernel_rfl) (by kernel_rfl) (by kernel_rfl) (Go.Ab.kc (by kernel_rfl) h)

-- 40
noncomputable def l40 : Nat → List Nat
  | _ => []
noncomputable def u40 : Nat → Bool
  | _ => false
noncomputable def m40 : Nat → Bool
  | _ => false
noncomputable def g40 : Cfg := { N := 44, live := l40, cut := u40, mu := m40, ret := rets }
noncomputable def c40 : Go.Code := Go.Ab.bodyOf Go.Proofs.Try.f40
theorem s40 : ∀ (Post : AV → List AObj → Prop),
  (ASpec Try.prog 41 [AV.sl 0 (Seq.raw []) Tip.nil] [] fun (r : AV) (H' : List AObj) =>
      (∃ (x : List T.Ent),
        r = AV.ptr 0 0 ∧
        H' =
        [AObj.cells
        [AV.sl 2 (Seq.map T.encEn ([], []) x) Tip.none, AV.sl 2 (Seq.map T.encIt ((0 : Int), []) []) (Tip.tok 1),
        AV.sl 1 (Seq.map T.encSn T.noEv []) (Tip.tok 2)],
        AObj.tok, AObj.tok] ∧
        ASpec Try.prog 42
        [AV.ptr 0 0,
        AV.sl 7
        (Seq.raw
        [[AV.int IntKind.i64 (1 : Int), AV.int IntKind.i64 (1 : Int), AV.str { data := #[(97 : UInt8)] }, AV.int IntKind.i64 (0 : Int), AV.int IntKind.i64 (0 : Int),
        AV.sl 0 (Seq.raw []) Tip.nil, AV.sl 0 (Seq.raw []) Tip.nil]])
        Tip.full]
        [AObj.cells
        [AV.sl 2 (Seq.map T.encEn ([], []) x) Tip.none, AV.sl 2 (Seq.map T.encIt ((0 : Int), []) []) (Tip.tok 1),
        AV.sl 1 (Seq.map T.encSn T.noEv []) (Tip.tok 2)],
        AObj.tok, AObj.tok]
        fun (r : AV) (H' : List AObj) =>
        ∃ (x_1 : Int × List T.Item),
        r = AV.int IntKind.i64 (Prod.fst x_1) ∧
        H' =
        [AObj.cells
        [AV.sl 2 (Seq.map T.encEn ([], []) x) Tip.none, AV.sl 2 (Seq.map T.encIt ((0 : Int), []) (Prod.snd x_1)) (Tip.tok 3),
        AV.sl 1 (Seq.map T.encSn T.noEv []) (Tip.tok 2)],
        AObj.gone, AObj.tok, AObj.tok] ∧
        ASpec Try.prog 43 [AV.ptr 0 0, AV.int IntKind.i64 (0 : Int)]
        [AObj.cells
        [AV.sl 2 (Seq.map T.encEn ([], []) x) Tip.none, AV.sl 2 (Seq.map T.encIt ((0 : Int), []) (Prod.snd x_1)) (Tip.tok 3),
        AV.sl 1 (Seq.map T.encSn T.noEv []) (Tip.tok 2)],
        AObj.gone, AObj.tok, AObj.tok]
        fun (r : AV) (H' : List AObj) =>
        (∃ (x_2 : T.Ev × Bool × List T.Item × List T.Ev),
        r =
        AV.tup
        [AV.agg
        [AV.int IntKind.i64 (Prod.fst (Prod.fst x_2)), AV.sl 2 (Seq.map T.encN ([], []) (Prod.fst (Prod.snd (Prod.fst x_2)))) Tip.none,
        AV.int IntKind.i64 (Prod.fst (Prod.snd (Prod.snd (Prod.fst x_2)))), AV.int IntKind.i64 (Prod.fst (Prod.snd (Prod.snd (Prod.snd (Prod.fst x_2))))),
        AV.sl 1 (Seq.map encB (0 : UInt8) (Prod.snd (Prod.snd (Prod.snd (Prod.snd (Prod.fst x_2)))))) Tip.none],
        AV.bool (Prod.fst (Prod.snd x_2))] ∧
        H' =
        [AObj.cells
        [AV.sl 2 (Seq.map T.encEn ([], []) x) Tip.none,
        AV.sl 2 (Seq.map T.encIt ((0 : Int), []) (Prod.fst (Prod.snd (Prod.snd x_2)))) (Tip.tok 4),
        AV.sl 1 (Seq.map T.encSn T.noEv (Prod.snd (Prod.snd (Prod.snd x_2)))) (Tip.tok 5)],
        AObj.gone, AObj.gone, AObj.gone, AObj.tok, AObj.tok] ∧
        needP (allBytes (Seq.map encB (0 : UInt8) (Prod.snd (Prod.snd (Prod.snd (Prod.snd (Prod.fst x_2)))))))
        (ASpec Try.prog 45 [AV.str (bytesOf (Seq.map encB (0 : UInt8) (Prod.snd (Prod.snd (Prod.snd (Prod.snd (Prod.fst x_2)))))))]
        [AObj.cells
        [AV.sl 2 (Seq.map T.encEn ([], []) x) Tip.none,
        AV.sl 2 (Seq.map T.encIt ((0 : Int), []) (Prod.fst (Prod.snd (Prod.snd x_2)))) (Tip.tok 4),
        AV.sl 1 (Seq.map T.encSn T.noEv (Prod.snd (Prod.snd (Prod.snd x_2)))) (Tip.tok 5)],
        AObj.gone, AObj.gone, AObj.gone, AObj.tok, AObj.tok,
        AObj.cells
        [AV.int IntKind.i64 (Prod.fst (Prod.fst x_2)), AV.sl 2 (Seq.map T.encN ([], []) (Prod.fst (Prod.snd (Prod.fst x_2)))) Tip.none,
        AV.int IntKind.i64 (Prod.fst (Prod.snd (Prod.snd (Prod.fst x_2)))), AV.int IntKind.i64 (Prod.fst (Prod.snd (Prod.snd (Prod.snd (Prod.fst x_2))))),
        AV.sl 1 (Seq.map encB (0 : UInt8) (Prod.snd (Prod.snd (Prod.snd (Prod.snd (Prod.fst x_2)))))) Tip.none]]
        fun (r : AV) (H' : List AObj) =>
        ∃ (x_3 : ByteArray × ByteArray × Int),
        r = AV.tup [AV.str (Prod.fst x_3), AV.str (Prod.fst (Prod.snd x_3)), AV.int IntKind.i64 (Prod.snd (Prod.snd x_3))] ∧
        H' =
        [AObj.cells
        [AV.sl 2 (Seq.map T.encEn ([], []) x) Tip.none,
        AV.sl 2 (Seq.map T.encIt ((0 : Int), []) (Prod.fst (Prod.snd (Prod.snd x_2)))) (Tip.tok 4),
        AV.sl 1 (Seq.map T.encSn T.noEv (Prod.snd (Prod.snd (Prod.snd x_2)))) (Tip.tok 5)],
        AObj.gone, AObj.gone, AObj.gone, AObj.tok, AObj.tok,
        AObj.cells
        [AV.int IntKind.i64 (Prod.fst (Prod.fst x_2)), AV.sl 2 (Seq.map T.encN ([], []) (Prod.fst (Prod.snd (Prod.fst x_2)))) Tip.none,
        AV.int IntKind.i64 (Prod.fst (Prod.snd (Prod.snd (Prod.fst x_2)))), AV.int IntKind.i64 (Prod.fst (Prod.snd (Prod.snd (Prod.snd (Prod.fst x_2))))),
        AV.sl 1 (Seq.map encB (0 : UInt8) (Prod.snd (Prod.snd (Prod.snd (Prod.snd (Prod.fst x_2)))))) Tip.none]] ∧
        condP (Prod.fst x_1 == (1 : Int))
        (condP (Prod.fst (Prod.snd x_2))
        (condP (Prod.fst (Prod.snd (Prod.snd (Prod.snd (Prod.fst x_2)))) == (1 : Int))
        (condP (ByteArray.toList (Prod.fst x_3) == ByteArray.toList { data := #[(97 : UInt8)] })
        (Post (AV.bool (Prod.snd (Prod.snd x_3) == (0 : Int)))
        [AObj.cells
        [AV.sl 2 (Seq.map T.encEn ([], []) x) Tip.none,
        AV.sl 2 (Seq.map T.encIt ((0 : Int), []) (Prod.fst (Prod.snd (Prod.snd x_2)))) (Tip.tok 4),
        AV.sl 1 (Seq.map T.encSn T.noEv (Prod.snd (Prod.snd (Prod.snd x_2)))) (Tip.tok 5)],
        AObj.gone, AObj.gone, AObj.gone, AObj.tok, AObj.tok,
        AObj.cells
        [AV.int IntKind.i64 (Prod.fst (Prod.fst x_2)), AV.sl 2 (Seq.map T.encN ([], []) (Prod.fst (Prod.snd (Prod.fst x_2)))) Tip.none,
        AV.int IntKind.i64 (Prod.fst (Prod.snd (Prod.snd (Prod.fst x_2)))),
        AV.int IntKind.i64 (Prod.fst (Prod.snd (Prod.snd (Prod.snd (Prod.fst x_2))))),
        AV.sl 1 (Seq.map encB (0 : UInt8) (Prod.snd (Prod.snd (Prod.snd (Prod.snd (Prod.fst x_2)))))) Tip.none]])
        (Post (AV.bool false)
        [AObj.cells
        [AV.sl 2 (Seq.map T.encEn ([], []) x) Tip.none,
        AV.sl 2 (Seq.map T.encIt ((0 : Int), []) (Prod.fst (Prod.snd (Prod.snd x_2)))) (Tip.tok 4),
        AV.sl 1 (Seq.map T.encSn T.noEv (Prod.snd (Prod.snd (Prod.snd x_2)))) (Tip.tok 5)],
        AObj.gone, AObj.gone, AObj.gone, AObj.tok, AObj.tok,
        AObj.cells
        [AV.int IntKind.i64 (Prod.fst (Prod.fst x_2)), AV.sl 2 (Seq.map T.encN ([], []) (Prod.fst (Prod.snd (Prod.fst x_2)))) Tip.none,
        AV.int IntKind.i64 (Prod.fst (Prod.snd (Prod.snd (Prod.fst x_2)))),
        AV.int IntKind.i64 (Prod.fst (Prod.snd (Prod.snd (Prod.snd (Prod.fst x_2))))),
        AV.sl 1 (Seq.map encB (0 : UInt8) (Prod.snd (Prod.snd (Prod.snd (Prod.snd (Prod.fst x_2)))))) Tip.none]]))
        (Post (AV.bool false)
        [AObj.cells
        [AV.sl 2 (Seq.map T.encEn ([], []) x) Tip.none,
        AV.sl 2 (Seq.map T.encIt ((0 : Int), []) (Prod.fst (Prod.snd (Prod.snd x_2)))) (Tip.tok 4),
        AV.sl 1 (Seq.map T.encSn T.noEv (Prod.snd (Prod.snd (Prod.snd x_2)))) (Tip.tok 5)],
        AObj.gone, AObj.gone, AObj.gone, AObj.tok, AObj.tok,
        AObj.cells
        [AV.int IntKind.i64 (Prod.fst (Prod.fst x_2)), AV.sl 2 (Seq.map T.encN ([], []) (Prod.fst (Prod.snd (Prod.fst x_2)))) Tip.none,
        AV.int IntKind.i64 (Prod.fst (Prod.snd (Prod.snd (Prod.fst x_2)))),
        AV.int IntKind.i64 (Prod.fst (Prod.snd (Prod.snd (Prod.snd (Prod.fst x_2))))),
        AV.sl 1 (Seq.map encB (0 : UInt8) (Prod.snd (Prod.snd (Prod.snd (Prod.snd (Prod.fst x_2)))))) Tip.none]]))
        (Post (AV.bool false)
        [AObj.cells
        [AV.sl 2 (Seq.map T.encEn ([], []) x) Tip.none,
        AV.sl 2 (Seq.map T.encIt ((0 : Int), []) (Prod.fst (Prod.snd (Prod.snd x_2)))) (Tip.tok 4),
        AV.sl 1 (Seq.map T.encSn T.noEv (Prod.snd (Prod.snd (Prod.snd x_2)))) (Tip.tok 5)],
        AObj.gone, AObj.gone, AObj.gone, AObj.tok, AObj.tok,
        AObj.cells
        [AV.int IntKind.i64 (Prod.fst (Prod.fst x_2)), AV.sl 2 (Seq.map T.encN ([], []) (Prod.fst (Prod.snd (Prod.fst x_2)))) Tip.none,
        AV.int IntKind.i64 (Prod.fst (Prod.snd (Prod.snd (Prod.fst x_2)))), AV.int IntKind.i64 (Prod.fst (Prod.snd (Prod.snd (Prod.snd (Prod.fst x_2))))),
        AV.sl 1 (Seq.map encB (0 : UInt8) (Prod.snd (Prod.snd (Prod.snd (Prod.snd (Prod.fst x_2)))))) Tip.none]]))
        (Post (AV.bool false)
        [AObj.cells
        [AV.sl 2 (Seq.map T.encEn ([], []) x) Tip.none,
        AV.sl 2 (Seq.map T.encIt ((0 : Int), []) (Prod.fst (Prod.snd (Prod.snd x_2)))) (Tip.tok 4),
        AV.sl 1 (Seq.map T.encSn T.noEv (Prod.snd (Prod.snd (Prod.snd x_2)))) (Tip.tok 5)],
        AObj.gone, AObj.gone, AObj.gone, AObj.tok, AObj.tok,
        AObj.cells
        [AV.int IntKind.i64 (Prod.fst (Prod.fst x_2)), AV.sl 2 (Seq.map T.encN ([], []) (Prod.fst (Prod.snd (Prod.fst x_2)))) Tip.none,
        AV.int IntKind.i64 (Prod.fst (Prod.snd (Prod.snd (Prod.fst x_2)))), AV.int IntKind.i64 (Prod.fst (Prod.snd (Prod.snd (Prod.snd (Prod.fst x_2))))),
        AV.sl 1 (Seq.map encB (0 : UInt8) (Prod.snd (Prod.snd (Prod.snd (Prod.snd (Prod.fst x_2)))))) Tip.none]]))) ∨
        ∃ (x_2 : T.Ev × Bool),
        r =
        AV.tup
        [AV.agg
        [AV.int IntKind.i64 (Prod.fst (Prod.fst x_2)), AV.sl 2 (Seq.map T.encN ([], []) (Prod.fst (Prod.snd (Prod.fst x_2)))) Tip.none,
        AV.int IntKind.i64 (Prod.fst (Prod.snd (Prod.snd (Prod.fst x_2)))), AV.int IntKind.i64 (Prod.fst (Prod.snd (Prod.snd (Prod.snd (Prod.fst x_2))))),
        AV.sl 1 (Seq.map encB (0 : UInt8) (Prod.snd (Prod.snd (Prod.snd (Prod.snd (Prod.fst x_2)))))) Tip.none],
        AV.bool (Prod.snd x_2)] ∧
        H' =
        [AObj.cells
        [AV.sl 2 (Seq.map T.encEn ([], []) x) Tip.none, AV.sl 2 (Seq.map T.encIt ((0 : Int), []) (Prod.snd x_1)) (Tip.tok 3),
        AV.sl 1 (Seq.map T.encSn T.noEv []) (Tip.tok 2)],
        AObj.gone, AObj.tok, AObj.tok] ∧
        needP (allBytes (Seq.map encB (0 : UInt8) (Prod.snd (Prod.snd (Prod.snd (Prod.snd (Prod.fst x_2)))))))
        (ASpec Try.prog 45 [AV.str (bytesOf (Seq.map encB (0 : UInt8) (Prod.snd (Prod.snd (Prod.snd (Prod.snd (Prod.fst x_2)))))))]
        [AObj.cells
        [AV.sl 2 (Seq.map T.encEn ([], []) x) Tip.none, AV.sl 2 (Seq.map T.encIt ((0 : Int), []) (Prod.snd x_1)) (Tip.tok 3),
        AV.sl 1 (Seq.map T.encSn T.noEv []) (Tip.tok 2)],
        AObj.gone, AObj.tok, AObj.tok,
        AObj.cells
        [AV.int IntKind.i64 (Prod.fst (Prod.fst x_2)), AV.sl 2 (Seq.map T.encN ([], []) (Prod.fst (Prod.snd (Prod.fst x_2)))) Tip.none,
        AV.int IntKind.i64 (Prod.fst (Prod.snd (Prod.snd (Prod.fst x_2)))), AV.int IntKind.i64 (Prod.fst (Prod.snd (Prod.snd (Prod.snd (Prod.fst x_2))))),
        AV.sl 1 (Seq.map encB (0 : UInt8) (Prod.snd (Prod.snd (Prod.snd (Prod.snd (Prod.fst x_2)))))) Tip.none]]
        fun (r : AV) (H' : List AObj) =>
        ∃ (x_3 : ByteArray × ByteArray × Int),
        r = AV.tup [AV.str (Prod.fst x_3), AV.str (Prod.fst (Prod.snd x_3)), AV.int IntKind.i64 (Prod.snd (Prod.snd x_3))] ∧
        H' =
        [AObj.cells
        [AV.sl 2 (Seq.map T.encEn ([], []) x) Tip.none, AV.sl 2 (Seq.map T.encIt ((0 : Int), []) (Prod.snd x_1)) (Tip.tok 3),
        AV.sl 1 (Seq.map T.encSn T.noEv []) (Tip.tok 2)],
        AObj.gone, AObj.tok, AObj.tok,
        AObj.cells
        [AV.int IntKind.i64 (Prod.fst (Prod.fst x_2)), AV.sl 2 (Seq.map T.encN ([], []) (Prod.fst (Prod.snd (Prod.fst x_2)))) Tip.none,
        AV.int IntKind.i64 (Prod.fst (Prod.snd (Prod.snd (Prod.fst x_2)))), AV.int IntKind.i64 (Prod.fst (Prod.snd (Prod.snd (Prod.snd (Prod.fst x_2))))),
        AV.sl 1 (Seq.map encB (0 : UInt8) (Prod.snd (Prod.snd (Prod.snd (Prod.snd (Prod.fst x_2)))))) Tip.none]] ∧
        condP (Prod.fst x_1 == (1 : Int))
        (condP (Prod.snd x_2)
        (condP (Prod.fst (Prod.snd (Prod.snd (Prod.snd (Prod.fst x_2)))) == (1 : Int))
        (condP (ByteArray.toList (Prod.fst x_3) == ByteArray.toList { data := #[(97 : UInt8)] })
        (Post (AV.bool (Prod.snd (Prod.snd x_3) == (0 : Int)))
        [AObj.cells
        [AV.sl 2 (Seq.map T.encEn ([], []) x) Tip.none, AV.sl 2 (Seq.map T.encIt ((0 : Int), []) (Prod.snd x_1)) (Tip.tok 3),
        AV.sl 1 (Seq.map T.encSn T.noEv []) (Tip.tok 2)],
        AObj.gone, AObj.tok, AObj.tok,
        AObj.cells
        [AV.int IntKind.i64 (Prod.fst (Prod.fst x_2)), AV.sl 2 (Seq.map T.encN ([], []) (Prod.fst (Prod.snd (Prod.fst x_2)))) Tip.none,
        AV.int IntKind.i64 (Prod.fst (Prod.snd (Prod.snd (Prod.fst x_2)))),
        AV.int IntKind.i64 (Prod.fst (Prod.snd (Prod.snd (Prod.snd (Prod.fst x_2))))),
        AV.sl 1 (Seq.map encB (0 : UInt8) (Prod.snd (Prod.snd (Prod.snd (Prod.snd (Prod.fst x_2)))))) Tip.none]])
        (Post (AV.bool false)
        [AObj.cells
        [AV.sl 2 (Seq.map T.encEn ([], []) x) Tip.none, AV.sl 2 (Seq.map T.encIt ((0 : Int), []) (Prod.snd x_1)) (Tip.tok 3),
        AV.sl 1 (Seq.map T.encSn T.noEv []) (Tip.tok 2)],
        AObj.gone, AObj.tok, AObj.tok,
        AObj.cells
        [AV.int IntKind.i64 (Prod.fst (Prod.fst x_2)), AV.sl 2 (Seq.map T.encN ([], []) (Prod.fst (Prod.snd (Prod.fst x_2)))) Tip.none,
        AV.int IntKind.i64 (Prod.fst (Prod.snd (Prod.snd (Prod.fst x_2)))),
        AV.int IntKind.i64 (Prod.fst (Prod.snd (Prod.snd (Prod.snd (Prod.fst x_2))))),
        AV.sl 1 (Seq.map encB (0 : UInt8) (Prod.snd (Prod.snd (Prod.snd (Prod.snd (Prod.fst x_2)))))) Tip.none]]))
        (Post (AV.bool false)
        [AObj.cells
        [AV.sl 2 (Seq.map T.encEn ([], []) x) Tip.none, AV.sl 2 (Seq.map T.encIt ((0 : Int), []) (Prod.snd x_1)) (Tip.tok 3),
        AV.sl 1 (Seq.map T.encSn T.noEv []) (Tip.tok 2)],
        AObj.gone, AObj.tok, AObj.tok,
        AObj.cells
        [AV.int IntKind.i64 (Prod.fst (Prod.fst x_2)), AV.sl 2 (Seq.map T.encN ([], []) (Prod.fst (Prod.snd (Prod.fst x_2)))) Tip.none,
        AV.int IntKind.i64 (Prod.fst (Prod.snd (Prod.snd (Prod.fst x_2)))),
        AV.int IntKind.i64 (Prod.fst (Prod.snd (Prod.snd (Prod.snd (Prod.fst x_2))))),
        AV.sl 1 (Seq.map encB (0 : UInt8) (Prod.snd (Prod.snd (Prod.snd (Prod.snd (Prod.fst x_2)))))) Tip.none]]))
        (Post (AV.bool false)
        [AObj.cells
        [AV.sl 2 (Seq.map T.encEn ([], []) x) Tip.none, AV.sl 2 (Seq.map T.encIt ((0 : Int), []) (Prod.snd x_1)) (Tip.tok 3),
        AV.sl 1 (Seq.map T.encSn T.noEv []) (Tip.tok 2)],
        AObj.gone, AObj.tok, AObj.tok,
        AObj.cells
        [AV.int IntKind.i64 (Prod.fst (Prod.fst x_2)), AV.sl 2 (Seq.map T.encN ([], []) (Prod.fst (Prod.snd (Prod.fst x_2)))) Tip.none,
        AV.int IntKind.i64 (Prod.fst (Prod.snd (Prod.snd (Prod.fst x_2)))), AV.int IntKind.i64 (Prod.fst (Prod.snd (Prod.snd (Prod.snd (Prod.fst x_2))))),
        AV.sl 1 (Seq.map encB (0 : UInt8) (Prod.snd (Prod.snd (Prod.snd (Prod.snd (Prod.fst x_2)))))) Tip.none]]))
        (Post (AV.bool false)
        [AObj.cells
        [AV.sl 2 (Seq.map T.encEn ([], []) x) Tip.none, AV.sl 2 (Seq.map T.encIt ((0 : Int), []) (Prod.snd x_1)) (Tip.tok 3),
        AV.sl 1 (Seq.map T.encSn T.noEv []) (Tip.tok 2)],
        AObj.gone, AObj.tok, AObj.tok,
        AObj.cells
        [AV.int IntKind.i64 (Prod.fst (Prod.fst x_2)), AV.sl 2 (Seq.map T.encN ([], []) (Prod.fst (Prod.snd (Prod.fst x_2)))) Tip.none,
        AV.int IntKind.i64 (Prod.fst (Prod.snd (Prod.snd (Prod.fst x_2)))), AV.int IntKind.i64 (Prod.fst (Prod.snd (Prod.snd (Prod.snd (Prod.fst x_2))))),
        AV.sl 1 (Seq.map encB (0 : UInt8) (Prod.snd (Prod.snd (Prod.snd (Prod.snd (Prod.fst x_2)))))) Tip.none]]))) ∨
        ∃ (x : Unit),
        r = AV.nilp ∧
        H' = [] ∧
        ASpec Try.prog 42
        [AV.nilp,
        AV.sl 7
        (Seq.raw
        [[AV.int IntKind.i64 (1 : Int), AV.int IntKind.i64 (1 : Int), AV.str { data := #[(97 : UInt8)] }, AV.int IntKind.i64 (0 : Int), AV.int IntKind.i64 (0 : Int),
        AV.sl 0 (Seq.raw []) Tip.nil, AV.sl 0 (Seq.raw []) Tip.nil]])
        Tip.full]
        [] fun (r : AV) (H' : List AObj) =>
        ∃ (x : Int × List T.Item),
        r = AV.int IntKind.i64 (Prod.fst x) ∧
        H' = [] ∧
        ASpec Try.prog 43 [AV.nilp, AV.int IntKind.i64 (0 : Int)] [] fun (r : AV) (H' : List AObj) =>
        (∃ (x_1 : T.Ev × Bool × List T.Item × List T.Ev),
        r =
        AV.tup
        [AV.agg
        [AV.int IntKind.i64 (Prod.fst (Prod.fst x_1)), AV.sl 2 (Seq.map T.encN ([], []) (Prod.fst (Prod.snd (Prod.fst x_1)))) Tip.none,
        AV.int IntKind.i64 (Prod.fst (Prod.snd (Prod.snd (Prod.fst x_1)))), AV.int IntKind.i64 (Prod.fst (Prod.snd (Prod.snd (Prod.snd (Prod.fst x_1))))),
        AV.sl 1 (Seq.map encB (0 : UInt8) (Prod.snd (Prod.snd (Prod.snd (Prod.snd (Prod.fst x_1)))))) Tip.none],
        AV.bool (Prod.fst (Prod.snd x_1))] ∧
        H' = [] ∧
        needP (allBytes (Seq.map encB (0 : UInt8) (Prod.snd (Prod.snd (Prod.snd (Prod.snd (Prod.fst x_1)))))))
        (ASpec Try.prog 45 [AV.str (bytesOf (Seq.map encB (0 : UInt8) (Prod.snd (Prod.snd (Prod.snd (Prod.snd (Prod.fst x_1)))))))]
        [AObj.cells
        [AV.int IntKind.i64 (Prod.fst (Prod.fst x_1)), AV.sl 2 (Seq.map T.encN ([], []) (Prod.fst (Prod.snd (Prod.fst x_1)))) Tip.none,
        AV.int IntKind.i64 (Prod.fst (Prod.snd (Prod.snd (Prod.fst x_1)))), AV.int IntKind.i64 (Prod.fst (Prod.snd (Prod.snd (Prod.snd (Prod.fst x_1))))),
        AV.sl 1 (Seq.map encB (0 : UInt8) (Prod.snd (Prod.snd (Prod.snd (Prod.snd (Prod.fst x_1)))))) Tip.none]]
        fun (r : AV) (H' : List AObj) =>
        ∃ (x_2 : ByteArray × ByteArray × Int),
        r = AV.tup [AV.str (Prod.fst x_2), AV.str (Prod.fst (Prod.snd x_2)), AV.int IntKind.i64 (Prod.snd (Prod.snd x_2))] ∧
        H' =
        [AObj.cells
        [AV.int IntKind.i64 (Prod.fst (Prod.fst x_1)), AV.sl 2 (Seq.map T.encN ([], []) (Prod.fst (Prod.snd (Prod.fst x_1)))) Tip.none,
        AV.int IntKind.i64 (Prod.fst (Prod.snd (Prod.snd (Prod.fst x_1)))), AV.int IntKind.i64 (Prod.fst (Prod.snd (Prod.snd (Prod.snd (Prod.fst x_1))))),
        AV.sl 1 (Seq.map encB (0 : UInt8) (Prod.snd (Prod.snd (Prod.snd (Prod.snd (Prod.fst x_1)))))) Tip.none]] ∧
        condP (Prod.fst x == (1 : Int))
        (condP (Prod.fst (Prod.snd x_1))
        (condP (Prod.fst (Prod.snd (Prod.snd (Prod.snd (Prod.fst x_1)))) == (1 : Int))
        (condP (ByteArray.toList (Prod.fst x_2) == ByteArray.toList { data := #[(97 : UInt8)] })
        (Post (AV.bool (Prod.snd (Prod.snd x_2) == (0 : Int)))
        [AObj.cells
        [AV.int IntKind.i64 (Prod.fst (Prod.fst x_1)), AV.sl 2 (Seq.map T.encN ([], []) (Prod.fst (Prod.snd (Prod.fst x_1)))) Tip.none,
        AV.int IntKind.i64 (Prod.fst (Prod.snd (Prod.snd (Prod.fst x_1)))),
        AV.int IntKind.i64 (Prod.fst (Prod.snd (Prod.snd (Prod.snd (Prod.fst x_1))))),
        AV.sl 1 (Seq.map encB (0 : UInt8) (Prod.snd (Prod.snd (Prod.snd (Prod.snd (Prod.fst x_1)))))) Tip.none]])
        (Post (AV.bool false)
        [AObj.cells
        [AV.int IntKind.i64 (Prod.fst (Prod.fst x_1)), AV.sl 2 (Seq.map T.encN ([], []) (Prod.fst (Prod.snd (Prod.fst x_1)))) Tip.none,
        AV.int IntKind.i64 (Prod.fst (Prod.snd (Prod.snd (Prod.fst x_1)))),
        AV.int IntKind.i64 (Prod.fst (Prod.snd (Prod.snd (Prod.snd (Prod.fst x_1))))),
        AV.sl 1 (Seq.map encB (0 : UInt8) (Prod.snd (Prod.snd (Prod.snd (Prod.snd (Prod.fst x_1)))))) Tip.none]]))
        (Post (AV.bool false)
        [AObj.cells
        [AV.int IntKind.i64 (Prod.fst (Prod.fst x_1)), AV.sl 2 (Seq.map T.encN ([], []) (Prod.fst (Prod.snd (Prod.fst x_1)))) Tip.none,
        AV.int IntKind.i64 (Prod.fst (Prod.snd (Prod.snd (Prod.fst x_1)))),
        AV.int IntKind.i64 (Prod.fst (Prod.snd (Prod.snd (Prod.snd (Prod.fst x_1))))),
        AV.sl 1 (Seq.map encB (0 : UInt8) (Prod.snd (Prod.snd (Prod.snd (Prod.snd (Prod.fst x_1)))))) Tip.none]]))
        (Post (AV.bool false)
        [AObj.cells
        [AV.int IntKind.i64 (Prod.fst (Prod.fst x_1)), AV.sl 2 (Seq.map T.encN ([], []) (Prod.fst (Prod.snd (Prod.fst x_1)))) Tip.none,
        AV.int IntKind.i64 (Prod.fst (Prod.snd (Prod.snd (Prod.fst x_1)))), AV.int IntKind.i64 (Prod.fst (Prod.snd (Prod.snd (Prod.snd (Prod.fst x_1))))),
        AV.sl 1 (Seq.map encB (0 : UInt8) (Prod.snd (Prod.snd (Prod.snd (Prod.snd (Prod.fst x_1)))))) Tip.none]]))
        (Post (AV.bool false)
        [AObj.cells
        [AV.int IntKind.i64 (Prod.fst (Prod.fst x_1)), AV.sl 2 (Seq.map T.encN ([], []) (Prod.fst (Prod.snd (Prod.fst x_1)))) Tip.none,
        AV.int IntKind.i64 (Prod.fst (Prod.snd (Prod.snd (Prod.fst x_1)))), AV.int IntKind.i64 (Prod.fst (Prod.snd (Prod.snd (Prod.snd (Prod.fst x_1))))),
        AV.sl 1 (Seq.map encB (0 : UInt8) (Prod.snd (Prod.snd (Prod.snd (Prod.snd (Prod.fst x_1)))))) Tip.none]]))) ∨
        ∃ (x_1 : T.Ev × Bool),
        r =
        AV.tup
        [AV.agg
        [AV.int IntKind.i64 (Prod.fst (Prod.fst x_1)), AV.sl 2 (Seq.map T.encN ([], []) (Prod.fst (Prod.snd (Prod.fst x_1)))) Tip.none,
        AV.int IntKind.i64 (Prod.fst (Prod.snd (Prod.snd (Prod.fst x_1)))), AV.int IntKind.i64 (Prod.fst (Prod.snd (Prod.snd (Prod.snd (Prod.fst x_1))))),
        AV.sl 1 (Seq.map encB (0 : UInt8) (Prod.snd (Prod.snd (Prod.snd (Prod.snd (Prod.fst x_1)))))) Tip.none],
        AV.bool (Prod.snd x_1)] ∧
        H' = [] ∧
        needP (allBytes (Seq.map encB (0 : UInt8) (Prod.snd (Prod.snd (Prod.snd (Prod.snd (Prod.fst x_1)))))))
        (ASpec Try.prog 45 [AV.str (bytesOf (Seq.map encB (0 : UInt8) (Prod.snd (Prod.snd (Prod.snd (Prod.snd (Prod.fst x_1)))))))]
        [AObj.cells
        [AV.int IntKind.i64 (Prod.fst (Prod.fst x_1)), AV.sl 2 (Seq.map T.encN ([], []) (Prod.fst (Prod.snd (Prod.fst x_1)))) Tip.none,
        AV.int IntKind.i64 (Prod.fst (Prod.snd (Prod.snd (Prod.fst x_1)))), AV.int IntKind.i64 (Prod.fst (Prod.snd (Prod.snd (Prod.snd (Prod.fst x_1))))),
        AV.sl 1 (Seq.map encB (0 : UInt8) (Prod.snd (Prod.snd (Prod.snd (Prod.snd (Prod.fst x_1)))))) Tip.none]]
        fun (r : AV) (H' : List AObj) =>
        ∃ (x_2 : ByteArray × ByteArray × Int),
        r = AV.tup [AV.str (Prod.fst x_2), AV.str (Prod.fst (Prod.snd x_2)), AV.int IntKind.i64 (Prod.snd (Prod.snd x_2))] ∧
        H' =
        [AObj.cells
        [AV.int IntKind.i64 (Prod.fst (Prod.fst x_1)), AV.sl 2 (Seq.map T.encN ([], []) (Prod.fst (Prod.snd (Prod.fst x_1)))) Tip.none,
        AV.int IntKind.i64 (Prod.fst (Prod.snd (Prod.snd (Prod.fst x_1)))), AV.int IntKind.i64 (Prod.fst (Prod.snd (Prod.snd (Prod.snd (Prod.fst x_1))))),
        AV.sl 1 (Seq.map encB (0 : UInt8) (Prod.snd (Prod.snd (Prod.snd (Prod.snd (Prod.fst x_1)))))) Tip.none]] ∧
        condP (Prod.fst x == (1 : Int))
        (condP (Prod.snd x_1)
        (condP (Prod.fst (Prod.snd (Prod.snd (Prod.snd (Prod.fst x_1)))) == (1 : Int))
        (condP (ByteArray.toList (Prod.fst x_2) == ByteArray.toList { data := #[(97 : UInt8)] })
        (Post (AV.bool (Prod.snd (Prod.snd x_2) == (0 : Int)))
        [AObj.cells
        [AV.int IntKind.i64 (Prod.fst (Prod.fst x_1)), AV.sl 2 (Seq.map T.encN ([], []) (Prod.fst (Prod.snd (Prod.fst x_1)))) Tip.none,
        AV.int IntKind.i64 (Prod.fst (Prod.snd (Prod.snd (Prod.fst x_1)))),
        AV.int IntKind.i64 (Prod.fst (Prod.snd (Prod.snd (Prod.snd (Prod.fst x_1))))),
        AV.sl 1 (Seq.map encB (0 : UInt8) (Prod.snd (Prod.snd (Prod.snd (Prod.snd (Prod.fst x_1)))))) Tip.none]])
        (Post (AV.bool false)
        [AObj.cells
        [AV.int IntKind.i64 (Prod.fst (Prod.fst x_1)), AV.sl 2 (Seq.map T.encN ([], []) (Prod.fst (Prod.snd (Prod.fst x_1)))) Tip.none,
        AV.int IntKind.i64 (Prod.fst (Prod.snd (Prod.snd (Prod.fst x_1)))),
        AV.int IntKind.i64 (Prod.fst (Prod.snd (Prod.snd (Prod.snd (Prod.fst x_1))))),
        AV.sl 1 (Seq.map encB (0 : UInt8) (Prod.snd (Prod.snd (Prod.snd (Prod.snd (Prod.fst x_1)))))) Tip.none]]))
        (Post (AV.bool false)
        [AObj.cells
        [AV.int IntKind.i64 (Prod.fst (Prod.fst x_1)), AV.sl 2 (Seq.map T.encN ([], []) (Prod.fst (Prod.snd (Prod.fst x_1)))) Tip.none,
        AV.int IntKind.i64 (Prod.fst (Prod.snd (Prod.snd (Prod.fst x_1)))),
        AV.int IntKind.i64 (Prod.fst (Prod.snd (Prod.snd (Prod.snd (Prod.fst x_1))))),
        AV.sl 1 (Seq.map encB (0 : UInt8) (Prod.snd (Prod.snd (Prod.snd (Prod.snd (Prod.fst x_1)))))) Tip.none]]))
        (Post (AV.bool false)
        [AObj.cells
        [AV.int IntKind.i64 (Prod.fst (Prod.fst x_1)), AV.sl 2 (Seq.map T.encN ([], []) (Prod.fst (Prod.snd (Prod.fst x_1)))) Tip.none,
        AV.int IntKind.i64 (Prod.fst (Prod.snd (Prod.snd (Prod.fst x_1)))), AV.int IntKind.i64 (Prod.fst (Prod.snd (Prod.snd (Prod.snd (Prod.fst x_1))))),
        AV.sl 1 (Seq.map encB (0 : UInt8) (Prod.snd (Prod.snd (Prod.snd (Prod.snd (Prod.fst x_1)))))) Tip.none]]))
        (Post (AV.bool false)
        [AObj.cells
        [AV.int IntKind.i64 (Prod.fst (Prod.fst x_1)), AV.sl 2 (Seq.map T.encN ([], []) (Prod.fst (Prod.snd (Prod.fst x_1)))) Tip.none,
        AV.int IntKind.i64 (Prod.fst (Prod.snd (Prod.snd (Prod.fst x_1)))), AV.int IntKind.i64 (Prod.fst (Prod.snd (Prod.snd (Prod.snd (Prod.fst x_1))))),
        AV.sl 1 (Seq.map encB (0 : UInt8) (Prod.snd (Prod.snd (Prod.snd (Prod.snd (Prod.fst x_1)))))) Tip.none]]))) →
    ASpec Try.prog 40 [] [] Post := fun Post h => Go.Ab.ASpec.of_vc g40 Go.Proofs.Try.func40 (by kernel_rfl) (by kernel_rfl) (by kernel_rfl) (Go.Ab.kc (by kernel_rfl) h)

-- 5
noncomputable def l5 : Nat → List Nat
  | 4 => [0, 1, 5, 7]
  | 5 => [0, 1, 5, 7, 8]
  | 6 => [0, 1, 5, 7, 8, 9, 10]
  | 7 => [0, 1, 7, 8, 9, 10, 11, 12]
  | 8 => [0, 1, 7, 8, 9, 10, 11, 12, 13, 14, 15]
  | 9 => [0, 1, 7, 8, 9, 10, 11, 12, 13, 14, 15, 18]
  | 10 => [0, 1, 7, 8, 9, 10, 11, 12, 13, 14, 15, 18, 19, 20]
  | _ => []
noncomputable def u5 : Nat → Bool
  | 4 => true
  | 5 => true
  | 6 => true
  | 7 => true
  | 8 => true
  | 9 => true
  | 10 => true
  | _ => false
noncomputable def m5 : Nat → Bool
  | _ => false
noncomputable def g5 : Cfg := { N := 137, live := l5, cut := u5, mu := m5, ret := rets }
noncomputable def c5 : Go.Code := Go.Ab.bodyOf Go.Proofs.Try.f5
noncomputable def q5_0 : Nat → (AV → List AObj → Prop) → AQ := fun (n : Nat) (Post : AV → List AObj → Prop) => endQ Try.prog (resultsOf Try.f5) Post
noncomputable def c5_4 : Go.Code := codeSnd (codeSnd (codeSnd c5))
theorem s5 : ∀ (l : List T.Ent) (s : ByteArray) (k n a y : Int) (nm : ByteArray) (Post : AV → List AObj → Prop),
  (ASpec Try.prog 37 [AV.sl 2 (Seq.map T.encEn ([], []) l) Tip.none] [AObj.cells [AV.int IntKind.i64 k, AV.int IntKind.i64 n, AV.int IntKind.i64 a, AV.int IntKind.u8 y, AV.str nm]]
      fun (r : AV) (H' : List AObj) =>
      ∃ (x : Bool),
        r = AV.bool x ∧
        H' = [AObj.cells [AV.int IntKind.i64 k, AV.int IntKind.i64 n, AV.int IntKind.i64 a, AV.int IntKind.u8 y, AV.str nm]] ∧
        condP x
        (ASpec Try.prog 40 [] [AObj.cells [AV.int IntKind.i64 k, AV.int IntKind.i64 n, AV.int IntKind.i64 a, AV.int IntKind.u8 y, AV.str nm]] fun (r : AV) (H' : List AObj) =>
        ∃ (x : Unit),
        r = AV.bool true ∧
        H' = [AObj.cells [AV.int IntKind.i64 k, AV.int IntKind.i64 n, AV.int IntKind.i64 a, AV.int IntKind.u8 y, AV.str nm]] ∧
        Post (AV.bool true) [AObj.cells [AV.int IntKind.i64 k, AV.int IntKind.i64 n, AV.int IntKind.i64 a, AV.int IntKind.u8 y, AV.str nm]])
        (ASpec Try.prog 38 [AV.sl 2 (Seq.map T.encEn ([], []) l) Tip.none]
        [AObj.cells [AV.int IntKind.i64 k, AV.int IntKind.i64 n, AV.int IntKind.i64 a, AV.int IntKind.u8 y, AV.str nm]] fun (r : AV) (H' : List AObj) =>
        ∃ (x : Bool),
        r = AV.bool x ∧
        H' = [AObj.cells [AV.int IntKind.i64 k, AV.int IntKind.i64 n, AV.int IntKind.i64 a, AV.int IntKind.u8 y, AV.str nm]] ∧
        condP (!x)
        (ASpec Try.prog 40 [] [AObj.cells [AV.int IntKind.i64 k, AV.int IntKind.i64 n, AV.int IntKind.i64 a, AV.int IntKind.u8 y, AV.str nm]] fun (r : AV) (H' : List AObj) =>
        ∃ (x : Unit),
        r = AV.bool true ∧
        H' = [AObj.cells [AV.int IntKind.i64 k, AV.int IntKind.i64 n, AV.int IntKind.i64 a, AV.int IntKind.u8 y, AV.str nm]] ∧
        Post (AV.bool true) [AObj.cells [AV.int IntKind.i64 k, AV.int IntKind.i64 n, AV.int IntKind.i64 a, AV.int IntKind.u8 y, AV.str nm]])
        (condP (decide ((↑(ByteArray.size s) : Int) > (60 : Int)))
        (ASpec Try.prog 40 [] [AObj.cells [AV.int IntKind.i64 k, AV.int IntKind.i64 n, AV.int IntKind.i64 a, AV.int IntKind.u8 y, AV.str nm]] fun (r : AV) (H' : List AObj) =>
        ∃ (x : Unit),
        r = AV.bool true ∧
        H' = [AObj.cells [AV.int IntKind.i64 k, AV.int IntKind.i64 n, AV.int IntKind.i64 a, AV.int IntKind.u8 y, AV.str nm]] ∧
        Post (AV.bool true) [AObj.cells [AV.int IntKind.i64 k, AV.int IntKind.i64 n, AV.int IntKind.i64 a, AV.int IntKind.u8 y, AV.str nm]])
        (ASpec Try.prog 39 [AV.str s] [AObj.cells [AV.int IntKind.i64 k, AV.int IntKind.i64 n, AV.int IntKind.i64 a, AV.int IntKind.u8 y, AV.str nm]]
        fun (r : AV) (H' : List AObj) =>
        ∃ (x : Bool),
        r = AV.bool x ∧
        H' = [AObj.cells [AV.int IntKind.i64 k, AV.int IntKind.i64 n, AV.int IntKind.i64 a, AV.int IntKind.u8 y, AV.str nm]] ∧
        condP (!x)
        (ASpec Try.prog 40 [] [AObj.cells [AV.int IntKind.i64 k, AV.int IntKind.i64 n, AV.int IntKind.i64 a, AV.int IntKind.u8 y, AV.str nm]]
        fun (r : AV) (H' : List AObj) =>
        ∃ (x : Unit),
        r = AV.bool true ∧
        H' = [AObj.cells [AV.int IntKind.i64 k, AV.int IntKind.i64 n, AV.int IntKind.i64 a, AV.int IntKind.u8 y, AV.str nm]] ∧
        Post (AV.bool true) [AObj.cells [AV.int IntKind.i64 k, AV.int IntKind.i64 n, AV.int IntKind.i64 a, AV.int IntKind.u8 y, AV.str nm]])
        (ASpec Try.prog 41 [AV.sl 2 (Seq.map T.encEn ([], []) l) Tip.none]
        [AObj.cells [AV.int IntKind.i64 k, AV.int IntKind.i64 n, AV.int IntKind.i64 a, AV.int IntKind.u8 y, AV.str nm]] fun (r : AV) (H' : List AObj) =>
        (∃ (x : List T.Ent),
        r = AV.ptr 1 0 ∧
        H' =
        [AObj.cells [AV.int IntKind.i64 k, AV.int IntKind.i64 n, AV.int IntKind.i64 a, AV.int IntKind.u8 y, AV.str nm],
        AObj.cells
        [AV.sl 2 (Seq.map T.encEn ([], []) x) Tip.none, AV.sl 2 (Seq.map T.encIt ((0 : Int), []) []) (Tip.tok 2),
        AV.sl 1 (Seq.map T.encSn T.noEv []) (Tip.tok 3)],
        AObj.tok, AObj.tok] ∧
        AWP Try.prog 137 0 c5_4
        [(0, AV.sl 2 (Seq.map T.encEn ([], []) l) Tip.none), (1, AV.str s), (5, AV.ptr 0 0),
        (7, AV.ptr 1 0)]
        [AObj.cells [AV.int IntKind.i64 k, AV.int IntKind.i64 n, AV.int IntKind.i64 a, AV.int IntKind.u8 y, AV.str nm],
        AObj.cells
        [AV.sl 2 (Seq.map T.encEn ([], []) x) Tip.none, AV.sl 2 (Seq.map T.encIt ((0 : Int), []) []) (Tip.tok 2),
        AV.sl 1 (Seq.map T.encSn T.noEv []) (Tip.tok 3)],
        AObj.tok, AObj.tok]
        (q5_0 0 Post)) ∨
        ∃ (x : Unit),
        r = AV.nilp ∧
        H' = [AObj.cells [AV.int IntKind.i64 k, AV.int IntKind.i64 n, AV.int IntKind.i64 a, AV.int IntKind.u8 y, AV.str nm]] ∧
        AWP Try.prog 137 0 c5_4
        [(0, AV.sl 2 (Seq.map T.encEn ([], []) l) Tip.none), (1, AV.str s), (5, AV.ptr 0 0),
        (7, AV.nilp)]
        [AObj.cells [AV.int IntKind.i64 k, AV.int IntKind.i64 n, AV.int IntKind.i64 a, AV.int IntKind.u8 y, AV.str nm]] (q5_0 0 Post)))))) →
    ASpec Try.prog 5
      [AV.sl 2 (Seq.map T.encEn ([], []) l) Tip.none, AV.str s, AV.agg [AV.int IntKind.i64 k, AV.int IntKind.i64 n, AV.int IntKind.i64 a, AV.int IntKind.u8 y, AV.str nm]] [] Post := fun l s k n a y nm Post h => Go.Ab.ASpec.of_vc g5 Go.Proofs.Try.func5 (by kernel_rfl) (by kernel_rfl) (by kernel_rfl) (Go.Ab.kc (by kernel_rfl) h)
noncomputable def c5_5 : Go.Code := codeSnd c5_4
theorem v5_4 : ∀ (l : List T.Ent) (s : ByteArray) (k n a y : Int) (nm : ByteArray) (n_1 : Nat) (Post : AV → List AObj → Prop),
  (ASpec Try.prog 42
      [AV.ptr 0 0,
        AV.sl 7
        (Seq.raw
        [[AV.int IntKind.i64 (1 : Int), AV.int IntKind.i64 (7 : Int), AV.str s, AV.int IntKind.i64 (0 : Int), AV.int IntKind.i64 (0 : Int), AV.sl 0 (Seq.raw []) Tip.nil,
        AV.sl 0 (Seq.raw []) Tip.nil],
        [AV.int IntKind.i64 (1 : Int), AV.int IntKind.i64 (8 : Int), AV.str s, AV.int IntKind.i64 (0 : Int), AV.int IntKind.i64 (0 : Int), AV.sl 0 (Seq.raw []) Tip.nil,
        AV.sl 0 (Seq.raw []) Tip.nil]])
        Tip.full]
      [AObj.cells
        [AV.sl 2 (Seq.map T.encEn ([], []) l) Tip.none, AV.sl 2 (Seq.map T.encIt ((0 : Int), []) []) (Tip.tok 1),
        AV.sl 1 (Seq.map T.encSn T.noEv []) (Tip.tok 2)],
        AObj.tok, AObj.tok, AObj.cells [AV.int IntKind.i64 k, AV.int IntKind.i64 n, AV.int IntKind.i64 a, AV.int IntKind.u8 y, AV.str nm]]
      fun (r : AV) (H' : List AObj) =>
      ∃ (x : Int × List T.Item),
        r = AV.int IntKind.i64 (Prod.fst x) ∧
        H' =
        [AObj.cells
        [AV.sl 2 (Seq.map T.encEn ([], []) l) Tip.none, AV.sl 2 (Seq.map T.encIt ((0 : Int), []) (Prod.snd x)) (Tip.tok 4),
        AV.sl 1 (Seq.map T.encSn T.noEv []) (Tip.tok 2)],
        AObj.gone, AObj.tok, AObj.cells [AV.int IntKind.i64 k, AV.int IntKind.i64 n, AV.int IntKind.i64 a, AV.int IntKind.u8 y, AV.str nm], AObj.tok] ∧
        AWP Try.prog 137 n_1 c5_5
        [(0, AV.sl 2 (Seq.map T.encEn ([], []) l) Tip.none), (1, AV.str s), (5, AV.ptr 3 0), (7, AV.ptr 0 0),
        (8, AV.int IntKind.i64 (Prod.fst x))]
        [AObj.cells
        [AV.sl 2 (Seq.map T.encEn ([], []) l) Tip.none, AV.sl 2 (Seq.map T.encIt ((0 : Int), []) (Prod.snd x)) (Tip.tok 4),
        AV.sl 1 (Seq.map T.encSn T.noEv []) (Tip.tok 2)],
        AObj.gone, AObj.tok, AObj.cells [AV.int IntKind.i64 k, AV.int IntKind.i64 n, AV.int IntKind.i64 a, AV.int IntKind.u8 y, AV.str nm], AObj.tok]
        (q5_0 n_1 Post)) →
    AWP Try.prog 137 n_1 c5_4
      [(0, AV.sl 2 (Seq.map T.encEn ([], []) l) Tip.none), (1, AV.str s), (5, AV.ptr 3 0), (7, AV.ptr 0 0)]
      (T.HS l [] [] ++ [AObj.cells [AV.int IntKind.i64 k, AV.int IntKind.i64 n, AV.int IntKind.i64 a, AV.int IntKind.u8 y, AV.str nm]]) (q5_0 n_1 Post) := fun l s k n a y nm n Post h => Go.Ab.awp_sound g5 n _ _ _ _ (Go.Ab.kc (by kernel_rfl) h)
noncomputable def c5_6 : Go.Code := codeSnd c5_5
theorem v5_5 : ∀ (l : List T.Ent) (s : ByteArray) (D : List T.Ent) (W : List T.Item) (S : List T.Ev) (k n a y : Int) (nm : ByteArray) (m : Int) (n_1 : Nat) (Post : AV → List AObj → Prop),
  (ASpec Try.prog 43 [AV.ptr 0 0, AV.int IntKind.i64 (0 : Int)]
      [AObj.cells
        [AV.sl 2 (Seq.map T.encEn ([], []) D) Tip.none, AV.sl 2 (Seq.map T.encIt ((0 : Int), []) W) (Tip.tok 1),
        AV.sl 1 (Seq.map T.encSn T.noEv S) (Tip.tok 2)],
        AObj.tok, AObj.tok, AObj.cells [AV.int IntKind.i64 k, AV.int IntKind.i64 n, AV.int IntKind.i64 a, AV.int IntKind.u8 y, AV.str nm]]
      fun (r : AV) (H' : List AObj) =>
      (∃ (x : T.Ev × Bool × List T.Item × List T.Ev),
        r =
        AV.tup
        [AV.agg
        [AV.int IntKind.i64 (Prod.fst (Prod.fst x)), AV.sl 2 (Seq.map T.encN ([], []) (Prod.fst (Prod.snd (Prod.fst x)))) Tip.none,
        AV.int IntKind.i64 (Prod.fst (Prod.snd (Prod.snd (Prod.fst x)))), AV.int IntKind.i64 (Prod.fst (Prod.snd (Prod.snd (Prod.snd (Prod.fst x))))),
        AV.sl 1 (Seq.map encB (0 : UInt8) (Prod.snd (Prod.snd (Prod.snd (Prod.snd (Prod.fst x)))))) Tip.none],
        AV.bool (Prod.fst (Prod.snd x))] ∧
        H' =
        [AObj.cells
        [AV.sl 2 (Seq.map T.encEn ([], []) D) Tip.none, AV.sl 2 (Seq.map T.encIt ((0 : Int), []) (Prod.fst (Prod.snd (Prod.snd x)))) (Tip.tok 4),
        AV.sl 1 (Seq.map T.encSn T.noEv (Prod.snd (Prod.snd (Prod.snd x)))) (Tip.tok 5)],
        AObj.gone, AObj.gone, AObj.cells [AV.int IntKind.i64 k, AV.int IntKind.i64 n, AV.int IntKind.i64 a, AV.int IntKind.u8 y, AV.str nm], AObj.tok, AObj.tok] ∧
        AWP Try.prog 137 n_1 c5_6
        [(0, AV.sl 2 (Seq.map T.encEn ([], []) l) Tip.none), (1, AV.str s), (5, AV.ptr 3 0), (7, AV.ptr 0 0),
        (8, AV.int IntKind.i64 m), (9, AV.ptr 6 0), (10, AV.bool (Prod.fst (Prod.snd x)))]
        [AObj.cells
        [AV.sl 2 (Seq.map T.encEn ([], []) D) Tip.none, AV.sl 2 (Seq.map T.encIt ((0 : Int), []) (Prod.fst (Prod.snd (Prod.snd x)))) (Tip.tok 4),
        AV.sl 1 (Seq.map T.encSn T.noEv (Prod.snd (Prod.snd (Prod.snd x)))) (Tip.tok 5)],
        AObj.gone, AObj.gone, AObj.cells [AV.int IntKind.i64 k, AV.int IntKind.i64 n, AV.int IntKind.i64 a, AV.int IntKind.u8 y, AV.str nm], AObj.tok, AObj.tok,
        AObj.cells
        [AV.int IntKind.i64 (Prod.fst (Prod.fst x)), AV.sl 2 (Seq.map T.encN ([], []) (Prod.fst (Prod.snd (Prod.fst x)))) Tip.none,
        AV.int IntKind.i64 (Prod.fst (Prod.snd (Prod.snd (Prod.fst x)))), AV.int IntKind.i64 (Prod.fst (Prod.snd (Prod.snd (Prod.snd (Prod.fst x))))),
        AV.sl 1 (Seq.map encB (0 : UInt8) (Prod.snd (Prod.snd (Prod.snd (Prod.snd (Prod.fst x)))))) Tip.none]]
        (q5_0 n_1 Post)) ∨
        ∃ (x : T.Ev × Bool),
        r =
        AV.tup
        [AV.agg
        [AV.int IntKind.i64 (Prod.fst (Prod.fst x)), AV.sl 2 (Seq.map T.encN ([], []) (Prod.fst (Prod.snd (Prod.fst x)))) Tip.none,
        AV.int IntKind.i64 (Prod.fst (Prod.snd (Prod.snd (Prod.fst x)))), AV.int IntKind.i64 (Prod.fst (Prod.snd (Prod.snd (Prod.snd (Prod.fst x))))),
        AV.sl 1 (Seq.map encB (0 : UInt8) (Prod.snd (Prod.snd (Prod.snd (Prod.snd (Prod.fst x)))))) Tip.none],
        AV.bool (Prod.snd x)] ∧
        H' =
        [AObj.cells
        [AV.sl 2 (Seq.map T.encEn ([], []) D) Tip.none, AV.sl 2 (Seq.map T.encIt ((0 : Int), []) W) (Tip.tok 1),
        AV.sl 1 (Seq.map T.encSn T.noEv S) (Tip.tok 2)],
        AObj.tok, AObj.tok, AObj.cells [AV.int IntKind.i64 k, AV.int IntKind.i64 n, AV.int IntKind.i64 a, AV.int IntKind.u8 y, AV.str nm]] ∧
        AWP Try.prog 137 n_1 c5_6
        [(0, AV.sl 2 (Seq.map T.encEn ([], []) l) Tip.none), (1, AV.str s), (5, AV.ptr 3 0), (7, AV.ptr 0 0),
        (8, AV.int IntKind.i64 m), (9, AV.ptr 4 0), (10, AV.bool (Prod.snd x))]
        [AObj.cells
        [AV.sl 2 (Seq.map T.encEn ([], []) D) Tip.none, AV.sl 2 (Seq.map T.encIt ((0 : Int), []) W) (Tip.tok 1),
        AV.sl 1 (Seq.map T.encSn T.noEv S) (Tip.tok 2)],
        AObj.tok, AObj.tok, AObj.cells [AV.int IntKind.i64 k, AV.int IntKind.i64 n, AV.int IntKind.i64 a, AV.int IntKind.u8 y, AV.str nm],
        AObj.cells
        [AV.int IntKind.i64 (Prod.fst (Prod.fst x)), AV.sl 2 (Seq.map T.encN ([], []) (Prod.fst (Prod.snd (Prod.fst x)))) Tip.none,
        AV.int IntKind.i64 (Prod.fst (Prod.snd (Prod.snd (Prod.fst x)))), AV.int IntKind.i64 (Prod.fst (Prod.snd (Prod.snd (Prod.snd (Prod.fst x))))),
        AV.sl 1 (Seq.map encB (0 : UInt8) (Prod.snd (Prod.snd (Prod.snd (Prod.snd (Prod.fst x)))))) Tip.none]]
        (q5_0 n_1 Post)) →
    AWP Try.prog 137 n_1 c5_5
      [(0, AV.sl 2 (Seq.map T.encEn ([], []) l) Tip.none), (1, AV.str s), (5, AV.ptr 3 0), (7, AV.ptr 0 0),
        (8, AV.int IntKind.i64 m)]
      (T.HS D W S ++ [AObj.cells [AV.int IntKind.i64 k, AV.int IntKind.i64 n, AV.int IntKind.i64 a, AV.int IntKind.u8 y, AV.str nm]]) (q5_0 n_1 Post) := fun l s D W S k n a y nm m n Post h => Go.Ab.awp_sound g5 n _ _ _ _ (Go.Ab.kc (by kernel_rfl) h)
noncomputable def c5_7 : Go.Code := codeSnd c5_6
theorem v5_6 : ∀ (l : List T.Ent) (s : ByteArray) (D : List T.Ent) (W : List T.Item) (S : List T.Ev) (k n a y : Int) (nm : ByteArray) (m : Int) (e : T.Ev) (c : Bool) (n_1 : Nat) (Post : AV → List AObj → Prop),
  (ASpec Try.prog 44 [AV.ptr 0 0, AV.int IntKind.i64 (0 : Int), AV.int IntKind.i64 a, AV.int IntKind.u8 y]
      [AObj.cells
        [AV.sl 2 (Seq.map T.encEn ([], []) D) Tip.none, AV.sl 2 (Seq.map T.encIt ((0 : Int), []) W) (Tip.tok 1),
        AV.sl 1 (Seq.map T.encSn T.noEv S) (Tip.tok 2)],
        AObj.tok, AObj.tok, AObj.cells [AV.int IntKind.i64 k, AV.int IntKind.i64 n, AV.int IntKind.i64 a, AV.int IntKind.u8 y, AV.str nm],
        AObj.cells
        [AV.int IntKind.i64 (Prod.fst e), AV.sl 2 (Seq.map T.encN ([], []) (Prod.fst (Prod.snd e))) Tip.none, AV.int IntKind.i64 (Prod.fst (Prod.snd (Prod.snd e))),
        AV.int IntKind.i64 (Prod.fst (Prod.snd (Prod.snd (Prod.snd e)))), AV.sl 1 (Seq.map encB (0 : UInt8) (Prod.snd (Prod.snd (Prod.snd (Prod.snd e))))) Tip.none]]
      fun (r : AV) (H' : List AObj) =>
      (∃ (x : T.Ev × Bool × List T.Item × List T.Ev),
        r =
        AV.tup
        [AV.agg
        [AV.int IntKind.i64 (Prod.fst (Prod.fst x)), AV.sl 2 (Seq.map T.encN ([], []) (Prod.fst (Prod.snd (Prod.fst x)))) Tip.none,
        AV.int IntKind.i64 (Prod.fst (Prod.snd (Prod.snd (Prod.fst x)))), AV.int IntKind.i64 (Prod.fst (Prod.snd (Prod.snd (Prod.snd (Prod.fst x))))),
        AV.sl 1 (Seq.map encB (0 : UInt8) (Prod.snd (Prod.snd (Prod.snd (Prod.snd (Prod.fst x)))))) Tip.none],
        AV.bool (Prod.fst (Prod.snd x))] ∧
        H' =
        [AObj.cells
        [AV.sl 2 (Seq.map T.encEn ([], []) D) Tip.none, AV.sl 2 (Seq.map T.encIt ((0 : Int), []) (Prod.fst (Prod.snd (Prod.snd x)))) (Tip.tok 5),
        AV.sl 1 (Seq.map T.encSn T.noEv (Prod.snd (Prod.snd (Prod.snd x)))) (Tip.tok 6)],
        AObj.gone, AObj.gone, AObj.cells [AV.int IntKind.i64 k, AV.int IntKind.i64 n, AV.int IntKind.i64 a, AV.int IntKind.u8 y, AV.str nm],
        AObj.cells
        [AV.int IntKind.i64 (Prod.fst e), AV.sl 2 (Seq.map T.encN ([], []) (Prod.fst (Prod.snd e))) Tip.none, AV.int IntKind.i64 (Prod.fst (Prod.snd (Prod.snd e))),
        AV.int IntKind.i64 (Prod.fst (Prod.snd (Prod.snd (Prod.snd e)))), AV.sl 1 (Seq.map encB (0 : UInt8) (Prod.snd (Prod.snd (Prod.snd (Prod.snd e))))) Tip.none],
        AObj.tok, AObj.tok] ∧
        AWP Try.prog 137 n_1 c5_7
        [(0, AV.sl 2 (Seq.map T.encEn ([], []) l) Tip.none), (1, AV.str s), (7, AV.ptr 0 0), (8, AV.int IntKind.i64 m),
        (9, AV.ptr 4 0), (10, AV.bool c), (11, AV.ptr 7 0), (12, AV.bool (Prod.fst (Prod.snd x)))]
        [AObj.cells
        [AV.sl 2 (Seq.map T.encEn ([], []) D) Tip.none, AV.sl 2 (Seq.map T.encIt ((0 : Int), []) (Prod.fst (Prod.snd (Prod.snd x)))) (Tip.tok 5),
        AV.sl 1 (Seq.map T.encSn T.noEv (Prod.snd (Prod.snd (Prod.snd x)))) (Tip.tok 6)],
        AObj.gone, AObj.gone, AObj.cells [AV.int IntKind.i64 k, AV.int IntKind.i64 n, AV.int IntKind.i64 a, AV.int IntKind.u8 y, AV.str nm],
        AObj.cells
        [AV.int IntKind.i64 (Prod.fst e), AV.sl 2 (Seq.map T.encN ([], []) (Prod.fst (Prod.snd e))) Tip.none, AV.int IntKind.i64 (Prod.fst (Prod.snd (Prod.snd e))),
        AV.int IntKind.i64 (Prod.fst (Prod.snd (Prod.snd (Prod.snd e)))), AV.sl 1 (Seq.map encB (0 : UInt8) (Prod.snd (Prod.snd (Prod.snd (Prod.snd e))))) Tip.none],
        AObj.tok, AObj.tok,
        AObj.cells
        [AV.int IntKind.i64 (Prod.fst (Prod.fst x)), AV.sl 2 (Seq.map T.encN ([], []) (Prod.fst (Prod.snd (Prod.fst x)))) Tip.none,
        AV.int IntKind.i64 (Prod.fst (Prod.snd (Prod.snd (Prod.fst x)))), AV.int IntKind.i64 (Prod.fst (Prod.snd (Prod.snd (Prod.snd (Prod.fst x))))),
        AV.sl 1 (Seq.map encB (0 : UInt8) (Prod.snd (Prod.snd (Prod.snd (Prod.snd (Prod.fst x)))))) Tip.none]]
        (q5_0 n_1 Post)) ∨
        ∃ (x : T.Ev × Bool),
        r =
        AV.tup
        [AV.agg
        [AV.int IntKind.i64 (Prod.fst (Prod.fst x)), AV.sl 2 (Seq.map T.encN ([], []) (Prod.fst (Prod.snd (Prod.fst x)))) Tip.none,
        AV.int IntKind.i64 (Prod.fst (Prod.snd (Prod.snd (Prod.fst x)))), AV.int IntKind.i64 (Prod.fst (Prod.snd (Prod.snd (Prod.snd (Prod.fst x))))),
        AV.sl 1 (Seq.map encB (0 : UInt8) (Prod.snd (Prod.snd (Prod.snd (Prod.snd (Prod.fst x)))))) Tip.none],
        AV.bool (Prod.snd x)] ∧
        H' =
        [AObj.cells
        [AV.sl 2 (Seq.map T.encEn ([], []) D) Tip.none, AV.sl 2 (Seq.map T.encIt ((0 : Int), []) W) (Tip.tok 1),
        AV.sl 1 (Seq.map T.encSn T.noEv S) (Tip.tok 2)],
        AObj.tok, AObj.tok, AObj.cells [AV.int IntKind.i64 k, AV.int IntKind.i64 n, AV.int IntKind.i64 a, AV.int IntKind.u8 y, AV.str nm],
        AObj.cells
        [AV.int IntKind.i64 (Prod.fst e), AV.sl 2 (Seq.map T.encN ([], []) (Prod.fst (Prod.snd e))) Tip.none, AV.int IntKind.i64 (Prod.fst (Prod.snd (Prod.snd e))),
        AV.int IntKind.i64 (Prod.fst (Prod.snd (Prod.snd (Prod.snd e)))), AV.sl 1 (Seq.map encB (0 : UInt8) (Prod.snd (Prod.snd (Prod.snd (Prod.snd e))))) Tip.none]] ∧
        AWP Try.prog 137 n_1 c5_7
        [(0, AV.sl 2 (Seq.map T.encEn ([], []) l) Tip.none), (1, AV.str s), (7, AV.ptr 0 0), (8, AV.int IntKind.i64 m),
        (9, AV.ptr 4 0), (10, AV.bool c), (11, AV.ptr 5 0), (12, AV.bool (Prod.snd x))]
        [AObj.cells
        [AV.sl 2 (Seq.map T.encEn ([], []) D) Tip.none, AV.sl 2 (Seq.map T.encIt ((0 : Int), []) W) (Tip.tok 1),
        AV.sl 1 (Seq.map T.encSn T.noEv S) (Tip.tok 2)],
        AObj.tok, AObj.tok, AObj.cells [AV.int IntKind.i64 k, AV.int IntKind.i64 n, AV.int IntKind.i64 a, AV.int IntKind.u8 y, AV.str nm],
        AObj.cells
        [AV.int IntKind.i64 (Prod.fst e), AV.sl 2 (Seq.map T.encN ([], []) (Prod.fst (Prod.snd e))) Tip.none, AV.int IntKind.i64 (Prod.fst (Prod.snd (Prod.snd e))),
        AV.int IntKind.i64 (Prod.fst (Prod.snd (Prod.snd (Prod.snd e)))), AV.sl 1 (Seq.map encB (0 : UInt8) (Prod.snd (Prod.snd (Prod.snd (Prod.snd e))))) Tip.none],
        AObj.cells
        [AV.int IntKind.i64 (Prod.fst (Prod.fst x)), AV.sl 2 (Seq.map T.encN ([], []) (Prod.fst (Prod.snd (Prod.fst x)))) Tip.none,
        AV.int IntKind.i64 (Prod.fst (Prod.snd (Prod.snd (Prod.fst x)))), AV.int IntKind.i64 (Prod.fst (Prod.snd (Prod.snd (Prod.snd (Prod.fst x))))),
        AV.sl 1 (Seq.map encB (0 : UInt8) (Prod.snd (Prod.snd (Prod.snd (Prod.snd (Prod.fst x)))))) Tip.none]]
        (q5_0 n_1 Post)) →
    AWP Try.prog 137 n_1 c5_6
      [(0, AV.sl 2 (Seq.map T.encEn ([], []) l) Tip.none), (1, AV.str s), (5, AV.ptr 3 0), (7, AV.ptr 0 0),
        (8, AV.int IntKind.i64 m), (9, AV.ptr 4 0), (10, AV.bool c)]
      (T.HS D W S ++ [AObj.cells [AV.int IntKind.i64 k, AV.int IntKind.i64 n, AV.int IntKind.i64 a, AV.int IntKind.u8 y, AV.str nm], AObj.cells (T.encE e)]) (q5_0 n_1 Post) := fun l s D W S k n a y nm m e c n Post h => Go.Ab.awp_sound g5 n _ _ _ _ (Go.Ab.kc (by kernel_rfl) h)
noncomputable def c5_8 : Go.Code := codeSnd c5_7
theorem v5_7 : ∀ (l : List T.Ent) (s : ByteArray) (D : List T.Ent) (W : List T.Item) (S : List T.Ev) (m : Int) (e : T.Ev) (c : Bool) (f : T.Ev) (d : Bool) (n : Nat) (Post : AV → List AObj → Prop),
  needP (allBytes (Seq.map encB (0 : UInt8) (Prod.snd (Prod.snd (Prod.snd (Prod.snd e))))))
      (ASpec Try.prog 45 [AV.str (bytesOf (Seq.map encB (0 : UInt8) (Prod.snd (Prod.snd (Prod.snd (Prod.snd e))))))]
        [AObj.cells
        [AV.sl 2 (Seq.map T.encEn ([], []) D) Tip.none, AV.sl 2 (Seq.map T.encIt ((0 : Int), []) W) (Tip.tok 1),
        AV.sl 1 (Seq.map T.encSn T.noEv S) (Tip.tok 2)],
        AObj.tok, AObj.tok,
        AObj.cells
        [AV.int IntKind.i64 (Prod.fst e), AV.sl 2 (Seq.map T.encN ([], []) (Prod.fst (Prod.snd e))) Tip.none, AV.int IntKind.i64 (Prod.fst (Prod.snd (Prod.snd e))),
        AV.int IntKind.i64 (Prod.fst (Prod.snd (Prod.snd (Prod.snd e)))), AV.sl 1 (Seq.map encB (0 : UInt8) (Prod.snd (Prod.snd (Prod.snd (Prod.snd e))))) Tip.none],
        AObj.cells
        [AV.int IntKind.i64 (Prod.fst f), AV.sl 2 (Seq.map T.encN ([], []) (Prod.fst (Prod.snd f))) Tip.none, AV.int IntKind.i64 (Prod.fst (Prod.snd (Prod.snd f))),
        AV.int IntKind.i64 (Prod.fst (Prod.snd (Prod.snd (Prod.snd f)))), AV.sl 1 (Seq.map encB (0 : UInt8) (Prod.snd (Prod.snd (Prod.snd (Prod.snd f))))) Tip.none]]
        fun (r : AV) (H' : List AObj) =>
        ∃ (x : ByteArray × ByteArray × Int),
        r = AV.tup [AV.str (Prod.fst x), AV.str (Prod.fst (Prod.snd x)), AV.int IntKind.i64 (Prod.snd (Prod.snd x))] ∧
        H' =
        [AObj.cells
        [AV.sl 2 (Seq.map T.encEn ([], []) D) Tip.none, AV.sl 2 (Seq.map T.encIt ((0 : Int), []) W) (Tip.tok 1),
        AV.sl 1 (Seq.map T.encSn T.noEv S) (Tip.tok 2)],
        AObj.tok, AObj.tok,
        AObj.cells
        [AV.int IntKind.i64 (Prod.fst e), AV.sl 2 (Seq.map T.encN ([], []) (Prod.fst (Prod.snd e))) Tip.none, AV.int IntKind.i64 (Prod.fst (Prod.snd (Prod.snd e))),
        AV.int IntKind.i64 (Prod.fst (Prod.snd (Prod.snd (Prod.snd e)))), AV.sl 1 (Seq.map encB (0 : UInt8) (Prod.snd (Prod.snd (Prod.snd (Prod.snd e))))) Tip.none],
        AObj.cells
        [AV.int IntKind.i64 (Prod.fst f), AV.sl 2 (Seq.map T.encN ([], []) (Prod.fst (Prod.snd f))) Tip.none, AV.int IntKind.i64 (Prod.fst (Prod.snd (Prod.snd f))),
        AV.int IntKind.i64 (Prod.fst (Prod.snd (Prod.snd (Prod.snd f)))), AV.sl 1 (Seq.map encB (0 : UInt8) (Prod.snd (Prod.snd (Prod.snd (Prod.snd f))))) Tip.none]] ∧
        AWP Try.prog 137 n c5_8
        [(0, AV.sl 2 (Seq.map T.encEn ([], []) l) Tip.none), (1, AV.str s), (7, AV.ptr 0 0), (8, AV.int IntKind.i64 m),
        (9, AV.ptr 3 0), (10, AV.bool c), (11, AV.ptr 4 0), (12, AV.bool d), (13, AV.str (Prod.fst x)),
        (14, AV.str (Prod.fst (Prod.snd x))), (15, AV.int IntKind.i64 (Prod.snd (Prod.snd x)))]
        [AObj.cells
        [AV.sl 2 (Seq.map T.encEn ([], []) D) Tip.none, AV.sl 2 (Seq.map T.encIt ((0 : Int), []) W) (Tip.tok 1),
        AV.sl 1 (Seq.map T.encSn T.noEv S) (Tip.tok 2)],
        AObj.tok, AObj.tok,
        AObj.cells
        [AV.int IntKind.i64 (Prod.fst e), AV.sl 2 (Seq.map T.encN ([], []) (Prod.fst (Prod.snd e))) Tip.none, AV.int IntKind.i64 (Prod.fst (Prod.snd (Prod.snd e))),
        AV.int IntKind.i64 (Prod.fst (Prod.snd (Prod.snd (Prod.snd e)))), AV.sl 1 (Seq.map encB (0 : UInt8) (Prod.snd (Prod.snd (Prod.snd (Prod.snd e))))) Tip.none],
        AObj.cells
        [AV.int IntKind.i64 (Prod.fst f), AV.sl 2 (Seq.map T.encN ([], []) (Prod.fst (Prod.snd f))) Tip.none, AV.int IntKind.i64 (Prod.fst (Prod.snd (Prod.snd f))),
        AV.int IntKind.i64 (Prod.fst (Prod.snd (Prod.snd (Prod.snd f)))), AV.sl 1 (Seq.map encB (0 : UInt8) (Prod.snd (Prod.snd (Prod.snd (Prod.snd f))))) Tip.none]]
        (q5_0 n Post)) →
    AWP Try.prog 137 n c5_7
      [(0, AV.sl 2 (Seq.map T.encEn ([], []) l) Tip.none), (1, AV.str s), (7, AV.ptr 0 0), (8, AV.int IntKind.i64 m),
        (9, AV.ptr 3 0), (10, AV.bool c), (11, AV.ptr 4 0), (12, AV.bool d)]
      (T.HS D W S ++ [AObj.cells (T.encE e), AObj.cells (T.encE f)]) (q5_0 n Post) := fun l s D W S m e c f d n Post h => Go.Ab.awp_sound g5 n _ _ _ _ (Go.Ab.kc (by kernel_rfl) h)
noncomputable def c5_9 : Go.Code := codeSnd c5_8
theorem v5_8 : ∀ (l : List T.Ent) (s : ByteArray) (D : List T.Ent) (W : List T.Item) (S : List T.Ev) (m : Int) (e : T.Ev) (c : Bool) (f : T.Ev) (d : Bool) (w bo : ByteArray) (er : Int) (n : Nat)
  (Post : AV → List AObj → Prop),
  needP (allBytes (Seq.map encB (0 : UInt8) (Prod.snd (Prod.snd (Prod.snd (Prod.snd f))))))
      (ASpec Try.prog 45 [AV.str (bytesOf (Seq.map encB (0 : UInt8) (Prod.snd (Prod.snd (Prod.snd (Prod.snd f))))))]
        [AObj.cells
        [AV.sl 2 (Seq.map T.encEn ([], []) D) Tip.none, AV.sl 2 (Seq.map T.encIt ((0 : Int), []) W) (Tip.tok 1),
        AV.sl 1 (Seq.map T.encSn T.noEv S) (Tip.tok 2)],
        AObj.tok, AObj.tok,
        AObj.cells
        [AV.int IntKind.i64 (Prod.fst e), AV.sl 2 (Seq.map T.encN ([], []) (Prod.fst (Prod.snd e))) Tip.none, AV.int IntKind.i64 (Prod.fst (Prod.snd (Prod.snd e))),
        AV.int IntKind.i64 (Prod.fst (Prod.snd (Prod.snd (Prod.snd e)))), AV.sl 1 (Seq.map encB (0 : UInt8) (Prod.snd (Prod.snd (Prod.snd (Prod.snd e))))) Tip.none],
        AObj.cells
        [AV.int IntKind.i64 (Prod.fst f), AV.sl 2 (Seq.map T.encN ([], []) (Prod.fst (Prod.snd f))) Tip.none, AV.int IntKind.i64 (Prod.fst (Prod.snd (Prod.snd f))),
        AV.int IntKind.i64 (Prod.fst (Prod.snd (Prod.snd (Prod.snd f)))), AV.sl 1 (Seq.map encB (0 : UInt8) (Prod.snd (Prod.snd (Prod.snd (Prod.snd f))))) Tip.none]]
        fun (r : AV) (H' : List AObj) =>
        ∃ (x : ByteArray × ByteArray × Int),
        r = AV.tup [AV.str (Prod.fst x), AV.str (Prod.fst (Prod.snd x)), AV.int IntKind.i64 (Prod.snd (Prod.snd x))] ∧
        H' =
        [AObj.cells
        [AV.sl 2 (Seq.map T.encEn ([], []) D) Tip.none, AV.sl 2 (Seq.map T.encIt ((0 : Int), []) W) (Tip.tok 1),
        AV.sl 1 (Seq.map T.encSn T.noEv S) (Tip.tok 2)],
        AObj.tok, AObj.tok,
        AObj.cells
        [AV.int IntKind.i64 (Prod.fst e), AV.sl 2 (Seq.map T.encN ([], []) (Prod.fst (Prod.snd e))) Tip.none, AV.int IntKind.i64 (Prod.fst (Prod.snd (Prod.snd e))),
        AV.int IntKind.i64 (Prod.fst (Prod.snd (Prod.snd (Prod.snd e)))), AV.sl 1 (Seq.map encB (0 : UInt8) (Prod.snd (Prod.snd (Prod.snd (Prod.snd e))))) Tip.none],
        AObj.cells
        [AV.int IntKind.i64 (Prod.fst f), AV.sl 2 (Seq.map T.encN ([], []) (Prod.fst (Prod.snd f))) Tip.none, AV.int IntKind.i64 (Prod.fst (Prod.snd (Prod.snd f))),
        AV.int IntKind.i64 (Prod.fst (Prod.snd (Prod.snd (Prod.snd f)))), AV.sl 1 (Seq.map encB (0 : UInt8) (Prod.snd (Prod.snd (Prod.snd (Prod.snd f))))) Tip.none]] ∧
        AWP Try.prog 137 n c5_9
        [(0, AV.sl 2 (Seq.map T.encEn ([], []) l) Tip.none), (1, AV.str s), (7, AV.ptr 0 0), (8, AV.int IntKind.i64 m),
        (9, AV.ptr 3 0), (10, AV.bool c), (11, AV.ptr 4 0), (12, AV.bool d), (13, AV.str w), (14, AV.str bo),
        (15, AV.int IntKind.i64 er), (18, AV.int IntKind.i64 (Prod.snd (Prod.snd x)))]
        [AObj.cells
        [AV.sl 2 (Seq.map T.encEn ([], []) D) Tip.none, AV.sl 2 (Seq.map T.encIt ((0 : Int), []) W) (Tip.tok 1),
        AV.sl 1 (Seq.map T.encSn T.noEv S) (Tip.tok 2)],
        AObj.tok, AObj.tok,
        AObj.cells
        [AV.int IntKind.i64 (Prod.fst e), AV.sl 2 (Seq.map T.encN ([], []) (Prod.fst (Prod.snd e))) Tip.none, AV.int IntKind.i64 (Prod.fst (Prod.snd (Prod.snd e))),
        AV.int IntKind.i64 (Prod.fst (Prod.snd (Prod.snd (Prod.snd e)))), AV.sl 1 (Seq.map encB (0 : UInt8) (Prod.snd (Prod.snd (Prod.snd (Prod.snd e))))) Tip.none],
        AObj.cells
        [AV.int IntKind.i64 (Prod.fst f), AV.sl 2 (Seq.map T.encN ([], []) (Prod.fst (Prod.snd f))) Tip.none, AV.int IntKind.i64 (Prod.fst (Prod.snd (Prod.snd f))),
        AV.int IntKind.i64 (Prod.fst (Prod.snd (Prod.snd (Prod.snd f)))), AV.sl 1 (Seq.map encB (0 : UInt8) (Prod.snd (Prod.snd (Prod.snd (Prod.snd f))))) Tip.none]]
        (q5_0 n Post)) →
    AWP Try.prog 137 n c5_8
      [(0, AV.sl 2 (Seq.map T.encEn ([], []) l) Tip.none), (1, AV.str s), (7, AV.ptr 0 0), (8, AV.int IntKind.i64 m),
        (9, AV.ptr 3 0), (10, AV.bool c), (11, AV.ptr 4 0), (12, AV.bool d), (13, AV.str w), (14, AV.str bo),
        (15, AV.int IntKind.i64 er)]
      (T.HS D W S ++ [AObj.cells (T.encE e), AObj.cells (T.encE f)]) (q5_0 n Post) := fun l s D W S m e c f d w bo er n Post h => Go.Ab.awp_sound g5 n _ _ _ _ (Go.Ab.kc (by kernel_rfl) h)
noncomputable def c5_10 : Go.Code := codeSnd c5_9
theorem v5_9 : ∀ (l : List T.Ent) (s : ByteArray) (D : List T.Ent) (W : List T.Item) (S : List T.Ev) (m : Int) (e : T.Ev) (c : Bool) (f : T.Ev) (d : Bool) (w bo : ByteArray) (er er2 : Int) (n : Nat)
  (Post : AV → List AObj → Prop),
  (ASpec Try.prog 46 [AV.ptr 0 0, AV.int IntKind.i64 (0 : Int)]
      [AObj.cells
        [AV.sl 2 (Seq.map T.encEn ([], []) D) Tip.none, AV.sl 2 (Seq.map T.encIt ((0 : Int), []) W) (Tip.tok 1),
        AV.sl 1 (Seq.map T.encSn T.noEv S) (Tip.tok 2)],
        AObj.tok, AObj.tok,
        AObj.cells
        [AV.int IntKind.i64 (Prod.fst e), AV.sl 2 (Seq.map T.encN ([], []) (Prod.fst (Prod.snd e))) Tip.none, AV.int IntKind.i64 (Prod.fst (Prod.snd (Prod.snd e))),
        AV.int IntKind.i64 (Prod.fst (Prod.snd (Prod.snd (Prod.snd e)))), AV.sl 1 (Seq.map encB (0 : UInt8) (Prod.snd (Prod.snd (Prod.snd (Prod.snd e))))) Tip.none],
        AObj.cells
        [AV.int IntKind.i64 (Prod.fst f), AV.sl 2 (Seq.map T.encN ([], []) (Prod.fst (Prod.snd f))) Tip.none, AV.int IntKind.i64 (Prod.fst (Prod.snd (Prod.snd f))),
        AV.int IntKind.i64 (Prod.fst (Prod.snd (Prod.snd (Prod.snd f)))), AV.sl 1 (Seq.map encB (0 : UInt8) (Prod.snd (Prod.snd (Prod.snd (Prod.snd f))))) Tip.none]]
      fun (r : AV) (H' : List AObj) =>
      ∃ (x : T.Ev × Bool),
        r =
        AV.tup
        [AV.agg
        [AV.int IntKind.i64 (Prod.fst (Prod.fst x)), AV.sl 2 (Seq.map T.encN ([], []) (Prod.fst (Prod.snd (Prod.fst x)))) Tip.none,
        AV.int IntKind.i64 (Prod.fst (Prod.snd (Prod.snd (Prod.fst x)))), AV.int IntKind.i64 (Prod.fst (Prod.snd (Prod.snd (Prod.snd (Prod.fst x))))),
        AV.sl 1 (Seq.map encB (0 : UInt8) (Prod.snd (Prod.snd (Prod.snd (Prod.snd (Prod.fst x)))))) Tip.none],
        AV.bool (Prod.snd x)] ∧
        H' =
        [AObj.cells
        [AV.sl 2 (Seq.map T.encEn ([], []) D) Tip.none, AV.sl 2 (Seq.map T.encIt ((0 : Int), []) W) (Tip.tok 1),
        AV.sl 1 (Seq.map T.encSn T.noEv S) (Tip.tok 2)],
        AObj.tok, AObj.tok,
        AObj.cells
        [AV.int IntKind.i64 (Prod.fst e), AV.sl 2 (Seq.map T.encN ([], []) (Prod.fst (Prod.snd e))) Tip.none, AV.int IntKind.i64 (Prod.fst (Prod.snd (Prod.snd e))),
        AV.int IntKind.i64 (Prod.fst (Prod.snd (Prod.snd (Prod.snd e)))), AV.sl 1 (Seq.map encB (0 : UInt8) (Prod.snd (Prod.snd (Prod.snd (Prod.snd e))))) Tip.none],
        AObj.cells
        [AV.int IntKind.i64 (Prod.fst f), AV.sl 2 (Seq.map T.encN ([], []) (Prod.fst (Prod.snd f))) Tip.none, AV.int IntKind.i64 (Prod.fst (Prod.snd (Prod.snd f))),
        AV.int IntKind.i64 (Prod.fst (Prod.snd (Prod.snd (Prod.snd f)))), AV.sl 1 (Seq.map encB (0 : UInt8) (Prod.snd (Prod.snd (Prod.snd (Prod.snd f))))) Tip.none]] ∧
        AWP Try.prog 137 n c5_10
        [(0, AV.sl 2 (Seq.map T.encEn ([], []) l) Tip.none), (1, AV.str s), (7, AV.ptr 0 0), (8, AV.int IntKind.i64 m),
        (9, AV.ptr 3 0), (10, AV.bool c), (11, AV.ptr 4 0), (12, AV.bool d), (13, AV.str w), (14, AV.str bo),
        (15, AV.int IntKind.i64 er), (18, AV.int IntKind.i64 er2), (19, AV.ptr 5 0), (20, AV.bool (Prod.snd x))]
        [AObj.cells
        [AV.sl 2 (Seq.map T.encEn ([], []) D) Tip.none, AV.sl 2 (Seq.map T.encIt ((0 : Int), []) W) (Tip.tok 1),
        AV.sl 1 (Seq.map T.encSn T.noEv S) (Tip.tok 2)],
        AObj.tok, AObj.tok,
        AObj.cells
        [AV.int IntKind.i64 (Prod.fst e), AV.sl 2 (Seq.map T.encN ([], []) (Prod.fst (Prod.snd e))) Tip.none, AV.int IntKind.i64 (Prod.fst (Prod.snd (Prod.snd e))),
        AV.int IntKind.i64 (Prod.fst (Prod.snd (Prod.snd (Prod.snd e)))), AV.sl 1 (Seq.map encB (0 : UInt8) (Prod.snd (Prod.snd (Prod.snd (Prod.snd e))))) Tip.none],
        AObj.cells
        [AV.int IntKind.i64 (Prod.fst f), AV.sl 2 (Seq.map T.encN ([], []) (Prod.fst (Prod.snd f))) Tip.none, AV.int IntKind.i64 (Prod.fst (Prod.snd (Prod.snd f))),
        AV.int IntKind.i64 (Prod.fst (Prod.snd (Prod.snd (Prod.snd f)))), AV.sl 1 (Seq.map encB (0 : UInt8) (Prod.snd (Prod.snd (Prod.snd (Prod.snd f))))) Tip.none],
        AObj.cells
        [AV.int IntKind.i64 (Prod.fst (Prod.fst x)), AV.sl 2 (Seq.map T.encN ([], []) (Prod.fst (Prod.snd (Prod.fst x)))) Tip.none,
        AV.int IntKind.i64 (Prod.fst (Prod.snd (Prod.snd (Prod.fst x)))), AV.int IntKind.i64 (Prod.fst (Prod.snd (Prod.snd (Prod.snd (Prod.fst x))))),
        AV.sl 1 (Seq.map encB (0 : UInt8) (Prod.snd (Prod.snd (Prod.snd (Prod.snd (Prod.fst x)))))) Tip.none]]
        (q5_0 n Post)) →
    AWP Try.prog 137 n c5_9
      [(0, AV.sl 2 (Seq.map T.encEn ([], []) l) Tip.none), (1, AV.str s), (7, AV.ptr 0 0), (8, AV.int IntKind.i64 m),
        (9, AV.ptr 3 0), (10, AV.bool c), (11, AV.ptr 4 0), (12, AV.bool d), (13, AV.str w), (14, AV.str bo),
        (15, AV.int IntKind.i64 er), (18, AV.int IntKind.i64 er2)]
      (T.HS D W S ++ [AObj.cells (T.encE e), AObj.cells (T.encE f)]) (q5_0 n Post) := fun l s D W S m e c f d w bo er er2 n Post h => Go.Ab.awp_sound g5 n _ _ _ _ (Go.Ab.kc (by kernel_rfl) h)
theorem v5_10 : ∀ (l : List T.Ent) (s : ByteArray) (D : List T.Ent) (W : List T.Item) (S : List T.Ev) (m : Int) (e : T.Ev) (c : Bool) (f : T.Ev) (d : Bool) (w bo : ByteArray) (er er2 : Int) (g : T.Ev) (h : Bool)
  (n : Nat) (Post : AV → List AObj → Prop),
  condP (m == (2 : Int))
      (condP c
        (condP d
        (condP (Prod.fst (Prod.snd (Prod.snd (Prod.snd e))) == (7 : Int))
        (condP (Prod.fst (Prod.snd (Prod.snd (Prod.snd f))) == (8 : Int))
        (condP (er == (0 : Int))
        (condP (ByteArray.toList w == ByteArray.toList s)
        (ASpec Try.prog 47 [AV.sl 2 (Seq.map T.encEn ([], []) l) Tip.none, AV.str s]
        [AObj.cells
        [AV.sl 2 (Seq.map T.encEn ([], []) D) Tip.none, AV.sl 2 (Seq.map T.encIt ((0 : Int), []) W) (Tip.tok 1),
        AV.sl 1 (Seq.map T.encSn T.noEv S) (Tip.tok 2)],
        AObj.tok, AObj.tok,
        AObj.cells
        [AV.int IntKind.i64 (Prod.fst e), AV.sl 2 (Seq.map T.encN ([], []) (Prod.fst (Prod.snd e))) Tip.none, AV.int IntKind.i64 (Prod.fst (Prod.snd (Prod.snd e))),
        AV.int IntKind.i64 (Prod.fst (Prod.snd (Prod.snd (Prod.snd e)))), AV.sl 1 (Seq.map encB (0 : UInt8) (Prod.snd (Prod.snd (Prod.snd (Prod.snd e))))) Tip.none],
        AObj.cells
        [AV.int IntKind.i64 (Prod.fst f), AV.sl 2 (Seq.map T.encN ([], []) (Prod.fst (Prod.snd f))) Tip.none, AV.int IntKind.i64 (Prod.fst (Prod.snd (Prod.snd f))),
        AV.int IntKind.i64 (Prod.fst (Prod.snd (Prod.snd (Prod.snd f)))), AV.sl 1 (Seq.map encB (0 : UInt8) (Prod.snd (Prod.snd (Prod.snd (Prod.snd f))))) Tip.none],
        AObj.cells
        [AV.int IntKind.i64 (Prod.fst g), AV.sl 2 (Seq.map T.encN ([], []) (Prod.fst (Prod.snd g))) Tip.none, AV.int IntKind.i64 (Prod.fst (Prod.snd (Prod.snd g))),
        AV.int IntKind.i64 (Prod.fst (Prod.snd (Prod.snd (Prod.snd g)))), AV.sl 1 (Seq.map encB (0 : UInt8) (Prod.snd (Prod.snd (Prod.snd (Prod.snd g))))) Tip.none]]
        fun (r : AV) (H' : List AObj) =>
        ∃ (x : ByteArray),
        r = AV.str x ∧
        H' =
        [AObj.cells
        [AV.sl 2 (Seq.map T.encEn ([], []) D) Tip.none, AV.sl 2 (Seq.map T.encIt ((0 : Int), []) W) (Tip.tok 1),
        AV.sl 1 (Seq.map T.encSn T.noEv S) (Tip.tok 2)],
        AObj.tok, AObj.tok,
        AObj.cells
        [AV.int IntKind.i64 (Prod.fst e), AV.sl 2 (Seq.map T.encN ([], []) (Prod.fst (Prod.snd e))) Tip.none, AV.int IntKind.i64 (Prod.fst (Prod.snd (Prod.snd e))),
        AV.int IntKind.i64 (Prod.fst (Prod.snd (Prod.snd (Prod.snd e)))), AV.sl 1 (Seq.map encB (0 : UInt8) (Prod.snd (Prod.snd (Prod.snd (Prod.snd e))))) Tip.none],
        AObj.cells
        [AV.int IntKind.i64 (Prod.fst f), AV.sl 2 (Seq.map T.encN ([], []) (Prod.fst (Prod.snd f))) Tip.none, AV.int IntKind.i64 (Prod.fst (Prod.snd (Prod.snd f))),
        AV.int IntKind.i64 (Prod.fst (Prod.snd (Prod.snd (Prod.snd f)))), AV.sl 1 (Seq.map encB (0 : UInt8) (Prod.snd (Prod.snd (Prod.snd (Prod.snd f))))) Tip.none],
        AObj.cells
        [AV.int IntKind.i64 (Prod.fst g), AV.sl 2 (Seq.map T.encN ([], []) (Prod.fst (Prod.snd g))) Tip.none, AV.int IntKind.i64 (Prod.fst (Prod.snd (Prod.snd g))),
        AV.int IntKind.i64 (Prod.fst (Prod.snd (Prod.snd (Prod.snd g)))),
        AV.sl 1 (Seq.map encB (0 : UInt8) (Prod.snd (Prod.snd (Prod.snd (Prod.snd g))))) Tip.none]] ∧
        condP (ByteArray.toList bo == ByteArray.toList x)
        (condP (er2 == (8 : Int))
        (condP h
        (ASpec Try.prog 48
        [AV.agg
        [AV.int IntKind.i64 (Prod.fst g), AV.sl 2 (Seq.map T.encN ([], []) (Prod.fst (Prod.snd g))) Tip.none,
        AV.int IntKind.i64 (Prod.fst (Prod.snd (Prod.snd g))), AV.int IntKind.i64 (Prod.fst (Prod.snd (Prod.snd (Prod.snd g)))),
        AV.sl 1 (Seq.map encB (0 : UInt8) (Prod.snd (Prod.snd (Prod.snd (Prod.snd g))))) Tip.none],
        AV.agg
        [AV.int IntKind.i64 (Prod.fst e), AV.sl 2 (Seq.map T.encN ([], []) (Prod.fst (Prod.snd e))) Tip.none,
        AV.int IntKind.i64 (Prod.fst (Prod.snd (Prod.snd e))), AV.int IntKind.i64 (Prod.fst (Prod.snd (Prod.snd (Prod.snd e)))),
        AV.sl 1 (Seq.map encB (0 : UInt8) (Prod.snd (Prod.snd (Prod.snd (Prod.snd e))))) Tip.none]]
        [AObj.cells
        [AV.sl 2 (Seq.map T.encEn ([], []) D) Tip.none, AV.sl 2 (Seq.map T.encIt ((0 : Int), []) W) (Tip.tok 1),
        AV.sl 1 (Seq.map T.encSn T.noEv S) (Tip.tok 2)],
        AObj.tok, AObj.tok,
        AObj.cells
        [AV.int IntKind.i64 (Prod.fst e), AV.sl 2 (Seq.map T.encN ([], []) (Prod.fst (Prod.snd e))) Tip.none,
        AV.int IntKind.i64 (Prod.fst (Prod.snd (Prod.snd e))), AV.int IntKind.i64 (Prod.fst (Prod.snd (Prod.snd (Prod.snd e)))),
        AV.sl 1 (Seq.map encB (0 : UInt8) (Prod.snd (Prod.snd (Prod.snd (Prod.snd e))))) Tip.none],
        AObj.cells
        [AV.int IntKind.i64 (Prod.fst f), AV.sl 2 (Seq.map T.encN ([], []) (Prod.fst (Prod.snd f))) Tip.none,
        AV.int IntKind.i64 (Prod.fst (Prod.snd (Prod.snd f))), AV.int IntKind.i64 (Prod.fst (Prod.snd (Prod.snd (Prod.snd f)))),
        AV.sl 1 (Seq.map encB (0 : UInt8) (Prod.snd (Prod.snd (Prod.snd (Prod.snd f))))) Tip.none],
        AObj.cells
        [AV.int IntKind.i64 (Prod.fst g), AV.sl 2 (Seq.map T.encN ([], []) (Prod.fst (Prod.snd g))) Tip.none,
        AV.int IntKind.i64 (Prod.fst (Prod.snd (Prod.snd g))), AV.int IntKind.i64 (Prod.fst (Prod.snd (Prod.snd (Prod.snd g)))),
        AV.sl 1 (Seq.map encB (0 : UInt8) (Prod.snd (Prod.snd (Prod.snd (Prod.snd g))))) Tip.none]]
        fun (r : AV) (H' : List AObj) =>
        ∃ (x : Bool),
        r = AV.bool x ∧
        H' =
        [AObj.cells
        [AV.sl 2 (Seq.map T.encEn ([], []) D) Tip.none, AV.sl 2 (Seq.map T.encIt ((0 : Int), []) W) (Tip.tok 1),
        AV.sl 1 (Seq.map T.encSn T.noEv S) (Tip.tok 2)],
        AObj.tok, AObj.tok,
        AObj.cells
        [AV.int IntKind.i64 (Prod.fst e), AV.sl 2 (Seq.map T.encN ([], []) (Prod.fst (Prod.snd e))) Tip.none,
        AV.int IntKind.i64 (Prod.fst (Prod.snd (Prod.snd e))), AV.int IntKind.i64 (Prod.fst (Prod.snd (Prod.snd (Prod.snd e)))),
        AV.sl 1 (Seq.map encB (0 : UInt8) (Prod.snd (Prod.snd (Prod.snd (Prod.snd e))))) Tip.none],
        AObj.cells
        [AV.int IntKind.i64 (Prod.fst f), AV.sl 2 (Seq.map T.encN ([], []) (Prod.fst (Prod.snd f))) Tip.none,
        AV.int IntKind.i64 (Prod.fst (Prod.snd (Prod.snd f))), AV.int IntKind.i64 (Prod.fst (Prod.snd (Prod.snd (Prod.snd f)))),
        AV.sl 1 (Seq.map encB (0 : UInt8) (Prod.snd (Prod.snd (Prod.snd (Prod.snd f))))) Tip.none],
        AObj.cells
        [AV.int IntKind.i64 (Prod.fst g), AV.sl 2 (Seq.map T.encN ([], []) (Prod.fst (Prod.snd g))) Tip.none,
        AV.int IntKind.i64 (Prod.fst (Prod.snd (Prod.snd g))), AV.int IntKind.i64 (Prod.fst (Prod.snd (Prod.snd (Prod.snd g)))),
        AV.sl 1 (Seq.map encB (0 : UInt8) (Prod.snd (Prod.snd (Prod.snd (Prod.snd g))))) Tip.none]] ∧
        condP x
        (ASpec Try.prog 49 [AV.ptr 0 0]
        [AObj.cells
        [AV.sl 2 (Seq.map T.encEn ([], []) D) Tip.none, AV.sl 2 (Seq.map T.encIt ((0 : Int), []) W) (Tip.tok 1),
        AV.sl 1 (Seq.map T.encSn T.noEv S) (Tip.tok 2)],
        AObj.tok, AObj.tok,
        AObj.cells
        [AV.int IntKind.i64 (Prod.fst e), AV.sl 2 (Seq.map T.encN ([], []) (Prod.fst (Prod.snd e))) Tip.none,
        AV.int IntKind.i64 (Prod.fst (Prod.snd (Prod.snd e))), AV.int IntKind.i64 (Prod.fst (Prod.snd (Prod.snd (Prod.snd e)))),
        AV.sl 1 (Seq.map encB (0 : UInt8) (Prod.snd (Prod.snd (Prod.snd (Prod.snd e))))) Tip.none],
        AObj.cells
        [AV.int IntKind.i64 (Prod.fst f), AV.sl 2 (Seq.map T.encN ([], []) (Prod.fst (Prod.snd f))) Tip.none,
        AV.int IntKind.i64 (Prod.fst (Prod.snd (Prod.snd f))), AV.int IntKind.i64 (Prod.fst (Prod.snd (Prod.snd (Prod.snd f)))),
        AV.sl 1 (Seq.map encB (0 : UInt8) (Prod.snd (Prod.snd (Prod.snd (Prod.snd f))))) Tip.none],
        AObj.cells
        [AV.int IntKind.i64 (Prod.fst g), AV.sl 2 (Seq.map T.encN ([], []) (Prod.fst (Prod.snd g))) Tip.none,
        AV.int IntKind.i64 (Prod.fst (Prod.snd (Prod.snd g))), AV.int IntKind.i64 (Prod.fst (Prod.snd (Prod.snd (Prod.snd g)))),
        AV.sl 1 (Seq.map encB (0 : UInt8) (Prod.snd (Prod.snd (Prod.snd (Prod.snd g))))) Tip.none]]
        fun (r : AV) (H' : List AObj) =>
        ∃ (x : Int),
        r = AV.int IntKind.i64 x ∧
        H' =
        [AObj.cells
        [AV.sl 2 (Seq.map T.encEn ([], []) D) Tip.none, AV.sl 2 (Seq.map T.encIt ((0 : Int), []) W) (Tip.tok 1),
        AV.sl 1 (Seq.map T.encSn T.noEv S) (Tip.tok 2)],
        AObj.tok, AObj.tok,
        AObj.cells
        [AV.int IntKind.i64 (Prod.fst e), AV.sl 2 (Seq.map T.encN ([], []) (Prod.fst (Prod.snd e))) Tip.none,
        AV.int IntKind.i64 (Prod.fst (Prod.snd (Prod.snd e))), AV.int IntKind.i64 (Prod.fst (Prod.snd (Prod.snd (Prod.snd e)))),
        AV.sl 1 (Seq.map encB (0 : UInt8) (Prod.snd (Prod.snd (Prod.snd (Prod.snd e))))) Tip.none],
        AObj.cells
        [AV.int IntKind.i64 (Prod.fst f), AV.sl 2 (Seq.map T.encN ([], []) (Prod.fst (Prod.snd f))) Tip.none,
        AV.int IntKind.i64 (Prod.fst (Prod.snd (Prod.snd f))), AV.int IntKind.i64 (Prod.fst (Prod.snd (Prod.snd (Prod.snd f)))),
        AV.sl 1 (Seq.map encB (0 : UInt8) (Prod.snd (Prod.snd (Prod.snd (Prod.snd f))))) Tip.none],
        AObj.cells
        [AV.int IntKind.i64 (Prod.fst g), AV.sl 2 (Seq.map T.encN ([], []) (Prod.fst (Prod.snd g))) Tip.none,
        AV.int IntKind.i64 (Prod.fst (Prod.snd (Prod.snd g))), AV.int IntKind.i64 (Prod.fst (Prod.snd (Prod.snd (Prod.snd g)))),
        AV.sl 1 (Seq.map encB (0 : UInt8) (Prod.snd (Prod.snd (Prod.snd (Prod.snd g))))) Tip.none]] ∧
        condP (x == (0 : Int))
        (ASpec Try.prog 40 []
        [AObj.cells
        [AV.sl 2 (Seq.map T.encEn ([], []) D) Tip.none, AV.sl 2 (Seq.map T.encIt ((0 : Int), []) W) (Tip.tok 1),
        AV.sl 1 (Seq.map T.encSn T.noEv S) (Tip.tok 2)],
        AObj.tok, AObj.tok,
        AObj.cells
        [AV.int IntKind.i64 (Prod.fst e), AV.sl 2 (Seq.map T.encN ([], []) (Prod.fst (Prod.snd e))) Tip.none,
        AV.int IntKind.i64 (Prod.fst (Prod.snd (Prod.snd e))), AV.int IntKind.i64 (Prod.fst (Prod.snd (Prod.snd (Prod.snd e)))),
        AV.sl 1 (Seq.map encB (0 : UInt8) (Prod.snd (Prod.snd (Prod.snd (Prod.snd e))))) Tip.none],
        AObj.cells
        [AV.int IntKind.i64 (Prod.fst f), AV.sl 2 (Seq.map T.encN ([], []) (Prod.fst (Prod.snd f))) Tip.none,
        AV.int IntKind.i64 (Prod.fst (Prod.snd (Prod.snd f))), AV.int IntKind.i64 (Prod.fst (Prod.snd (Prod.snd (Prod.snd f)))),
        AV.sl 1 (Seq.map encB (0 : UInt8) (Prod.snd (Prod.snd (Prod.snd (Prod.snd f))))) Tip.none],
        AObj.cells
        [AV.int IntKind.i64 (Prod.fst g), AV.sl 2 (Seq.map T.encN ([], []) (Prod.fst (Prod.snd g))) Tip.none,
        AV.int IntKind.i64 (Prod.fst (Prod.snd (Prod.snd g))), AV.int IntKind.i64 (Prod.fst (Prod.snd (Prod.snd (Prod.snd g)))),
        AV.sl 1 (Seq.map encB (0 : UInt8) (Prod.snd (Prod.snd (Prod.snd (Prod.snd g))))) Tip.none]]
        fun (r : AV) (H' : List AObj) =>
        ∃ (x : Unit),
        r = AV.bool true ∧
        H' =
        [AObj.cells
        [AV.sl 2 (Seq.map T.encEn ([], []) D) Tip.none, AV.sl 2 (Seq.map T.encIt ((0 : Int), []) W) (Tip.tok 1),
        AV.sl 1 (Seq.map T.encSn T.noEv S) (Tip.tok 2)],
        AObj.tok, AObj.tok,
        AObj.cells
        [AV.int IntKind.i64 (Prod.fst e), AV.sl 2 (Seq.map T.encN ([], []) (Prod.fst (Prod.snd e))) Tip.none,
        AV.int IntKind.i64 (Prod.fst (Prod.snd (Prod.snd e))), AV.int IntKind.i64 (Prod.fst (Prod.snd (Prod.snd (Prod.snd e)))),
        AV.sl 1 (Seq.map encB (0 : UInt8) (Prod.snd (Prod.snd (Prod.snd (Prod.snd e))))) Tip.none],
        AObj.cells
        [AV.int IntKind.i64 (Prod.fst f), AV.sl 2 (Seq.map T.encN ([], []) (Prod.fst (Prod.snd f))) Tip.none,
        AV.int IntKind.i64 (Prod.fst (Prod.snd (Prod.snd f))), AV.int IntKind.i64 (Prod.fst (Prod.snd (Prod.snd (Prod.snd f)))),
        AV.sl 1 (Seq.map encB (0 : UInt8) (Prod.snd (Prod.snd (Prod.snd (Prod.snd f))))) Tip.none],
        AObj.cells
        [AV.int IntKind.i64 (Prod.fst g), AV.sl 2 (Seq.map T.encN ([], []) (Prod.fst (Prod.snd g))) Tip.none,
        AV.int IntKind.i64 (Prod.fst (Prod.snd (Prod.snd g))), AV.int IntKind.i64 (Prod.fst (Prod.snd (Prod.snd (Prod.snd g)))),
        AV.sl 1 (Seq.map encB (0 : UInt8) (Prod.snd (Prod.snd (Prod.snd (Prod.snd g))))) Tip.none]] ∧
        Post (AV.bool true)
        [AObj.cells
        [AV.sl 2 (Seq.map T.encEn ([], []) D) Tip.none, AV.sl 2 (Seq.map T.encIt ((0 : Int), []) W) (Tip.tok 1),
        AV.sl 1 (Seq.map T.encSn T.noEv S) (Tip.tok 2)],
        AObj.tok, AObj.tok,
        AObj.cells
        [AV.int IntKind.i64 (Prod.fst e), AV.sl 2 (Seq.map T.encN ([], []) (Prod.fst (Prod.snd e))) Tip.none,
        AV.int IntKind.i64 (Prod.fst (Prod.snd (Prod.snd e))), AV.int IntKind.i64 (Prod.fst (Prod.snd (Prod.snd (Prod.snd e)))),
        AV.sl 1 (Seq.map encB (0 : UInt8) (Prod.snd (Prod.snd (Prod.snd (Prod.snd e))))) Tip.none],
        AObj.cells
        [AV.int IntKind.i64 (Prod.fst f), AV.sl 2 (Seq.map T.encN ([], []) (Prod.fst (Prod.snd f))) Tip.none,
        AV.int IntKind.i64 (Prod.fst (Prod.snd (Prod.snd f))), AV.int IntKind.i64 (Prod.fst (Prod.snd (Prod.snd (Prod.snd f)))),
        AV.sl 1 (Seq.map encB (0 : UInt8) (Prod.snd (Prod.snd (Prod.snd (Prod.snd f))))) Tip.none],
        AObj.cells
        [AV.int IntKind.i64 (Prod.fst g), AV.sl 2 (Seq.map T.encN ([], []) (Prod.fst (Prod.snd g))) Tip.none,
        AV.int IntKind.i64 (Prod.fst (Prod.snd (Prod.snd g))), AV.int IntKind.i64 (Prod.fst (Prod.snd (Prod.snd (Prod.snd g)))),
        AV.sl 1 (Seq.map encB (0 : UInt8) (Prod.snd (Prod.snd (Prod.snd (Prod.snd g))))) Tip.none]])
        (Post (AV.bool false)
        [AObj.cells
        [AV.sl 2 (Seq.map T.encEn ([], []) D) Tip.none, AV.sl 2 (Seq.map T.encIt ((0 : Int), []) W) (Tip.tok 1),
        AV.sl 1 (Seq.map T.encSn T.noEv S) (Tip.tok 2)],
        AObj.tok, AObj.tok,
        AObj.cells
        [AV.int IntKind.i64 (Prod.fst e), AV.sl 2 (Seq.map T.encN ([], []) (Prod.fst (Prod.snd e))) Tip.none,
        AV.int IntKind.i64 (Prod.fst (Prod.snd (Prod.snd e))), AV.int IntKind.i64 (Prod.fst (Prod.snd (Prod.snd (Prod.snd e)))),
        AV.sl 1 (Seq.map encB (0 : UInt8) (Prod.snd (Prod.snd (Prod.snd (Prod.snd e))))) Tip.none],
        AObj.cells
        [AV.int IntKind.i64 (Prod.fst f), AV.sl 2 (Seq.map T.encN ([], []) (Prod.fst (Prod.snd f))) Tip.none,
        AV.int IntKind.i64 (Prod.fst (Prod.snd (Prod.snd f))), AV.int IntKind.i64 (Prod.fst (Prod.snd (Prod.snd (Prod.snd f)))),
        AV.sl 1 (Seq.map encB (0 : UInt8) (Prod.snd (Prod.snd (Prod.snd (Prod.snd f))))) Tip.none],
        AObj.cells
        [AV.int IntKind.i64 (Prod.fst g), AV.sl 2 (Seq.map T.encN ([], []) (Prod.fst (Prod.snd g))) Tip.none,
        AV.int IntKind.i64 (Prod.fst (Prod.snd (Prod.snd g))), AV.int IntKind.i64 (Prod.fst (Prod.snd (Prod.snd (Prod.snd g)))),
        AV.sl 1 (Seq.map encB (0 : UInt8) (Prod.snd (Prod.snd (Prod.snd (Prod.snd g))))) Tip.none]]))
        (Post (AV.bool false)
        [AObj.cells
        [AV.sl 2 (Seq.map T.encEn ([], []) D) Tip.none, AV.sl 2 (Seq.map T.encIt ((0 : Int), []) W) (Tip.tok 1),
        AV.sl 1 (Seq.map T.encSn T.noEv S) (Tip.tok 2)],
        AObj.tok, AObj.tok,
        AObj.cells
        [AV.int IntKind.i64 (Prod.fst e), AV.sl 2 (Seq.map T.encN ([], []) (Prod.fst (Prod.snd e))) Tip.none,
        AV.int IntKind.i64 (Prod.fst (Prod.snd (Prod.snd e))), AV.int IntKind.i64 (Prod.fst (Prod.snd (Prod.snd (Prod.snd e)))),
        AV.sl 1 (Seq.map encB (0 : UInt8) (Prod.snd (Prod.snd (Prod.snd (Prod.snd e))))) Tip.none],
        AObj.cells
        [AV.int IntKind.i64 (Prod.fst f), AV.sl 2 (Seq.map T.encN ([], []) (Prod.fst (Prod.snd f))) Tip.none,
        AV.int IntKind.i64 (Prod.fst (Prod.snd (Prod.snd f))), AV.int IntKind.i64 (Prod.fst (Prod.snd (Prod.snd (Prod.snd f)))),
        AV.sl 1 (Seq.map encB (0 : UInt8) (Prod.snd (Prod.snd (Prod.snd (Prod.snd f))))) Tip.none],
        AObj.cells
        [AV.int IntKind.i64 (Prod.fst g), AV.sl 2 (Seq.map T.encN ([], []) (Prod.fst (Prod.snd g))) Tip.none,
        AV.int IntKind.i64 (Prod.fst (Prod.snd (Prod.snd g))), AV.int IntKind.i64 (Prod.fst (Prod.snd (Prod.snd (Prod.snd g)))),
        AV.sl 1 (Seq.map encB (0 : UInt8) (Prod.snd (Prod.snd (Prod.snd (Prod.snd g))))) Tip.none]]))
        (Post (AV.bool false)
        [AObj.cells
        [AV.sl 2 (Seq.map T.encEn ([], []) D) Tip.none, AV.sl 2 (Seq.map T.encIt ((0 : Int), []) W) (Tip.tok 1),
        AV.sl 1 (Seq.map T.encSn T.noEv S) (Tip.tok 2)],
        AObj.tok, AObj.tok,
        AObj.cells
        [AV.int IntKind.i64 (Prod.fst e), AV.sl 2 (Seq.map T.encN ([], []) (Prod.fst (Prod.snd e))) Tip.none,
        AV.int IntKind.i64 (Prod.fst (Prod.snd (Prod.snd e))), AV.int IntKind.i64 (Prod.fst (Prod.snd (Prod.snd (Prod.snd e)))),
        AV.sl 1 (Seq.map encB (0 : UInt8) (Prod.snd (Prod.snd (Prod.snd (Prod.snd e))))) Tip.none],
        AObj.cells
        [AV.int IntKind.i64 (Prod.fst f), AV.sl 2 (Seq.map T.encN ([], []) (Prod.fst (Prod.snd f))) Tip.none,
        AV.int IntKind.i64 (Prod.fst (Prod.snd (Prod.snd f))), AV.int IntKind.i64 (Prod.fst (Prod.snd (Prod.snd (Prod.snd f)))),
        AV.sl 1 (Seq.map encB (0 : UInt8) (Prod.snd (Prod.snd (Prod.snd (Prod.snd f))))) Tip.none],
        AObj.cells
        [AV.int IntKind.i64 (Prod.fst g), AV.sl 2 (Seq.map T.encN ([], []) (Prod.fst (Prod.snd g))) Tip.none,
        AV.int IntKind.i64 (Prod.fst (Prod.snd (Prod.snd g))), AV.int IntKind.i64 (Prod.fst (Prod.snd (Prod.snd (Prod.snd g)))),
        AV.sl 1 (Seq.map encB (0 : UInt8) (Prod.snd (Prod.snd (Prod.snd (Prod.snd g))))) Tip.none]]))
        (Post (AV.bool false)
        [AObj.cells
        [AV.sl 2 (Seq.map T.encEn ([], []) D) Tip.none, AV.sl 2 (Seq.map T.encIt ((0 : Int), []) W) (Tip.tok 1),
        AV.sl 1 (Seq.map T.encSn T.noEv S) (Tip.tok 2)],
        AObj.tok, AObj.tok,
        AObj.cells
        [AV.int IntKind.i64 (Prod.fst e), AV.sl 2 (Seq.map T.encN ([], []) (Prod.fst (Prod.snd e))) Tip.none, AV.int IntKind.i64 (Prod.fst (Prod.snd (Prod.snd e))),
        AV.int IntKind.i64 (Prod.fst (Prod.snd (Prod.snd (Prod.snd e)))),
        AV.sl 1 (Seq.map encB (0 : UInt8) (Prod.snd (Prod.snd (Prod.snd (Prod.snd e))))) Tip.none],
        AObj.cells
        [AV.int IntKind.i64 (Prod.fst f), AV.sl 2 (Seq.map T.encN ([], []) (Prod.fst (Prod.snd f))) Tip.none, AV.int IntKind.i64 (Prod.fst (Prod.snd (Prod.snd f))),
        AV.int IntKind.i64 (Prod.fst (Prod.snd (Prod.snd (Prod.snd f)))),
        AV.sl 1 (Seq.map encB (0 : UInt8) (Prod.snd (Prod.snd (Prod.snd (Prod.snd f))))) Tip.none],
        AObj.cells
        [AV.int IntKind.i64 (Prod.fst g), AV.sl 2 (Seq.map T.encN ([], []) (Prod.fst (Prod.snd g))) Tip.none, AV.int IntKind.i64 (Prod.fst (Prod.snd (Prod.snd g))),
        AV.int IntKind.i64 (Prod.fst (Prod.snd (Prod.snd (Prod.snd g)))),
        AV.sl 1 (Seq.map encB (0 : UInt8) (Prod.snd (Prod.snd (Prod.snd (Prod.snd g))))) Tip.none]]))
        (Post (AV.bool false)
        [AObj.cells
        [AV.sl 2 (Seq.map T.encEn ([], []) D) Tip.none, AV.sl 2 (Seq.map T.encIt ((0 : Int), []) W) (Tip.tok 1),
        AV.sl 1 (Seq.map T.encSn T.noEv S) (Tip.tok 2)],
        AObj.tok, AObj.tok,
        AObj.cells
        [AV.int IntKind.i64 (Prod.fst e), AV.sl 2 (Seq.map T.encN ([], []) (Prod.fst (Prod.snd e))) Tip.none, AV.int IntKind.i64 (Prod.fst (Prod.snd (Prod.snd e))),
        AV.int IntKind.i64 (Prod.fst (Prod.snd (Prod.snd (Prod.snd e)))),
        AV.sl 1 (Seq.map encB (0 : UInt8) (Prod.snd (Prod.snd (Prod.snd (Prod.snd e))))) Tip.none],
        AObj.cells
        [AV.int IntKind.i64 (Prod.fst f), AV.sl 2 (Seq.map T.encN ([], []) (Prod.fst (Prod.snd f))) Tip.none, AV.int IntKind.i64 (Prod.fst (Prod.snd (Prod.snd f))),
        AV.int IntKind.i64 (Prod.fst (Prod.snd (Prod.snd (Prod.snd f)))),
        AV.sl 1 (Seq.map encB (0 : UInt8) (Prod.snd (Prod.snd (Prod.snd (Prod.snd f))))) Tip.none],
        AObj.cells
        [AV.int IntKind.i64 (Prod.fst g), AV.sl 2 (Seq.map T.encN ([], []) (Prod.fst (Prod.snd g))) Tip.none, AV.int IntKind.i64 (Prod.fst (Prod.snd (Prod.snd g))),
        AV.int IntKind.i64 (Prod.fst (Prod.snd (Prod.snd (Prod.snd g)))),
        AV.sl 1 (Seq.map encB (0 : UInt8) (Prod.snd (Prod.snd (Prod.snd (Prod.snd g))))) Tip.none]]))
        (Post (AV.bool false)
        [AObj.cells
        [AV.sl 2 (Seq.map T.encEn ([], []) D) Tip.none, AV.sl 2 (Seq.map T.encIt ((0 : Int), []) W) (Tip.tok 1),
        AV.sl 1 (Seq.map T.encSn T.noEv S) (Tip.tok 2)],
        AObj.tok, AObj.tok,
        AObj.cells
        [AV.int IntKind.i64 (Prod.fst e), AV.sl 2 (Seq.map T.encN ([], []) (Prod.fst (Prod.snd e))) Tip.none, AV.int IntKind.i64 (Prod.fst (Prod.snd (Prod.snd e))),
        AV.int IntKind.i64 (Prod.fst (Prod.snd (Prod.snd (Prod.snd e)))), AV.sl 1 (Seq.map encB (0 : UInt8) (Prod.snd (Prod.snd (Prod.snd (Prod.snd e))))) Tip.none],
        AObj.cells
        [AV.int IntKind.i64 (Prod.fst f), AV.sl 2 (Seq.map T.encN ([], []) (Prod.fst (Prod.snd f))) Tip.none, AV.int IntKind.i64 (Prod.fst (Prod.snd (Prod.snd f))),
        AV.int IntKind.i64 (Prod.fst (Prod.snd (Prod.snd (Prod.snd f)))), AV.sl 1 (Seq.map encB (0 : UInt8) (Prod.snd (Prod.snd (Prod.snd (Prod.snd f))))) Tip.none],
        AObj.cells
        [AV.int IntKind.i64 (Prod.fst g), AV.sl 2 (Seq.map T.encN ([], []) (Prod.fst (Prod.snd g))) Tip.none, AV.int IntKind.i64 (Prod.fst (Prod.snd (Prod.snd g))),
        AV.int IntKind.i64 (Prod.fst (Prod.snd (Prod.snd (Prod.snd g)))), AV.sl 1 (Seq.map encB (0 : UInt8) (Prod.snd (Prod.snd (Prod.snd (Prod.snd g))))) Tip.none]]))
        (Post (AV.bool false)
        [AObj.cells
        [AV.sl 2 (Seq.map T.encEn ([], []) D) Tip.none, AV.sl 2 (Seq.map T.encIt ((0 : Int), []) W) (Tip.tok 1),
        AV.sl 1 (Seq.map T.encSn T.noEv S) (Tip.tok 2)],
        AObj.tok, AObj.tok,
        AObj.cells
        [AV.int IntKind.i64 (Prod.fst e), AV.sl 2 (Seq.map T.encN ([], []) (Prod.fst (Prod.snd e))) Tip.none, AV.int IntKind.i64 (Prod.fst (Prod.snd (Prod.snd e))),
        AV.int IntKind.i64 (Prod.fst (Prod.snd (Prod.snd (Prod.snd e)))), AV.sl 1 (Seq.map encB (0 : UInt8) (Prod.snd (Prod.snd (Prod.snd (Prod.snd e))))) Tip.none],
        AObj.cells
        [AV.int IntKind.i64 (Prod.fst f), AV.sl 2 (Seq.map T.encN ([], []) (Prod.fst (Prod.snd f))) Tip.none, AV.int IntKind.i64 (Prod.fst (Prod.snd (Prod.snd f))),
        AV.int IntKind.i64 (Prod.fst (Prod.snd (Prod.snd (Prod.snd f)))), AV.sl 1 (Seq.map encB (0 : UInt8) (Prod.snd (Prod.snd (Prod.snd (Prod.snd f))))) Tip.none],
        AObj.cells
        [AV.int IntKind.i64 (Prod.fst g), AV.sl 2 (Seq.map T.encN ([], []) (Prod.fst (Prod.snd g))) Tip.none, AV.int IntKind.i64 (Prod.fst (Prod.snd (Prod.snd g))),
        AV.int IntKind.i64 (Prod.fst (Prod.snd (Prod.snd (Prod.snd g)))), AV.sl 1 (Seq.map encB (0 : UInt8) (Prod.snd (Prod.snd (Prod.snd (Prod.snd g))))) Tip.none]]))
        (Post (AV.bool false)
        [AObj.cells
        [AV.sl 2 (Seq.map T.encEn ([], []) D) Tip.none, AV.sl 2 (Seq.map T.encIt ((0 : Int), []) W) (Tip.tok 1),
        AV.sl 1 (Seq.map T.encSn T.noEv S) (Tip.tok 2)],
        AObj.tok, AObj.tok,
        AObj.cells
        [AV.int IntKind.i64 (Prod.fst e), AV.sl 2 (Seq.map T.encN ([], []) (Prod.fst (Prod.snd e))) Tip.none, AV.int IntKind.i64 (Prod.fst (Prod.snd (Prod.snd e))),
        AV.int IntKind.i64 (Prod.fst (Prod.snd (Prod.snd (Prod.snd e)))), AV.sl 1 (Seq.map encB (0 : UInt8) (Prod.snd (Prod.snd (Prod.snd (Prod.snd e))))) Tip.none],
        AObj.cells
        [AV.int IntKind.i64 (Prod.fst f), AV.sl 2 (Seq.map T.encN ([], []) (Prod.fst (Prod.snd f))) Tip.none, AV.int IntKind.i64 (Prod.fst (Prod.snd (Prod.snd f))),
        AV.int IntKind.i64 (Prod.fst (Prod.snd (Prod.snd (Prod.snd f)))), AV.sl 1 (Seq.map encB (0 : UInt8) (Prod.snd (Prod.snd (Prod.snd (Prod.snd f))))) Tip.none],
        AObj.cells
        [AV.int IntKind.i64 (Prod.fst g), AV.sl 2 (Seq.map T.encN ([], []) (Prod.fst (Prod.snd g))) Tip.none, AV.int IntKind.i64 (Prod.fst (Prod.snd (Prod.snd g))),
        AV.int IntKind.i64 (Prod.fst (Prod.snd (Prod.snd (Prod.snd g)))), AV.sl 1 (Seq.map encB (0 : UInt8) (Prod.snd (Prod.snd (Prod.snd (Prod.snd g))))) Tip.none]]))
        (Post (AV.bool false)
        [AObj.cells
        [AV.sl 2 (Seq.map T.encEn ([], []) D) Tip.none, AV.sl 2 (Seq.map T.encIt ((0 : Int), []) W) (Tip.tok 1),
        AV.sl 1 (Seq.map T.encSn T.noEv S) (Tip.tok 2)],
        AObj.tok, AObj.tok,
        AObj.cells
        [AV.int IntKind.i64 (Prod.fst e), AV.sl 2 (Seq.map T.encN ([], []) (Prod.fst (Prod.snd e))) Tip.none, AV.int IntKind.i64 (Prod.fst (Prod.snd (Prod.snd e))),
        AV.int IntKind.i64 (Prod.fst (Prod.snd (Prod.snd (Prod.snd e)))), AV.sl 1 (Seq.map encB (0 : UInt8) (Prod.snd (Prod.snd (Prod.snd (Prod.snd e))))) Tip.none],
        AObj.cells
        [AV.int IntKind.i64 (Prod.fst f), AV.sl 2 (Seq.map T.encN ([], []) (Prod.fst (Prod.snd f))) Tip.none, AV.int IntKind.i64 (Prod.fst (Prod.snd (Prod.snd f))),
        AV.int IntKind.i64 (Prod.fst (Prod.snd (Prod.snd (Prod.snd f)))), AV.sl 1 (Seq.map encB (0 : UInt8) (Prod.snd (Prod.snd (Prod.snd (Prod.snd f))))) Tip.none],
        AObj.cells
        [AV.int IntKind.i64 (Prod.fst g), AV.sl 2 (Seq.map T.encN ([], []) (Prod.fst (Prod.snd g))) Tip.none, AV.int IntKind.i64 (Prod.fst (Prod.snd (Prod.snd g))),
        AV.int IntKind.i64 (Prod.fst (Prod.snd (Prod.snd (Prod.snd g)))), AV.sl 1 (Seq.map encB (0 : UInt8) (Prod.snd (Prod.snd (Prod.snd (Prod.snd g))))) Tip.none]]))
        (Post (AV.bool false)
        [AObj.cells
        [AV.sl 2 (Seq.map T.encEn ([], []) D) Tip.none, AV.sl 2 (Seq.map T.encIt ((0 : Int), []) W) (Tip.tok 1),
        AV.sl 1 (Seq.map T.encSn T.noEv S) (Tip.tok 2)],
        AObj.tok, AObj.tok,
        AObj.cells
        [AV.int IntKind.i64 (Prod.fst e), AV.sl 2 (Seq.map T.encN ([], []) (Prod.fst (Prod.snd e))) Tip.none, AV.int IntKind.i64 (Prod.fst (Prod.snd (Prod.snd e))),
        AV.int IntKind.i64 (Prod.fst (Prod.snd (Prod.snd (Prod.snd e)))), AV.sl 1 (Seq.map encB (0 : UInt8) (Prod.snd (Prod.snd (Prod.snd (Prod.snd e))))) Tip.none],
        AObj.cells
        [AV.int IntKind.i64 (Prod.fst f), AV.sl 2 (Seq.map T.encN ([], []) (Prod.fst (Prod.snd f))) Tip.none, AV.int IntKind.i64 (Prod.fst (Prod.snd (Prod.snd f))),
        AV.int IntKind.i64 (Prod.fst (Prod.snd (Prod.snd (Prod.snd f)))), AV.sl 1 (Seq.map encB (0 : UInt8) (Prod.snd (Prod.snd (Prod.snd (Prod.snd f))))) Tip.none],
        AObj.cells
        [AV.int IntKind.i64 (Prod.fst g), AV.sl 2 (Seq.map T.encN ([], []) (Prod.fst (Prod.snd g))) Tip.none, AV.int IntKind.i64 (Prod.fst (Prod.snd (Prod.snd g))),
        AV.int IntKind.i64 (Prod.fst (Prod.snd (Prod.snd (Prod.snd g)))), AV.sl 1 (Seq.map encB (0 : UInt8) (Prod.snd (Prod.snd (Prod.snd (Prod.snd g))))) Tip.none]]))
        (Post (AV.bool false)
        [AObj.cells
        [AV.sl 2 (Seq.map T.encEn ([], []) D) Tip.none, AV.sl 2 (Seq.map T.encIt ((0 : Int), []) W) (Tip.tok 1),
        AV.sl 1 (Seq.map T.encSn T.noEv S) (Tip.tok 2)],
        AObj.tok, AObj.tok,
        AObj.cells
        [AV.int IntKind.i64 (Prod.fst e), AV.sl 2 (Seq.map T.encN ([], []) (Prod.fst (Prod.snd e))) Tip.none, AV.int IntKind.i64 (Prod.fst (Prod.snd (Prod.snd e))),
        AV.int IntKind.i64 (Prod.fst (Prod.snd (Prod.snd (Prod.snd e)))), AV.sl 1 (Seq.map encB (0 : UInt8) (Prod.snd (Prod.snd (Prod.snd (Prod.snd e))))) Tip.none],
        AObj.cells
        [AV.int IntKind.i64 (Prod.fst f), AV.sl 2 (Seq.map T.encN ([], []) (Prod.fst (Prod.snd f))) Tip.none, AV.int IntKind.i64 (Prod.fst (Prod.snd (Prod.snd f))),
        AV.int IntKind.i64 (Prod.fst (Prod.snd (Prod.snd (Prod.snd f)))), AV.sl 1 (Seq.map encB (0 : UInt8) (Prod.snd (Prod.snd (Prod.snd (Prod.snd f))))) Tip.none],
        AObj.cells
        [AV.int IntKind.i64 (Prod.fst g), AV.sl 2 (Seq.map T.encN ([], []) (Prod.fst (Prod.snd g))) Tip.none, AV.int IntKind.i64 (Prod.fst (Prod.snd (Prod.snd g))),
        AV.int IntKind.i64 (Prod.fst (Prod.snd (Prod.snd (Prod.snd g)))), AV.sl 1 (Seq.map encB (0 : UInt8) (Prod.snd (Prod.snd (Prod.snd (Prod.snd g))))) Tip.none]]))
      (Post (AV.bool false)
        [AObj.cells
        [AV.sl 2 (Seq.map T.encEn ([], []) D) Tip.none, AV.sl 2 (Seq.map T.encIt ((0 : Int), []) W) (Tip.tok 1),
        AV.sl 1 (Seq.map T.encSn T.noEv S) (Tip.tok 2)],
        AObj.tok, AObj.tok,
        AObj.cells
        [AV.int IntKind.i64 (Prod.fst e), AV.sl 2 (Seq.map T.encN ([], []) (Prod.fst (Prod.snd e))) Tip.none, AV.int IntKind.i64 (Prod.fst (Prod.snd (Prod.snd e))),
        AV.int IntKind.i64 (Prod.fst (Prod.snd (Prod.snd (Prod.snd e)))), AV.sl 1 (Seq.map encB (0 : UInt8) (Prod.snd (Prod.snd (Prod.snd (Prod.snd e))))) Tip.none],
        AObj.cells
        [AV.int IntKind.i64 (Prod.fst f), AV.sl 2 (Seq.map T.encN ([], []) (Prod.fst (Prod.snd f))) Tip.none, AV.int IntKind.i64 (Prod.fst (Prod.snd (Prod.snd f))),
        AV.int IntKind.i64 (Prod.fst (Prod.snd (Prod.snd (Prod.snd f)))), AV.sl 1 (Seq.map encB (0 : UInt8) (Prod.snd (Prod.snd (Prod.snd (Prod.snd f))))) Tip.none],
        AObj.cells
        [AV.int IntKind.i64 (Prod.fst g), AV.sl 2 (Seq.map T.encN ([], []) (Prod.fst (Prod.snd g))) Tip.none, AV.int IntKind.i64 (Prod.fst (Prod.snd (Prod.snd g))),
        AV.int IntKind.i64 (Prod.fst (Prod.snd (Prod.snd (Prod.snd g)))), AV.sl 1 (Seq.map encB (0 : UInt8) (Prod.snd (Prod.snd (Prod.snd (Prod.snd g))))) Tip.none]]) →
    AWP Try.prog 137 n c5_10
      [(0, AV.sl 2 (Seq.map T.encEn ([], []) l) Tip.none), (1, AV.str s), (7, AV.ptr 0 0), (8, AV.int IntKind.i64 m),
        (9, AV.ptr 3 0), (10, AV.bool c), (11, AV.ptr 4 0), (12, AV.bool d), (13, AV.str w), (14, AV.str bo),
        (15, AV.int IntKind.i64 er), (18, AV.int IntKind.i64 er2), (19, AV.ptr 5 0), (20, AV.bool h)]
      (T.HS D W S ++ [AObj.cells (T.encE e), AObj.cells (T.encE f), AObj.cells (T.encE g)]) (q5_0 n Post) := fun l s D W S m e c f d w bo er er2 g h n Post h => Go.Ab.awp_sound g5 n _ _ _ _ (Go.Ab.kc (by kernel_rfl) h)

end
end Sd
end

section
/- Printed: what the code of functions 323, 262, 169, 42, 44 asks for, by the framework's own reading of it; each line is checked against the code. -/

set_option linter.unusedVariables false
set_option maxRecDepth 100000
set_option maxHeartbeats 4000000
open Go Go.Ab Go.Proofs
namespace Sb
noncomputable section

noncomputable def retB : List (Nat × Ret) := [(323, ⟨List UInt8, fun _ H x => .msl 1 H.length 0 x.length, fun _ H x => H ++ [.arr 1 (.map encB 0 x)]⟩), (262, ⟨List UInt8, fun _ H x => .msl 1 H.length 0 x.length, fun _ H x => H ++ [.arr 1 (.map encB 0 x)]⟩), (169, ⟨List UInt8, fun _ H x => .msl 1 H.length 0 x.length, fun _ H x => H ++ [.arr 1 (.map encB 0 x)]⟩)]
noncomputable def rets : FuncId → List Ret := fun f => match lookupR retB f with
  | [] => Sd.rets f
  | l => l

-- 323
noncomputable def l323 : Nat → List Nat
  | _ => []
noncomputable def u323 : Nat → Bool
  | _ => false
noncomputable def m323 : Nat → Bool
  | 10 => true
  | _ => false
noncomputable def g323 : Cfg := { N := 28, live := l323, cut := u323, mu := m323, ret := rets }
noncomputable def c323 : Go.Code := Go.Ab.bodyOf Go.Proofs.Try.f323
theorem s323 : ∀ (bs : List UInt8) (Post : AV → List AObj → Prop),
  (ASpec Try.prog 372 [AV.sl 1 (Seq.map encB (0 : UInt8) bs) Tip.none] [] fun (r : AV) (H' : List AObj) =>
      ∃ (x : Int),
        r = AV.int IntKind.u32 x ∧
        H' = [] ∧
        needP
        ((0 : Int) ≤ (0 : Int) ∧
        (0 : Int) ≤ IntKind.wrap IntKind.i64 ((↑(List.length bs) : Int) + (4 : Int)) ∧
        IntKind.wrap IntKind.i64 ((↑(List.length bs) : Int) + (4 : Int)) ≤ (9223372036854775807 : Int) ∧
        (1 : Int) * IntKind.wrap IntKind.i64 ((↑(List.length bs) : Int) + (4 : Int)) ≤ (281474976710656 : Int))
        (needP (∀ (x : UInt8), List.all (encB x) oneAV = true)
        (needP (0 = 0 ∧ (0 + List.length bs) * 1 ≤ 140737488351232)
        (needP ((0 : Int) ≤ (24 : Int))
        (needP ((0 : Int) ≤ (16 : Int))
        (needP ((0 : Int) ≤ (8 : Int))
        (needP (0 + List.length bs = 0 + List.length bs ∧ (0 + List.length bs + 4) * 1 ≤ 140737488351232)
        (Post (AV.msl 1 2 0 (0 + List.length bs + 4))
        [AObj.gone, AObj.gone,
        AObj.arr 1
        (Seq.app (Seq.app (Seq.raw []) (Seq.map encB (0 : UInt8) bs))
        (Seq.raw
        [[AV.int IntKind.u8 (IntKind.wrap IntKind.u8 (Int.fdiv x (16777216 : Int)))], [AV.int IntKind.u8 (IntKind.wrap IntKind.u8 (Int.fdiv x (65536 : Int)))],
        [AV.int IntKind.u8 (IntKind.wrap IntKind.u8 (Int.fdiv x (256 : Int)))], [AV.int IntKind.u8 (IntKind.wrap IntKind.u8 x)]]))])))))))) →
    ASpec Try.prog 323 [AV.sl 1 (Seq.map encB (0 : UInt8) bs) Tip.none] [] Post := fun bs Post h => Go.Ab.ASpec.of_vc g323 Go.Proofs.Try.func323 (by kernel_rfl) (by kernel_rfl) (by kernel_rfl) (Go.Ab.kc (by kernel_rfl) h)

-- 262
noncomputable def l262 : Nat → List Nat
  | _ => []
noncomputable def u262 : Nat → Bool
  | _ => false
noncomputable def m262 : Nat → Bool
  | _ => false
noncomputable def g262 : Cfg := { N := 19, live := l262, cut := u262, mu := m262, ret := rets }
noncomputable def c262 : Go.Code := Go.Ab.bodyOf Go.Proofs.Try.f262
theorem s262 : ∀ (s : ByteArray) (bs : List UInt8) (Post : AV → List AObj → Prop),
  (ASpec Try.prog 154 [AV.str s] [] fun (r : AV) (H' : List AObj) =>
      ∃ (x : Bool),
        r = AV.bool x ∧
        H' = [] ∧
        condP (!x) (Post (AV.sl 0 (Seq.raw []) Tip.nil) [])
        (condP (decide ((↑(List.length bs) : Int) > (8192 : Int))) (Post (AV.sl 0 (Seq.raw []) Tip.nil) [])
        (needP (allBytes (Seq.map encB (0 : UInt8) bs))
        (ASpec Try.prog 141 [AV.sl 0 (Seq.raw []) Tip.nil, AV.str s] [] fun (r : AV) (H' : List AObj) =>
        ∃ (x : List UInt8),
        r = AV.sl 1 (Seq.map encB (0 : UInt8) x) (Tip.tok 0) ∧
        H' = [AObj.tok] ∧
        ASpec Try.prog 141 [AV.sl 1 (Seq.map encB (0 : UInt8) x) (Tip.tok 0), AV.str (bytesOf (Seq.map encB (0 : UInt8) bs))] [AObj.tok]
        fun (r : AV) (H' : List AObj) =>
        ∃ (x : List UInt8),
        r = AV.sl 1 (Seq.map encB (0 : UInt8) x) (Tip.tok 1) ∧
        H' = [AObj.tok, AObj.tok] ∧
        ASpec Try.prog 323 [AV.sl 1 (Seq.map encB (0 : UInt8) x) (Tip.tok 1)] [AObj.tok, AObj.tok] fun (r : AV) (H' : List AObj) =>
        ∃ (x : List UInt8),
        r = AV.msl 1 2 0 (List.length x) ∧
        H' = [AObj.tok, AObj.tok, AObj.arr 1 (Seq.map encB (0 : UInt8) x)] ∧
        Post (AV.msl 1 2 0 (List.length x)) [AObj.tok, AObj.tok, AObj.arr 1 (Seq.map encB (0 : UInt8) x)])))) →
    ASpec Try.prog 262 [AV.str s, AV.sl 1 (Seq.map encB (0 : UInt8) bs) Tip.none] [] Post := fun s bs Post h => Go.Ab.ASpec.of_vc g262 Go.Proofs.Try.func262 (by kernel_rfl) (by kernel_rfl) (by kernel_rfl) (Go.Ab.kc (by kernel_rfl) h)

-- 169
noncomputable def l169 : Nat → List Nat
  | _ => []
noncomputable def u169 : Nat → Bool
  | _ => false
noncomputable def m169 : Nat → Bool
  | _ => false
noncomputable def g169 : Cfg := { N := 22, live := l169, cut := u169, mu := m169, ret := rets }
noncomputable def c169 : Go.Code := Go.Ab.bodyOf Go.Proofs.Try.f169
theorem s169 : ∀ (D : List T.Ent) (W : List T.Item) (S : List T.Ev) (k : Int) (Post : AV → List AObj → Prop),
  needP ((0 : Int) ≤ k ∧ k < (↑(List.length W) : Int))
      (ASpec Try.prog 61 [AV.sl 2 (Seq.map T.encEn ([], []) D) Tip.none, AV.str { data := List.toArray (Prod.snd (List.getD W (Int.toNat k) ((0 : Int), []))) }]
        [AObj.cells
        [AV.sl 2 (Seq.map T.encEn ([], []) D) Tip.none, AV.sl 2 (Seq.map T.encIt ((0 : Int), []) W) (Tip.tok 1),
        AV.sl 1 (Seq.map T.encSn T.noEv S) (Tip.tok 2)],
        AObj.tok, AObj.tok]
        fun (r : AV) (H' : List AObj) =>
        ∃ (x : List UInt8),
        r = AV.sl 1 (Seq.map encB (0 : UInt8) x) Tip.none ∧
        H' =
        [AObj.cells
        [AV.sl 2 (Seq.map T.encEn ([], []) D) Tip.none, AV.sl 2 (Seq.map T.encIt ((0 : Int), []) W) (Tip.tok 1),
        AV.sl 1 (Seq.map T.encSn T.noEv S) (Tip.tok 2)],
        AObj.tok, AObj.tok] ∧
        ASpec Try.prog 262 [AV.str { data := List.toArray (Prod.snd (List.getD W (Int.toNat k) ((0 : Int), []))) }, AV.sl 1 (Seq.map encB (0 : UInt8) x) Tip.none]
        [AObj.cells
        [AV.sl 2 (Seq.map T.encEn ([], []) D) Tip.none, AV.sl 2 (Seq.map T.encIt ((0 : Int), []) W) (Tip.tok 1),
        AV.sl 1 (Seq.map T.encSn T.noEv S) (Tip.tok 2)],
        AObj.tok, AObj.tok]
        fun (r : AV) (H' : List AObj) =>
        ∃ (x : List UInt8),
        r = AV.msl 1 3 0 (List.length x) ∧
        H' =
        [AObj.cells
        [AV.sl 2 (Seq.map T.encEn ([], []) D) Tip.none, AV.sl 2 (Seq.map T.encIt ((0 : Int), []) W) (Tip.tok 1),
        AV.sl 1 (Seq.map T.encSn T.noEv S) (Tip.tok 2)],
        AObj.tok, AObj.tok, AObj.arr 1 (Seq.map encB (0 : UInt8) x)] ∧
        Post (AV.msl 1 3 0 (List.length x))
        [AObj.cells
        [AV.sl 2 (Seq.map T.encEn ([], []) D) Tip.none, AV.sl 2 (Seq.map T.encIt ((0 : Int), []) W) (Tip.tok 1),
        AV.sl 1 (Seq.map T.encSn T.noEv S) (Tip.tok 2)],
        AObj.tok, AObj.tok, AObj.arr 1 (Seq.map encB (0 : UInt8) x)]) →
    ASpec Try.prog 169 [AV.ptr 0 0, AV.int IntKind.i64 k] (T.HS D W S) Post := fun D W S k Post h => Go.Ab.ASpec.of_vc g169 Go.Proofs.Try.func169 (by kernel_rfl) (by kernel_rfl) (by kernel_rfl) (Go.Ab.kc (by kernel_rfl) h)

-- 42
noncomputable def l42 : Nat → List Nat
  | 3 => [0, 5, 8, 9, 10]
  | _ => []
noncomputable def u42 : Nat → Bool
  | _ => false
noncomputable def m42 : Nat → Bool
  | _ => false
noncomputable def g42 : Cfg := { N := 39, live := l42, cut := u42, mu := m42, ret := rets }
noncomputable def c42 : Go.Code := Go.Ab.bodyOf Go.Proofs.Try.f42
noncomputable def q42_0 : Nat → (AV → List AObj → Prop) → AQ := fun (n : Nat) (Post : AV → List AObj → Prop) => endQ Try.prog (resultsOf Try.f42) Post
noncomputable def q42_1 : Nat → (AV → List AObj → Prop) → AQ := fun (n : Nat) (Post : AV → List AObj → Prop) => seqQ (fun (s' : Slots) (H' : List AObj) => awp Try.prog g42 n (codeSnd (codeSnd (codeSnd c42))) s' H' (q42_0 n Post)) (q42_0 n Post)
noncomputable def q42_2 : Nat → (AV → List AObj → Prop) → AQ := fun (n : Nat) (Post : AV → List AObj → Prop) => blockQ 0 (q42_1 n Post)
noncomputable def c42_3 : Go.Code := codeFst (codeSnd (codeFst (codeSnd (codeSnd c42))))
theorem s42 : ∀ (D : List T.Ent) (W : List T.Item) (S : List T.Ev) (l : List T.Ac) (Post : AV → List AObj → Prop),
  AWP Try.prog 39 3 c42_3
      [(0, AV.ptr 0 0), (5, AV.int IntKind.i64 (0 : Int)), (8, AV.sl 7 (Seq.map T.encA ((0 : Int), (0 : Int), []) l) Tip.none),
        (9, AV.int IntKind.i64 (↑(List.length l) : Int)), (10, AV.int IntKind.i64 (0 : Int))]
      [AObj.cells
        [AV.sl 2 (Seq.map T.encEn ([], []) D) Tip.none, AV.sl 2 (Seq.map T.encIt ((0 : Int), []) W) (Tip.tok 1),
        AV.sl 1 (Seq.map T.encSn T.noEv S) (Tip.tok 2)],
        AObj.tok, AObj.tok]
      (q42_2 3 Post) →
    ASpec Try.prog 42 [AV.ptr 0 0, AV.sl 7 (Seq.map T.encA ((0 : Int), (0 : Int), []) l) Tip.none] (T.HS D W S) Post := fun D W S l Post h => Go.Ab.ASpec.of_vc g42 Go.Proofs.Try.func42 (by kernel_rfl) (by kernel_rfl) (by kernel_rfl) (Go.Ab.kc (by kernel_rfl) h)
theorem v42_3 : ∀ (D : List T.Ent) (W : List T.Item) (S : List T.Ev) (l : List T.Ac) (m n i : Int) (n_1 : Nat) (Post : AV → List AObj → Prop),
  condP (decide (i < n))
      (needP ((0 : Int) ≤ i ∧ i < (↑(List.length l) : Int))
        (condP (Prod.fst (List.getD l (Int.toNat i) ((0 : Int), (0 : Int), [])) == (1 : Int))
        (needP ((List.length W + 1) * 24 ≤ 140737488351232)
        (AWP Try.prog 39 n_1 c42_3
        [(0, AV.ptr 0 0), (5, AV.int IntKind.i64 (IntKind.wrap IntKind.i64 (m + (1 : Int)))),
        (8, AV.sl 7 (Seq.map T.encA ((0 : Int), (0 : Int), []) l) Tip.none), (9, AV.int IntKind.i64 n),
        (10, AV.int IntKind.i64 (IntKind.wrap IntKind.i64 (i + (1 : Int))))]
        [AObj.cells
        [AV.sl 2 (Seq.map T.encEn ([], []) D) Tip.none,
        AV.sl 2
        (Seq.app (Seq.map T.encIt ((0 : Int), []) W)
        (Seq.raw
        [[AV.int IntKind.i64 (Prod.fst (Prod.snd (List.getD l (Int.toNat i) ((0 : Int), (0 : Int), [])))),
        AV.str { data := List.toArray (Prod.snd (Prod.snd (List.getD l (Int.toNat i) ((0 : Int), (0 : Int), [])))) }]]))
        (Tip.tok 5),
        AV.sl 1 (Seq.map T.encSn T.noEv S) (Tip.tok 2)],
        AObj.gone, AObj.tok, AObj.gone,
        AObj.cells
        [AV.int IntKind.i64 (Prod.fst (List.getD l (Int.toNat i) ((0 : Int), (0 : Int), []))),
        AV.int IntKind.i64 (Prod.fst (Prod.snd (List.getD l (Int.toNat i) ((0 : Int), (0 : Int), [])))),
        AV.str { data := List.toArray (Prod.snd (Prod.snd (List.getD l (Int.toNat i) ((0 : Int), (0 : Int), [])))) }, AV.int IntKind.i64 (0 : Int), AV.int IntKind.i64 (0 : Int),
        AV.sl 0 (Seq.raw []) Tip.nil, AV.sl 0 (Seq.raw []) Tip.nil],
        AObj.tok]
        (q42_2 n_1 Post)))
        (AWP Try.prog 39 n_1 c42_3
        [(0, AV.ptr 0 0), (5, AV.int IntKind.i64 m), (8, AV.sl 7 (Seq.map T.encA ((0 : Int), (0 : Int), []) l) Tip.none),
        (9, AV.int IntKind.i64 n), (10, AV.int IntKind.i64 (IntKind.wrap IntKind.i64 (i + (1 : Int))))]
        [AObj.cells
        [AV.sl 2 (Seq.map T.encEn ([], []) D) Tip.none, AV.sl 2 (Seq.map T.encIt ((0 : Int), []) W) (Tip.tok 3),
        AV.sl 1 (Seq.map T.encSn T.noEv S) (Tip.tok 2)],
        AObj.gone, AObj.tok, AObj.tok,
        AObj.cells
        [AV.int IntKind.i64 (Prod.fst (List.getD l (Int.toNat i) ((0 : Int), (0 : Int), []))), AV.int IntKind.i64 (Prod.fst (Prod.snd (List.getD l (Int.toNat i) ((0 : Int), (0 : Int), [])))),
        AV.str { data := List.toArray (Prod.snd (Prod.snd (List.getD l (Int.toNat i) ((0 : Int), (0 : Int), [])))) }, AV.int IntKind.i64 (0 : Int), AV.int IntKind.i64 (0 : Int),
        AV.sl 0 (Seq.raw []) Tip.nil, AV.sl 0 (Seq.raw []) Tip.nil]]
        (q42_2 n_1 Post))))
      (Post (AV.int IntKind.i64 m)
        [AObj.cells
        [AV.sl 2 (Seq.map T.encEn ([], []) D) Tip.none, AV.sl 2 (Seq.map T.encIt ((0 : Int), []) W) (Tip.tok 3),
        AV.sl 1 (Seq.map T.encSn T.noEv S) (Tip.tok 2)],
        AObj.gone, AObj.tok, AObj.tok]) →
    AWP Try.prog 39 n_1 c42_3
      [(0, AV.ptr 0 0), (5, AV.int IntKind.i64 m), (8, AV.sl 7 (Seq.map T.encA ((0 : Int), (0 : Int), []) l) Tip.none),
        (9, AV.int IntKind.i64 n), (10, AV.int IntKind.i64 i)]
      (T.HS2 D W S) (q42_2 n_1 Post) := fun D W S l m n i n Post h => Go.Ab.AWP.loop' g42 (Cfg.live g42) c42_3 (by kernel_rfl) (by kernel_rfl) (Go.Ab.kc (by kernel_rfl) h)

-- 44
noncomputable def l44 : Nat → List Nat
  | 6 => [0, 1, 8, 10]
  | _ => []
noncomputable def u44 : Nat → Bool
  | 6 => true
  | _ => false
noncomputable def m44 : Nat → Bool
  | _ => false
noncomputable def g44 : Cfg := { N := 40, live := l44, cut := u44, mu := m44, ret := rets }
noncomputable def c44 : Go.Code := Go.Ab.bodyOf Go.Proofs.Try.f44
noncomputable def q44_0 : Nat → (AV → List AObj → Prop) → AQ := fun (n : Nat) (Post : AV → List AObj → Prop) => endQ Try.prog (resultsOf Try.f44) Post
noncomputable def c44_6 : Go.Code := codeSnd (codeSnd (codeSnd (codeSnd c44)))
theorem s44 : ∀ (D : List T.Ent) (W : List T.Item) (S : List T.Ev) (k a y : Int) (Post : AV → List AObj → Prop),
  (ASpec Try.prog 167 [AV.ptr 0 0, AV.int IntKind.i64 k]
      [AObj.cells
        [AV.sl 2 (Seq.map T.encEn ([], []) D) Tip.none, AV.sl 2 (Seq.map T.encIt ((0 : Int), []) W) (Tip.tok 1),
        AV.sl 1 (Seq.map T.encSn T.noEv S) (Tip.tok 2)],
        AObj.tok, AObj.tok,
        AObj.cells [AV.int IntKind.i64 (0 : Int), AV.sl 0 (Seq.raw []) Tip.nil, AV.int IntKind.i64 (0 : Int), AV.int IntKind.i64 (0 : Int), AV.sl 0 (Seq.raw []) Tip.nil]]
      fun (r : AV) (H' : List AObj) =>
      ∃ (x : Bool),
        r = AV.bool x ∧
        H' =
        [AObj.cells
        [AV.sl 2 (Seq.map T.encEn ([], []) D) Tip.none, AV.sl 2 (Seq.map T.encIt ((0 : Int), []) W) (Tip.tok 1),
        AV.sl 1 (Seq.map T.encSn T.noEv S) (Tip.tok 2)],
        AObj.tok, AObj.tok,
        AObj.cells [AV.int IntKind.i64 (0 : Int), AV.sl 0 (Seq.raw []) Tip.nil, AV.int IntKind.i64 (0 : Int), AV.int IntKind.i64 (0 : Int), AV.sl 0 (Seq.raw []) Tip.nil]] ∧
        condP (!x)
        (Post
        (AV.tup
        [AV.agg [AV.int IntKind.i64 (0 : Int), AV.sl 0 (Seq.raw []) Tip.nil, AV.int IntKind.i64 (0 : Int), AV.int IntKind.i64 (0 : Int), AV.sl 0 (Seq.raw []) Tip.nil],
        AV.bool false])
        [AObj.cells
        [AV.sl 2 (Seq.map T.encEn ([], []) D) Tip.none, AV.sl 2 (Seq.map T.encIt ((0 : Int), []) W) (Tip.tok 1),
        AV.sl 1 (Seq.map T.encSn T.noEv S) (Tip.tok 2)],
        AObj.tok, AObj.tok,
        AObj.cells [AV.int IntKind.i64 (0 : Int), AV.sl 0 (Seq.raw []) Tip.nil, AV.int IntKind.i64 (0 : Int), AV.int IntKind.i64 (0 : Int), AV.sl 0 (Seq.raw []) Tip.nil]])
        (ASpec Try.prog 169 [AV.ptr 0 0, AV.int IntKind.i64 k]
        [AObj.cells
        [AV.sl 2 (Seq.map T.encEn ([], []) D) Tip.none, AV.sl 2 (Seq.map T.encIt ((0 : Int), []) W) (Tip.tok 1),
        AV.sl 1 (Seq.map T.encSn T.noEv S) (Tip.tok 2)],
        AObj.tok, AObj.tok,
        AObj.cells [AV.int IntKind.i64 (0 : Int), AV.sl 0 (Seq.raw []) Tip.nil, AV.int IntKind.i64 (0 : Int), AV.int IntKind.i64 (0 : Int), AV.sl 0 (Seq.raw []) Tip.nil]]
        fun (r : AV) (H' : List AObj) =>
        ∃ (x_1 : List UInt8),
        r = AV.msl 1 4 0 (List.length x_1) ∧
        H' =
        [AObj.cells
        [AV.sl 2 (Seq.map T.encEn ([], []) D) Tip.none, AV.sl 2 (Seq.map T.encIt ((0 : Int), []) W) (Tip.tok 1),
        AV.sl 1 (Seq.map T.encSn T.noEv S) (Tip.tok 2)],
        AObj.tok, AObj.tok,
        AObj.cells
        [AV.int IntKind.i64 (0 : Int), AV.sl 0 (Seq.raw []) Tip.nil, AV.int IntKind.i64 (0 : Int), AV.int IntKind.i64 (0 : Int), AV.sl 0 (Seq.raw []) Tip.nil],
        AObj.arr 1 (Seq.map encB (0 : UInt8) x_1)] ∧
        condP (decide ((↑(List.length x_1) : Int) > (0 : Int)))
        (needP ((↑(List.length x_1) : Int) ≠ (0 : Int))
        (needP
        ((0 : Int) ≤ Int.tmod (if (0 : Int) > a then (0 : Int) else a) (↑(List.length x_1) : Int) ∧
        Int.tmod (if (0 : Int) > a then (0 : Int) else a) (↑(List.length x_1) : Int) < (↑(List.length x_1) : Int))
        (needP (0 + Int.toNat (Int.tmod (if (0 : Int) > a then (0 : Int) else a) (↑(List.length x_1) : Int)) < List.length x_1)
        (needP
        ((0 : Int) ≤ Int.tmod (if (0 : Int) > a then (0 : Int) else a) (↑(List.length x_1) : Int) ∧
        Int.tmod (if (0 : Int) > a then (0 : Int) else a) (↑(List.length x_1) : Int) < (↑(List.length x_1) : Int))
        (needP (0 + Int.toNat (Int.tmod (if (0 : Int) > a then (0 : Int) else a) (↑(List.length x_1) : Int)) < List.length x_1)
        (AWP Try.prog 40 3 c44_6
        [(0, AV.ptr 0 0), (1, AV.int IntKind.i64 k), (8, AV.ptr 3 0),
        (10, AV.msl 1 4 0 (List.length x_1))]
        [AObj.cells
        [AV.sl 2 (Seq.map T.encEn ([], []) D) Tip.none, AV.sl 2 (Seq.map T.encIt ((0 : Int), []) W) (Tip.tok 1),
        AV.sl 1 (Seq.map T.encSn T.noEv S) (Tip.tok 2)],
        AObj.tok, AObj.tok,
        AObj.cells
        [AV.int IntKind.i64 (0 : Int), AV.sl 0 (Seq.raw []) Tip.nil, AV.int IntKind.i64 (0 : Int), AV.int IntKind.i64 (0 : Int),
        AV.sl 0 (Seq.raw []) Tip.nil],
        AObj.arr 1
        (Seq.raw
        (List.set (Seq.toList (Seq.map encB (0 : UInt8) x_1)) (0 + Int.toNat (Int.tmod (if (0 : Int) > a then (0 : Int) else a) (↑(List.length x_1) : Int)))
        (splice (encB (List.getD x_1 (0 + Int.toNat (Int.tmod (if (0 : Int) > a then (0 : Int) else a) (↑(List.length x_1) : Int))) (0 : UInt8))) 0
        [ev
        [(33,
        AV.mptr 1 4 (0 + Int.toNat (Int.tmod (if (0 : Int) > a then (0 : Int) else a) (↑(List.length x_1) : Int))) 0),
        (32,
        AV.int IntKind.u8
        (IntKind.wrap IntKind.u8
        ((↑(UInt8.toNat
        (List.getD x_1 (0 + Int.toNat (Int.tmod (if (0 : Int) > a then (0 : Int) else a) (↑(List.length x_1) : Int))) (0 : UInt8))) :
        Int) +
        if (1 : Int) > y then (1 : Int) else y))),
        (31, AV.int IntKind.u8 (if (1 : Int) > y then (1 : Int) else y)), (30, AV.int IntKind.u8 y),
        (29,
        AV.int IntKind.u8
        (↑(UInt8.toNat
        (List.getD x_1 (0 + Int.toNat (Int.tmod (if (0 : Int) > a then (0 : Int) else a) (↑(List.length x_1) : Int))) (0 : UInt8))) :
        Int)),
        (28,
        AV.mptr 1 4 (0 + Int.toNat (Int.tmod (if (0 : Int) > a then (0 : Int) else a) (↑(List.length x_1) : Int))) 0),
        (27, AV.int IntKind.i64 (Int.tmod (if (0 : Int) > a then (0 : Int) else a) (↑(List.length x_1) : Int))),
        (26, AV.int IntKind.i64 (↑(List.length x_1) : Int)), (25, AV.msl 1 4 0 (List.length x_1)),
        (24, AV.int IntKind.i64 (if (0 : Int) > a then (0 : Int) else a)), (23, AV.int IntKind.i64 a),
        (22, AV.msl 1 4 0 (List.length x_1)), (21, AV.bool (decide ((↑(List.length x_1) : Int) > (0 : Int)))),
        (20, AV.int IntKind.i64 (↑(List.length x_1) : Int)), (19, AV.msl 1 4 0 (List.length x_1)),
        (10, AV.msl 1 4 0 (List.length x_1)), (18, AV.msl 1 4 0 (List.length x_1)),
        (17, AV.int IntKind.i64 k), (16, AV.ptr 0 0), (14, AV.bool !x), (13, AV.bool x),
        (12, AV.int IntKind.i64 k), (11, AV.ptr 0 0), (9, AV.bool false), (8, AV.ptr 3 0),
        (0, AV.ptr 0 0), (1, AV.int IntKind.i64 k), (2, AV.int IntKind.i64 a), (3, AV.int IntKind.u8 y)]
        (Operand.tmp 32)])))]
        (q44_0 3 Post)))))))
        (AWP Try.prog 40 3 c44_6
        [(0, AV.ptr 0 0), (1, AV.int IntKind.i64 k), (8, AV.ptr 3 0),
        (10, AV.msl 1 4 0 (List.length x_1))]
        [AObj.cells
        [AV.sl 2 (Seq.map T.encEn ([], []) D) Tip.none, AV.sl 2 (Seq.map T.encIt ((0 : Int), []) W) (Tip.tok 1),
        AV.sl 1 (Seq.map T.encSn T.noEv S) (Tip.tok 2)],
        AObj.tok, AObj.tok,
        AObj.cells
        [AV.int IntKind.i64 (0 : Int), AV.sl 0 (Seq.raw []) Tip.nil, AV.int IntKind.i64 (0 : Int), AV.int IntKind.i64 (0 : Int), AV.sl 0 (Seq.raw []) Tip.nil],
        AObj.arr 1 (Seq.map encB (0 : UInt8) x_1)]
        (q44_0 3 Post)))) →
    ASpec Try.prog 44 [AV.ptr 0 0, AV.int IntKind.i64 k, AV.int IntKind.i64 a, AV.int IntKind.u8 y] (T.HS D W S) Post := fun D W S k a y Post h => Go.Ab.ASpec.of_vc g44 Go.Proofs.Try.func44 (by kernel_rfl) (by kernel_rfl) (by kernel_rfl) (Go.Ab.kc (by kernel_rfl) h)
theorem v44_6 : ∀ (D : List T.Ent) (W : List T.Item) (S : List T.Ev) (k : Int) (b : List UInt8) (n : Nat) (Post : AV → List AObj → Prop),
  (ASpec Try.prog 168 [AV.ptr 0 0, AV.int IntKind.i64 k, AV.sl 1 (Seq.map encB (0 : UInt8) b) Tip.none]
      [AObj.cells
        [AV.sl 2 (Seq.map T.encEn ([], []) D) Tip.none, AV.sl 2 (Seq.map T.encIt ((0 : Int), []) W) (Tip.tok 1),
        AV.sl 1 (Seq.map T.encSn T.noEv S) (Tip.tok 2)],
        AObj.tok, AObj.tok,
        AObj.cells [AV.int IntKind.i64 (0 : Int), AV.sl 0 (Seq.raw []) Tip.nil, AV.int IntKind.i64 (0 : Int), AV.int IntKind.i64 (0 : Int), AV.sl 0 (Seq.raw []) Tip.nil]]
      fun (r : AV) (H' : List AObj) =>
      ∃ (x : T.Ev × Bool × List T.Item × List T.Ev),
        r =
        AV.tup
        [AV.agg
        [AV.int IntKind.i64 (Prod.fst (Prod.fst x)), AV.sl 2 (Seq.map T.encN ([], []) (Prod.fst (Prod.snd (Prod.fst x)))) Tip.none,
        AV.int IntKind.i64 (Prod.fst (Prod.snd (Prod.snd (Prod.fst x)))), AV.int IntKind.i64 (Prod.fst (Prod.snd (Prod.snd (Prod.snd (Prod.fst x))))),
        AV.sl 1 (Seq.map encB (0 : UInt8) (Prod.snd (Prod.snd (Prod.snd (Prod.snd (Prod.fst x)))))) Tip.none],
        AV.bool (Prod.fst (Prod.snd x))] ∧
        H' =
        [AObj.cells
        [AV.sl 2 (Seq.map T.encEn ([], []) D) Tip.none, AV.sl 2 (Seq.map T.encIt ((0 : Int), []) (Prod.fst (Prod.snd (Prod.snd x)))) (Tip.tok 4),
        AV.sl 1 (Seq.map T.encSn T.noEv (Prod.snd (Prod.snd (Prod.snd x)))) (Tip.tok 5)],
        AObj.gone, AObj.gone,
        AObj.cells [AV.int IntKind.i64 (0 : Int), AV.sl 0 (Seq.raw []) Tip.nil, AV.int IntKind.i64 (0 : Int), AV.int IntKind.i64 (0 : Int), AV.sl 0 (Seq.raw []) Tip.nil],
        AObj.tok, AObj.tok] ∧
        Post
        (AV.tup
        [AV.agg
        [AV.int IntKind.i64 (Prod.fst (Prod.fst x)), AV.sl 2 (Seq.map T.encN ([], []) (Prod.fst (Prod.snd (Prod.fst x)))) Tip.none,
        AV.int IntKind.i64 (Prod.fst (Prod.snd (Prod.snd (Prod.fst x)))), AV.int IntKind.i64 (Prod.fst (Prod.snd (Prod.snd (Prod.snd (Prod.fst x))))),
        AV.sl 1 (Seq.map encB (0 : UInt8) (Prod.snd (Prod.snd (Prod.snd (Prod.snd (Prod.fst x)))))) Tip.none],
        AV.bool (Prod.fst (Prod.snd x))])
        [AObj.cells
        [AV.sl 2 (Seq.map T.encEn ([], []) D) Tip.none, AV.sl 2 (Seq.map T.encIt ((0 : Int), []) (Prod.fst (Prod.snd (Prod.snd x)))) (Tip.tok 4),
        AV.sl 1 (Seq.map T.encSn T.noEv (Prod.snd (Prod.snd (Prod.snd x)))) (Tip.tok 5)],
        AObj.gone, AObj.gone,
        AObj.cells
        [AV.int IntKind.i64 (Prod.fst (Prod.fst x)), AV.sl 2 (Seq.map T.encN ([], []) (Prod.fst (Prod.snd (Prod.fst x)))) Tip.none,
        AV.int IntKind.i64 (Prod.fst (Prod.snd (Prod.snd (Prod.fst x)))), AV.int IntKind.i64 (Prod.fst (Prod.snd (Prod.snd (Prod.snd (Prod.fst x))))),
        AV.sl 1 (Seq.map encB (0 : UInt8) (Prod.snd (Prod.snd (Prod.snd (Prod.snd (Prod.fst x)))))) Tip.none],
        AObj.tok, AObj.tok]) →
    AWP Try.prog 40 n c44_6
      [(0, AV.ptr 0 0), (1, AV.int IntKind.i64 k), (8, AV.ptr 3 0), (10, AV.sl 1 (Seq.map encB (0 : UInt8) b) Tip.none)]
      (T.HS D W S ++
        [AObj.cells [AV.int IntKind.i64 (0 : Int), AV.sl 0 (Seq.raw []) Tip.nil, AV.int IntKind.i64 (0 : Int), AV.int IntKind.i64 (0 : Int), AV.sl 0 (Seq.raw []) Tip.nil]])
      (q44_0 n Post) := fun D W S k b n Post h => Go.Ab.awp_sound g44 n _ _ _ _ (Go.Ab.kc (by kernel_rfl) h)

end
end Sb
end

section
/- The plain law of numbers as bytes. -/

namespace V

/-- the digits that go on -/
def lead (v : Nat) : List UInt8 := if _h : v = 0 then [] else lead (v / 128) ++ [UInt8.ofNat (128 + v % 128)]
  termination_by v
  decreasing_by omega

def enc (v : Nat) : List UInt8 := lead (v / 128) ++ [UInt8.ofNat (v % 128)]

theorem lead_zero : lead 0 = [] := by rw [lead]; simp
theorem lead_pos {v : Nat} (h : 0 < v) : lead v = lead (v / 128) ++ [UInt8.ofNat (128 + v % 128)] := by rw [lead, dif_neg (by omega)]

/-- a number that is held -/
def held (x : Int) : Nat := (min (max x 0) 1099511627776).toNat

theorem held_le (x : Int) : held x ≤ 1099511627776 := by unfold held; omega
theorem held_of {x : Int} (h0 : 0 ≤ x) (h1 : x ≤ 1099511627776) : (held x : Int) = x := by unfold held; omega

/-- digits from the j-th down to the first -/
def down (v : Nat) : Nat → List UInt8
  | 0 => []
  | j + 1 => UInt8.ofNat (128 + v / 128 ^ (j + 1) % 128) :: down v j

theorem down_succ (v : Nat) : ∀ j, down v (j + 1) = down (v / 128) j ++ [UInt8.ofNat (128 + v / 128 % 128)]
  | 0 => by simp [down]
  | j + 1 => by
    rw [down, down_succ v j, down]
    have : v / 128 ^ (j + 1 + 1) = v / 128 / 128 ^ (j + 1) := by rw [Nat.div_div_eq_div_mul, Nat.pow_succ 128 (j + 1), Nat.mul_comm]
    rw [this]; rfl

theorem down_lead : ∀ (j v : Nat), v / 128 ^ j < 128 → (j = 0 ∨ 128 ^ j ≤ v) → down v j = lead (v / 128)
  | 0, v, h, _ => by
    have : v / 128 = 0 := by simp at h; omega
    rw [this, lead_zero]; rfl
  | j + 1, v, h, hj => by
    have hv : 128 ^ (j + 1) ≤ v := by rcases hj with e | e; · cases e
                                      · exact e
    have hp : 0 < 128 ^ j := Nat.pos_of_ne_zero (by simp)
    have h128 : 128 ≤ v := Nat.le_trans (by rw [Nat.pow_succ]; omega) hv
    rw [down_succ, lead_pos (by omega : 0 < v / 128)]
    congr 1
    refine down_lead j (v / 128) ?_ (.inr ?_)
    · rw [Nat.div_div_eq_div_mul, Nat.mul_comm, ← Nat.pow_succ]; exact h
    · rw [Nat.le_div_iff_mul_le (by omega), ← Nat.pow_succ]; exact hv

theorem lead_length : ∀ (k v : Nat), v < 128 ^ k → (lead v).length ≤ k
  | 0, v, h => by
    have : v = 0 := by simp at h; omega
    subst this; simp [lead_zero]
  | k + 1, v, h => by
    rcases Nat.eq_zero_or_pos v with e | e
    · subst e; simp [lead_zero]
    · rw [lead_pos e]
      have := lead_length k (v / 128) (by rw [Nat.div_lt_iff_lt_mul (by omega), ← Nat.pow_succ]; exact h)
      simp; omega

theorem enc_length (v : Nat) (h : v ≤ 1099511627776) : (enc v).length ≤ 6 := by
  have := lead_length 5 (v / 128) (by omega)
  simp [enc]; omega

end V
end

section
/- vlq.Put: what it computes. -/

set_option linter.unusedVariables false
set_option linter.unusedSimpArgs false
open Go Go.Ab Go.Proofs
namespace V

def big : Nat := 140737488351232

theorem tdivN (a b : Nat) : Int.tdiv (a : Int) (b : Int) = ((a / b : Nat) : Int) := by rfl
theorem tmodN (a b : Nat) : Int.tmod (a : Int) (b : Int) = ((a % b : Nat) : Int) := by rfl

theorem selTok : Sel 0 [1] [AObj.gone, AObj.tok] [AObj.tok] := Sel.one 1 rfl rfl

theorem leApp {l : List UInt8} {x : List AV} {b : UInt8} {H : List AObj} (hx : x = encB b) : Le (.sl 1 (.app (.map encB 0 l) (.raw [x])) (.tok 1)) (AV.ren (selR [1] H.length) (.sl 1 (.map encB 0 (l ++ [b])) (.tok 0))) := by
  refine Le.sl ?_ (.inl rfl) (.inl rfl)
  subst hx
  simp [Seq.toList, Seq.ren, encB, renL, AV.ren]

theorem put9 {ns : List Int} {k : Nat} {i : Int} {Post : AV → List AObj → Prop} {v : Nat} (hv : v ≤ 1099511627776) (hi : 0 ≤ i) (hi2 : i < 9223372036854775807) : ∀ (j : Nat) (l : List UInt8), j ≤ 6 → l.length + j + 1 ≤ big →
    AWP Try.prog 48 0 c140_3 [(5, .sl 1 (.map encB 0 (l ++ down v j ++ [UInt8.ofNat (v % 128)])) (.tok 0)), (12, .sl 1 (.map encI 0 ns) .none), (13, .int .i64 k), (14, .int .i64 (i + 1))] [.tok] (q140_2 0 Post) →
    AWP Try.prog 48 0 c140_9 [(5, .sl 1 (.map encB 0 l) (.tok 0)), (7, .int .i64 v), (8, .int .i64 ((128 ^ j : Nat) : Int)), (12, .sl 1 (.map encI 0 ns) .none), (13, .int .i64 k), (14, .int .i64 i)] [.tok] (q140_9 0 Post)
  | 0, l, _, hl, h => by
    refine v140_9 _ _ _ _ _ _ _ _ _ (condD (fun h => by simp at h) fun _ => needJ (by decide) (needJ (by unfold big at hl; omega) ?_))
    refine AWP.shape [1] _ _ selTok ?_ h
    rw [wrap64 (x := i + 1) (by omega) (by omega)]
    refine ⟨rfl, ?_, rfl, ?_, rfl, Le.refl _, rfl, Le.refl _, trivial⟩
    · have : l ++ down v 0 ++ [UInt8.ofNat (v % 128)] = l ++ [UInt8.ofNat (v % 128)] := by simp [down]
      rw [this]
      refine leApp ?_
      rw [show (128 : Int) = ((128 : Nat) : Int) from rfl, tmodN, wrapU8, Int.emod_eq_of_lt (by omega) (by omega)]
      rw [encB_ofNat (by omega) (by omega)]
      rfl
    · exact Le.refl _
  | j + 1, l, hj, hl, h => by
    have hw : (128 : Nat) ^ (j + 1) ≤ 128 ^ 6 := Nat.pow_le_pow_right (by omega) hj
    have hw6 : (128 : Nat) ^ 6 = 4398046511104 := by decide
    have hw1 : 0 < (128 : Nat) ^ j := Nat.pos_of_ne_zero (by simp)
    refine v140_9 _ _ _ _ _ _ _ _ _ (condD (fun _ => needJ ?_ (needJ (by decide) (needJ (by unfold big at hl; omega) (needJ (by decide) ?_)))) (fun hn => ?_))
    · rw [Nat.pow_succ]; omega
    · have hd : v / 128 ^ (j + 1) ≤ v := Nat.div_le_self _ _
      have hq : ((128 ^ (j + 1) : Nat) : Int).tdiv 128 = ((128 ^ j : Nat) : Int) := by
        rw [show (128 : Int) = ((128 : Nat) : Int) from rfl, tdivN, Nat.pow_succ, Nat.mul_div_cancel _ (by omega)]
      rw [hq, wrap64 (x := ((128 ^ j : Nat) : Int)) (by omega) (by rw [Nat.pow_succ] at hw; omega)]
      refine AWP.shape [1] _ _ selTok ?_ (put9 (ns := ns) (k := k) hv hi hi2 j (l ++ [UInt8.ofNat (128 + v / 128 ^ (j + 1) % 128)]) (by omega) (by simp; omega) ?_)
      · refine ⟨rfl, leApp ?_, rfl, Le.refl _, rfl, Le.refl _, rfl, ?_, rfl, Le.refl _, rfl, Le.refl _, trivial⟩
        · rw [tdivN, wrapN (Nat.le_trans hd (by omega)), show (128 : Int) = ((128 : Nat) : Int) from rfl, tmodN, wrap64 (by omega) (by omega), wrapU8,
            Int.emod_eq_of_lt (by omega) (by omega), encB_ofNat (by omega) (by omega)]
          congr 2
        · exact Le.refl _
      · simpa [down] using h
    · rw [Nat.pow_succ] at hn; omega

theorem put7 {ns : List Int} {k : Nat} {i : Int} {Post : AV → List AObj → Prop} {v : Nat} (hv : v ≤ 1099511627776) (hi : 0 ≤ i) (hi2 : i < 9223372036854775807) (l : List UInt8) (hl : l.length + 7 ≤ big)
    (h : AWP Try.prog 48 0 c140_3 [(5, .sl 1 (.map encB 0 (l ++ enc v)) (.tok 0)), (12, .sl 1 (.map encI 0 ns) .none), (13, .int .i64 k), (14, .int .i64 (i + 1))] [.tok] (q140_2 0 Post)) : ∀ (m j : Nat), m + j = 6 → (j = 0 ∨ 128 ^ j ≤ v) →
    AWP Try.prog 48 0 c140_7 [(5, .sl 1 (.map encB 0 l) (.tok 0)), (7, .int .i64 v), (8, .int .i64 ((128 ^ j : Nat) : Int)), (12, .sl 1 (.map encI 0 ns) .none), (13, .int .i64 k), (14, .int .i64 i)] [.tok] (q140_7 0 Post) := by
  intro m
  induction m with
  | zero =>
    intro j hm hj
    have : j = 6 := by omega
    subst this
    rcases hj with e | e
    · cases e
    · have : (128 : Nat) ^ 6 = 4398046511104 := by decide
      omega
  | succ m ih =>
    intro j hm hj
    have hw : (128 : Nat) ^ j ≤ 128 ^ 5 := Nat.pow_le_pow_right (by omega) (by omega)
    have hw5 : (128 : Nat) ^ 5 = 34359738368 := by decide
    have hw1 : 0 < (128 : Nat) ^ j := Nat.pos_of_ne_zero (by simp)
    have hd : v / 128 ^ j ≤ v := Nat.div_le_self _ _
    refine v140_7 _ _ _ _ _ _ _ _ _ (needJ (by omega) (condD (fun hc => ?_) (fun hc => ?_)))
    · rw [tdivN, wrapN (Nat.le_trans hd (by omega))] at hc
      have e : ((128 ^ j : Nat) : Int) * 128 = ((128 ^ (j + 1) : Nat) : Int) := by rw [Nat.pow_succ]; simp
      rw [e, wrap64 (by omega) (by rw [Nat.pow_succ]; omega)]
      refine ih (j + 1) (by omega) (.inr ?_)
      have : 128 ≤ v / 128 ^ j := by omega
      rw [Nat.le_div_iff_mul_le hw1] at this
      rw [Nat.pow_succ, Nat.mul_comm]; exact this
    · rw [tdivN, wrapN (Nat.le_trans hd (by omega))] at hc
      refine put9 hv hi hi2 j l (by omega) (by omega) ?_
      rw [down_lead j v (by omega) hj, List.append_assoc]
      exact h

def putM (bs : List UInt8) (ns : List Int) : List UInt8 := bs ++ ns.flatMap fun x => enc (held x)

theorem clamp_held (x : Int) : (if 1099511627776 < if 0 > x then 0 else x then 1099511627776 else if 0 > x then 0 else x) = ((held x : Nat) : Int) := by
  unfold held
  by_cases h : 0 > x
  · simp only [if_pos h]; omega
  · simp only [if_neg h]
    split <;> omega

theorem put3 {ns : List Int} {Post : AV → List AObj → Prop} (hns : ns.length ≤ big) : ∀ (m i : Nat) (l : List UInt8), m + i = ns.length → l.length + 7 * m ≤ big →
    Post (.sl 1 (.map encB 0 (l ++ (ns.drop i).flatMap fun x => enc (held x))) (.tok 0)) [.tok] →
    AWP Try.prog 48 0 c140_3 [(5, .sl 1 (.map encB 0 l) (.tok 0)), (12, .sl 1 (.map encI 0 ns) .none), (13, .int .i64 ns.length), (14, .int .i64 i)] [.tok] (q140_2 0 Post) := by
  intro m
  unfold big at hns
  induction m with
  | zero =>
    intro i l hm hl h
    refine v140_3 _ _ _ _ _ _ _ (condD (fun hc => by omega) fun hc => ?_)
    rw [List.drop_eq_nil_of_le (by omega)] at h
    simpa using h
  | succ m ih =>
    intro i l hm hl h
    refine v140_3 _ _ _ _ _ _ _ (condD (fun hc => needJ (by omega) ?_) fun hc => by omega)
    rw [Int.toNat_natCast, clamp_held]
    have hh := held_le (ns.getD i 0)
    refine put7 hh (by omega) (by omega) l (by omega) ?_ 6 0 rfl (.inl rfl)
    have hel := enc_length (held (ns.getD i 0)) hh
    refine ih (i + 1) _ (by omega) (by rw [List.length_append]; omega) ?_
    have hg : ns.drop i = ns.getD i 0 :: ns.drop (i + 1) := by
      rw [List.drop_eq_getElem_cons (by omega)]
      simp [List.getD, List.getElem?_eq_getElem (show i < ns.length by omega)]
    rw [hg] at h
    simpa using h

theorem put_spec (bs : List UInt8) (ns : List Int) (hb : bs.length + 7 * ns.length ≤ big) (H : List AObj) :
    ASpec Try.prog 140 [.sl 1 (.map encB 0 bs) .none, .sl 1 (.map encI 0 ns) .none] H (fun r H' => r = .sl 1 (.map encB 0 (putM bs ns)) (.tok H.length) ∧ H' = H ++ [.tok]) := by
  refine ASpec.anyH (args := [.sl 1 (.map encB 0 bs) .none, .sl 1 (.map encI 0 ns) .none]) (r0 := .sl 1 (.map encB 0 (putM bs ns)) (.tok 0)) (Hl := [.tok]) H ?_ _ _ _ rfl rfl rfl
  refine s140 _ _ _ _ _ (needJ oneB (needJ (by unfold big at hb; omega) ?_))
  refine AWP.spell _ ?_ (put3 (ns := ns) (by omega) ns.length 0 bs (by omega) (by omega) ⟨rfl, rfl⟩)
  exact ⟨rfl, Le.sl (by simp [Seq.toList]) (.inl rfl) (.inl rfl), rfl, Le.refl _, rfl, Le.refl _, rfl, Le.refl _, trivial⟩

end V
end

section
/- The reader of bytes: what its methods compute. -/

set_option linter.unusedVariables false
set_option linter.unusedSimpArgs false
open Go Go.Ab Go.Proofs
namespace V

def scan : Nat → List UInt8 → Nat → Nat → Int ⊕ (Nat × Nat)
  | 0, _, _, _ => .inl 4
  | _ + 1, [], _, _ => .inl 2
  | f + 1, c :: s, x, i => if 128 ≤ c.toNat then scan f s (x * 128 + c.toNat % 128) (i + 1) else .inr (x * 128 + c.toNat % 128, i + 1)

/-- the number ahead, how many bytes it has, and what is wrong -/
def lookM (s : List UInt8) (most : Int) : Int × Nat × Int :=
  match s with
  | [] => (0, 0, 2)
  | c :: _ => if c = 128 then (0, 0, 3) else match scan 6 s 0 0 with
    | .inl e => (0, 0, e)
    | .inr (n, k) => if (n : Int) > min most 1099511627776 then (0, 0, 4) else (n, k, 0)

theorem getD_drop (bs : List UInt8) (q : Nat) (h : q < bs.length) : bs.drop q = bs.getD q 0 :: bs.drop (q + 1) := by
  rw [List.drop_eq_getElem_cons h]
  simp [List.getD, List.getElem?_eq_getElem h]

def peekP (bs : List UInt8) (p : Nat) (most : Int) (Post : AV → List AObj → Prop) : Int ⊕ (Nat × Nat) → Prop
  | .inl e => Post (.tup [.int .i64 0, .int .i64 p]) [rd bs p e]
  | .inr (n, k) => if (n : Int) > min most 1099511627776 then Post (.tup [.int .i64 0, .int .i64 p]) [rd bs p 4] else Post (.tup [.int .i64 n, .int .i64 (p + k : Nat)]) [rd bs p 0]

theorem min_if (most : Int) : (if 1099511627776 < most then 1099511627776 else most) = min most 1099511627776 := by
  split <;> omega

theorem peek9 {bs : List UInt8} {p : Nat} {most : Int} {Post : AV → List AObj → Prop} (hb : bs.length ≤ big) (hp : p ≤ bs.length) : ∀ (f i x : Nat), f + i = 6 → p + i ≤ bs.length → x < 128 ^ i →
    peekP bs p most Post (scan f (bs.drop (p + i)) x i) →
    AWP Try.prog 113 1 c250_9 [(0, .ptr 0 0), (1, .int .i64 most), (6, .int .i64 x), (44, .int .i64 i)] [rd bs p 0] (q250_2 1 Post) := by
  intro f
  unfold big at hb
  induction f with
  | zero =>
    intro i x hf hpi hx h
    refine v250_9 _ _ _ _ _ _ _ _ (condD (fun hc => by omega) fun hc => ⟨⟨rfl, rfl⟩, h⟩)
  | succ f ih =>
    intro i x hf hpi hx h
    have hi6 : (128 : Nat) ^ i ≤ 128 ^ 5 := Nat.pow_le_pow_right (by omega) (by omega)
    have h5 : (128 : Nat) ^ 5 = 34359738368 := by decide
    have hwp : IntKind.wrap .i64 ((p : Int) + i) = ((p + i : Nat) : Int) := by rw [wrap64 (by omega) (by omega)]; simp
    refine v250_9 _ _ _ _ _ _ _ _ (condD (fun hc => ?_) fun hc => by omega)
    rw [hwp]
    refine condE (fun he => ?_) fun he => ?_
    · have he : p + i = bs.length := by omega
      refine ⟨⟨rfl, rfl⟩, ?_⟩
      rw [List.drop_eq_nil_of_le (by omega)] at h
      exact h
    · have he : p + i ≠ bs.length := by omega
      refine needJ (by omega) (needJ (by decide) ?_)
      rw [Int.toNat_natCast]
      rw [getD_drop bs (p + i) (by omega)] at h
      generalize bs.getD (p + i) 0 = c at h ⊢
      have hc8 : c.toNat < 256 := c.toNat_lt
      have hwc : IntKind.wrap .i64 (c.toNat : Int) = (c.toNat : Int) := wrapN (by omega)
      have hx1 : IntKind.wrap .i64 (IntKind.wrap .i64 ((x : Int) * 128) + (c.toNat : Int).tmod 128) = ((x * 128 + c.toNat % 128 : Nat) : Int) := by
        rw [show (128 : Int) = ((128 : Nat) : Int) from rfl, tmodN, wrap64 (x := (x : Int) * ((128 : Nat) : Int)) (by omega) (by omega), wrap64 (by omega) (by omega)]
        simp
      rw [hwc, hx1]
      simp only [scan] at h
      refine condD (fun hg => ?_) fun hg => ?_
      · rw [if_pos (by omega)] at h
        rw [show IntKind.wrap .i64 ((i : Int) + 1) = ((i + 1 : Nat) : Int) by rw [wrap64 (by omega) (by omega)]; simp]
        refine ih (i + 1) _ (by omega) (by omega) ?_ ?_
        · rw [Nat.pow_succ]; omega
        · exact h
      · rw [if_neg (by omega)] at h
        simp only [peekP] at h
        rw [min_if]
        refine condD (fun hm => ?_) fun hm => ?_
        · rw [if_pos hm] at h
          exact ⟨⟨rfl, rfl⟩, h⟩
        · rw [if_neg hm] at h
          rw [show IntKind.wrap .i64 (((p + i : Nat) : Int) + 1) = ((p + (i + 1) : Nat) : Int) by rw [wrap64 (by omega) (by omega)]; omega]
          exact ⟨⟨rfl, rfl⟩, h⟩

theorem peek_spec {bs : List UInt8} {p : Nat} (most : Int) (hb : bs.length ≤ big) (hp : p ≤ bs.length) :
    ASpec Try.prog 250 [.ptr 0 0, .int .i64 most] [rd bs p 0] (fun r H' => r = .tup [.int .i64 (lookM (bs.drop p) most).1, .int .i64 (p + (lookM (bs.drop p) most).2.1 : Nat)] ∧ H' = [rd bs p (lookM (bs.drop p) most).2.2]) := by
  refine s250 _ _ _ _ _ (condE (fun he => ?_) fun he => ?_)
  · have he : p = bs.length := by omega
    rw [List.drop_eq_nil_of_le (by omega)]
    exact ⟨⟨rfl, rfl⟩, rfl, rfl⟩
  · have he : p ≠ bs.length := by omega
    refine needJ (by omega) ?_
    rw [Int.toNat_natCast]
    have hd := getD_drop bs p (by omega)
    refine condE (fun h1 => ?_) fun h1 => ?_
    · have h1 : (bs.getD p 0) = 128 := by
        have : (bs.getD p 0).toNat = 128 := by omega
        exact UInt8.toNat_inj.1 this
      have e : lookM (bs.drop p) most = (0, 0, 3) := by rw [hd]; simp only [lookM, if_pos h1]
      rw [e]
      exact ⟨⟨rfl, rfl⟩, rfl, rfl⟩
    · have h1 : (bs.getD p 0) ≠ 128 := by
        intro e
        rw [e] at h1
        exact h1 rfl
      refine peek9 hb hp 6 0 0 rfl (by omega) (by simp) ?_
      rw [Nat.add_zero]
      have e : lookM (bs.drop p) most = match scan 6 (bs.drop p) 0 0 with
        | .inl e => (0, 0, e)
        | .inr (n, k) => if (n : Int) > min most 1099511627776 then (0, 0, 4) else (n, k, 0) := by
        rw [hd]; simp only [lookM, if_neg h1]
      rw [e]
      cases scan 6 (bs.drop p) 0 0 with
      | inl er => exact ⟨rfl, rfl⟩
      | inr nk =>
        obtain ⟨n, k⟩ := nk
        simp only [peekP]
        split
        · exact ⟨rfl, rfl⟩
        · exact ⟨rfl, rfl⟩

theorem scan_le : ∀ (f : Nat) (s : List UInt8) (x i n k : Nat), scan f s x i = .inr (n, k) → i < k ∧ k ≤ i + s.length
  | 0, s, x, i, n, k, h => by simp [scan] at h
  | f + 1, [], x, i, n, k, h => by simp [scan] at h
  | f + 1, c :: s, x, i, n, k, h => by
    simp only [scan] at h
    split at h
    · have := scan_le f s _ _ _ _ h
      simp; omega
    · simp at h
      simp; omega

theorem lookM_le (s : List UInt8) (most : Int) : (lookM s most).2.1 ≤ s.length ∧ 0 ≤ (lookM s most).1 ∧ (lookM s most).1 ≤ 1099511627776 ∧ ((lookM s most).2.2 ≠ 0 → (lookM s most).1 = 0 ∧ (lookM s most).2.1 = 0) := by
  cases s with
  | nil => simp [lookM]
  | cons c s =>
    simp only [lookM]
    split
    · simp
    · split
      · simp
      · rename_i n k hs
        have := scan_le _ _ _ _ _ _ hs
        split
        · simp
        · refine ⟨?_, by simp, ?_, by simp⟩
          · show k ≤ _
            omega
          · show (n : Int) ≤ _
            omega

/-- a reader's next number: the answer, the place, the error -/
def numM (bs : List UInt8) (p : Nat) (e most : Int) : Int × Nat × Int :=
  if e ≠ 0 then (0, p, e) else ((lookM (bs.drop p) most).1, p + (lookM (bs.drop p) most).2.1, (lookM (bs.drop p) most).2.2)

def strM (bs : List UInt8) (p : Nat) (e most : Int) : List UInt8 × Nat × Int :=
  if e ≠ 0 then ([], p, e) else
    if (lookM (bs.drop p) most).2.2 ≠ 0 then ([], p, (lookM (bs.drop p) most).2.2) else
    if (lookM (bs.drop p) most).1 > (bs.length : Int) - ((p + (lookM (bs.drop p) most).2.1 : Nat) : Int) then ([], p, 2) else
      ((bs.drop (p + (lookM (bs.drop p) most).2.1)).take (lookM (bs.drop p) most).1.toNat, p + (lookM (bs.drop p) most).2.1 + (lookM (bs.drop p) most).1.toNat, 0)

theorem num_spec0 {bs : List UInt8} {p : Nat} (e most : Int) (hb : bs.length ≤ big) (hp : p ≤ bs.length) :
    ASpec Try.prog 143 [.ptr 0 0, .int .i64 most] [rd bs p e] (fun r H' => r = .int .i64 (numM bs p e most).1 ∧ H' = [rd bs (numM bs p e most).2.1 (numM bs p e most).2.2]) := by
  refine s143 _ _ _ _ _ (condNe (fun he => ?_) fun he => ?_)
  · rw [show numM bs p e most = (0, p, e) by simp only [numM, if_pos he]]
    exact ⟨rfl, rfl⟩
  · subst he
    rw [show numM bs p 0 most = ((lookM (bs.drop p) most).1, p + (lookM (bs.drop p) most).2.1, (lookM (bs.drop p) most).2.2) by simp [numM]]
    refine ASpec.call (peek_spec most hb hp) (Les.refl _) ⟨(_, _, _, _), rfl, rfl, rfl, rfl⟩

theorem str_spec0 {bs : List UInt8} {p : Nat} (e most : Int) (hb : bs.length ≤ big) (hp : p ≤ bs.length) :
    ASpec Try.prog 145 [.ptr 0 0, .int .i64 most] [rd bs p e] (fun r H' => r = .str ⟨(strM bs p e most).1.toArray⟩ ∧ H' = [rd bs (strM bs p e most).2.1 (strM bs p e most).2.2]) := by
  refine s145 _ _ _ _ _ (condNe (fun he => ?_) fun he => ?_)
  · rw [show strM bs p e most = ([], p, e) by simp only [strM, if_pos he]]
    exact ⟨rfl, rfl⟩
  · subst he
    obtain ⟨h1, h2, h3, h4⟩ := lookM_le (bs.drop p) most
    have hs : strM bs p 0 most = if (lookM (bs.drop p) most).2.2 ≠ 0 then ([], p, (lookM (bs.drop p) most).2.2) else
      if (lookM (bs.drop p) most).1 > (bs.length : Int) - ((p + (lookM (bs.drop p) most).2.1 : Nat) : Int) then ([], p, 2) else
      ((bs.drop (p + (lookM (bs.drop p) most).2.1)).take (lookM (bs.drop p) most).1.toNat, p + (lookM (bs.drop p) most).2.1 + (lookM (bs.drop p) most).1.toNat, 0) := by simp [strM]
    refine ASpec.call (peek_spec most hb hp) (Les.refl _) ⟨((lookM (bs.drop p) most).1, ((p + (lookM (bs.drop p) most).2.1 : Nat) : Int), p, (lookM (bs.drop p) most).2.2), rfl, rfl, ?_⟩
    generalize lookM (bs.drop p) most = q at h1 h2 h3 h4 hs ⊢
    obtain ⟨n, k, er⟩ := q
    unfold big at hb
    rw [List.length_drop] at h1
    simp only at h1 h2 h3 h4 hs ⊢
    refine condNe (fun he => ?_) fun he => ?_
    · rw [hs, if_pos he]; exact ⟨rfl, rfl⟩
    · subst he
      rw [wrap64 (x := (bs.length : Int) - ((p + k : Nat) : Int)) (by omega) (by omega)]
      refine condD (fun hg => ?_) fun hg => ?_
      · rw [hs, if_neg (by simp), if_pos hg]; exact ⟨rfl, rfl⟩
      · rw [hs, if_neg (by simp), if_neg hg]
        have hw : IntKind.wrap .i64 (((p + k : Nat) : Int) + n) = ((p + k + n.toNat : Nat) : Int) := by
          have h5 : 0 ≤ n := h2
          rw [wrap64 (x := ((p + k : Nat) : Int) + n) (by omega) (by omega)]; omega
        rw [hw]
        refine needJ (by omega) (needJ (allBytes_map _) ?_)
        rw [bytesOf_map, Int.toNat_natCast, Int.toNat_natCast, List.drop_take]
        refine ⟨?_, rfl⟩
        rw [show p + k + n.toNat - (p + k) = n.toNat by omega]

end V
end

section
/- The document's numbers, texts and reader: what they compute. -/

set_option linter.unusedVariables false
set_option linter.unusedSimpArgs false
open Go Go.Ab Go.Proofs
namespace V

abbrev B (l : List UInt8) : ByteArray := ⟨l.toArray⟩

theorem B_data (s : ByteArray) : B s.data.toList = s := rfl
theorem B_size (l : List UInt8) : (B l).size = l.length := by simp [ByteArray.size]
theorem B_toList (l : List UInt8) : (B l).toList = l := by rw [ByteArray.toList_eq]
theorem B_append (a b : List UInt8) : B a ++ B b = B (a ++ b) := by
  apply ByteArray.ext
  simp
theorem B_inj {a b : List UInt8} : B a = B b ↔ a = b := by
  constructor
  · intro h
    have := congrArg (fun s : ByteArray => s.data.toList) h
    simpa using this
  · rintro rfl; rfl
theorem B_beq (a b : List UInt8) : ((B a).toList == (B b).toList) = (a == b) := by rw [B_toList, B_toList]
theorem B_extract (l : List UInt8) (i j : Nat) (h : j ≤ l.length) : (B l).extract i j = B ((l.take j).drop i) := by
  apply ByteArray.ext
  apply Array.toList_inj.1
  simp [List.drop_take]

theorem condS {a b : List UInt8} {A C : Prop} (h1 : a = b → A) (h2 : a ≠ b → C) : condP ((B a).toList == (B b).toList) A C := by
  rw [B_beq]
  by_cases h : a = b
  · rw [beq_iff_eq.2 h]; exact h1 h
  · rw [beq_eq_false_iff_ne.2 h]; exact h2 h

theorem bytesOf_one {x : Int} : bytesOf (.raw [[.int .u8 x]]) = B [UInt8.ofNat x.toNat] := rfl
theorem allBytes_one {x : Int} : allBytes (.raw [[.int .u8 x]]) := by
  intro y hy
  simp only [Seq.toList, List.mem_singleton] at hy
  exact ⟨x, hy⟩

/-! ### numbers -/

theorem rnum3 {Post : AV → List AObj → Prop} : ∀ (f v : Nat) (l : List UInt8), v < 128 ^ (f + 1) → v ≤ 1099511627776 → l.length + f ≤ 100 →
    Post (.str (B (lead (v / 128) ++ l))) [] → AWP Try.prog 25 0 c150_3 [(0, .int .i64 v), (3, .str (B l))] [] (q150_2 0 Post) := by
  intro f
  induction f with
  | zero =>
    intro v l hv hv2 hl h
    refine v150_3 _ _ _ _ (condD (fun hc => by simp at hv; omega) fun hc => ?_)
    rw [show v / 128 = 0 by omega, lead_zero] at h
    exact h
  | succ f ih =>
    intro v l hv hv2 hl h
    refine v150_3 _ _ _ _ (condD (fun hc => ?_) fun hc => ?_)
    · have hw : IntKind.wrap .i64 ((v : Int).tdiv 128) = ((v / 128 : Nat) : Int) := by
        rw [show (128 : Int) = ((128 : Nat) : Int) from rfl, tdivN, wrapN (by omega)]
      have hw2 : IntKind.wrap .u8 (IntKind.wrap .i64 (128 + ((v / 128 : Nat) : Int).tmod 128)) = ((128 + v / 128 % 128 : Nat) : Int) := by
        rw [show (128 : Int) = ((128 : Nat) : Int) from rfl, tmodN, wrap64 (by omega) (by omega), wrapU8, Int.emod_eq_of_lt (by omega) (by omega)]
        simp
      rw [hw, hw2, bytesOf_one, B_append, Int.toNat_natCast]
      refine needJ (by decide) (needJ (by decide) (needJ allBytes_one (needJ ?_ ?_)))
      · rw [B_size, B_size]; simp; omega
      · refine ih (v / 128) _ ?_ (by omega) (by simp; omega) ?_
        · rw [Nat.div_lt_iff_lt_mul (by omega), ← Nat.pow_succ]; exact hv
        · rw [lead_pos (by omega : 0 < v / 128)] at h
          rw [List.append_assoc] at h
          exact h
    · rw [show v / 128 = 0 by omega, lead_zero] at h
      exact h

theorem rnum_spec (x : Int) (H : List AObj) : ASpec Try.prog 150 [.int .i64 x] H (fun r H' => r = .str (B (enc (held x))) ∧ H' = H) := by
  have k : ASpec Try.prog 150 [.int .i64 x] [] (fun r H' => r = .str (B (enc (held x))) ∧ H' = []) := by
    refine s150 _ _ (needJ (by decide) (needJ allBytes_one ?_))
    rw [clamp_held]
    have hh := held_le x
    generalize held x = v at hh ⊢
    rw [show (128 : Int) = ((128 : Nat) : Int) from rfl, tmodN, wrapU8, Int.emod_eq_of_lt (by omega) (by omega), bytesOf_one]
    refine rnum3 5 v _ (by omega) hh (by simp) ⟨?_, rfl⟩
    rfl
  exact ASpec.pureH H k _ _ rfl rfl

theorem rtext_spec (s : List UInt8) (hs : s.length ≤ big) (H : List AObj) : ASpec Try.prog 151 [.str (B s)] H (fun r H' => r = .str (B (enc (held s.length) ++ s)) ∧ H' = H) := by
  have k : ASpec Try.prog 151 [.str (B s)] [] (fun r H' => r = .str (B (enc (held s.length) ++ s)) ∧ H' = []) := by
    refine s151 _ _ (ASpec.call (rnum_spec _ _) (Les.refl _) ⟨_, rfl, rfl, ?_⟩)
    have hel := enc_length (held s.length) (held_le _)
    refine needJ ?_ ⟨by rw [B_append, B_size], rfl⟩
    simp only [B_size]
    unfold big at hs
    omega
  exact ASpec.pureH H k _ _ rfl rfl

/-! ### the document's look -/

def acc (x : Nat) : List UInt8 → Nat
  | [] => x
  | c :: s => acc (x * 128 + c.toNat % 128) s

theorem acc_lt : ∀ (s : List UInt8) (x i : Nat), x < 128 ^ i → acc x s < 128 ^ (i + s.length)
  | [], x, i, h => h
  | c :: s, x, i, h => by
    simp only [acc, List.length_cons]
    have := acc_lt s (x * 128 + c.toNat % 128) (i + 1) (by rw [Nat.pow_succ]; omega)
    rwa [show i + (s.length + 1) = i + 1 + s.length by omega]

theorem acc_append (x : Nat) : ∀ (s t : List UInt8), acc x (s ++ t) = acc (acc x s) t
  | [], t => rfl
  | c :: s, t => acc_append _ s t

theorem scan_hi : ∀ (k : Nat) (s : List UInt8) (x i f : Nat), k ≤ s.length → k ≤ f → (∀ j, j < k → 128 ≤ (s.getD j 0).toNat) → scan f s x i = scan (f - k) (s.drop k) (acc x (s.take k)) (i + k)
  | 0, s, x, i, f, _, _, _ => by simp [acc]
  | k + 1, [], x, i, f, h, _, _ => by simp at h
  | k + 1, c :: s, x, i, 0, _, h, _ => by omega
  | k + 1, c :: s, x, i, f + 1, h1, h2, h3 => by
    have hc : 128 ≤ c.toNat := by simpa using h3 0 (by omega)
    simp only [scan, if_pos hc]
    rw [scan_hi k s _ (i + 1) f (by simpa using h1) (by omega) (fun j hj => by simpa using h3 (j + 1) (by omega))]
    simp only [List.take_succ_cons, acc, List.drop_succ_cons]
    congr 1 <;> omega

theorem look14 {l : List UInt8} {most : Int} {k : Nat} {Post : AV → List AObj → Prop} (hk : k < 6) (hkl : k < l.length) : ∀ (m i : Nat), m + i = k + 1 →
    (if (acc 0 (l.take (k + 1)) : Int) > min most 1099511627776 then Post (.tup [.int .i64 0, .int .i64 0, .int .i64 4]) [] else Post (.tup [.int .i64 (acc 0 (l.take (k + 1)) : Nat), .int .i64 (k + 1 : Nat), .int .i64 0]) []) →
    AWP Try.prog 60 0 c252_14 [(0, .str (B l)), (1, .int .i64 most), (7, .int .i64 k), (8, .int .i64 (acc 0 (l.take i) : Nat)), (9, .int .i64 i)] [] (q252_4 0 Post) := by
  intro m
  induction m with
  | zero =>
    intro i hm h
    refine v252_14 _ _ _ _ _ _ _ (condD (fun hc => by omega) fun hc => ?_)
    rw [show i = k + 1 by omega]
    refine condD (fun h1 => ?_) fun h1 => condD (fun h2 => ?_) fun h2 => ?_
    · rw [if_pos (by omega)] at h; exact h
    · rw [if_pos (by omega)] at h; exact h
    · rw [if_neg (by omega)] at h
      rw [show IntKind.wrap .i64 ((k : Int) + 1) = ((k + 1 : Nat) : Int) by rw [wrap64 (by omega) (by omega)]; simp]
      exact h
  | succ m ih =>
    intro i hm h
    refine v252_14 _ _ _ _ _ _ _ (condD (fun hc => needJ ?_ (needJ (by decide) ?_)) fun hc => by omega)
    · rw [B_size]; omega
    · have hx := acc_lt (l.take i) 0 0 (by simp)
      have hlen : (l.take i).length ≤ 5 := by simp; omega
      have hp : (128 : Nat) ^ (0 + (l.take i).length) ≤ 128 ^ 5 := Nat.pow_le_pow_right (by omega) (by omega)
      have h5 : (128 : Nat) ^ 5 = 34359738368 := by decide
      have e : acc 0 (l.take (i + 1)) = acc 0 (l.take i) * 128 + (l.getD i 0).toNat % 128 := by
        have : l.take (i + 1) = l.take i ++ [l.getD i 0] := by
          rw [List.take_add_one]
          simp [List.getElem?_eq_getElem (show i < l.length by omega)]
        rw [this, acc_append]; rfl
      have := ih (i + 1) (by omega) h
      rw [e] at this
      generalize acc 0 (l.take i) = x at this hx ⊢
      have hg : (B l).data.toList.getD (Int.toNat (i : Int)) 0 = l.getD i 0 := rfl
      rw [hg]
      generalize l.getD i 0 = c at this ⊢
      have hc8 : c.toNat < 256 := c.toNat_lt
      rw [show IntKind.wrap .i64 ((i : Int) + 1) = ((i + 1 : Nat) : Int) by rw [wrap64 (by omega) (by omega)]; simp]
      rw [show (128 : Int) = ((128 : Nat) : Int) from rfl, tmodN, wrap64 (x := (x : Int) * ((128 : Nat) : Int)) (by omega) (by omega), wrap64 (x := ((c.toNat % 128 : Nat) : Int)) (by omega) (by omega), wrap64 (by omega) (by omega)]
      have e2 : (x : Int) * ((128 : Nat) : Int) + ((c.toNat % 128 : Nat) : Int) = ((x * 128 + c.toNat % 128 : Nat) : Int) := by simp
      rw [e2]
      exact this

def lookP (Post : AV → List AObj → Prop) (most : Int) : Int ⊕ (Nat × Nat) → Prop
  | .inl e => Post (.tup [.int .i64 0, .int .i64 0, .int .i64 e]) []
  | .inr (n, k) => if (n : Int) > min most 1099511627776 then Post (.tup [.int .i64 0, .int .i64 0, .int .i64 4]) [] else Post (.tup [.int .i64 n, .int .i64 k, .int .i64 0]) []

theorem look6 {l : List UInt8} {most : Int} {Post : AV → List AObj → Prop} (hl : l.length ≤ 10 * big) : ∀ (m k : Nat), m + k = 6 → k ≤ l.length → (∀ j, j < k → 128 ≤ (l.getD j 0).toNat) → lookP Post most (scan 6 l 0 0) →
    AWP Try.prog 60 0 c252_6 [(0, .str (B l)), (1, .int .i64 most), (7, .int .i64 k)] [] (q252_2 0 Post) := by
  unfold big at hl
  -- behind the loop
  have tail : ∀ k, k ≤ 6 → k ≤ l.length → (∀ j, j < k → 128 ≤ (l.getD j 0).toNat) → (k < 6 → k < l.length → (l.getD k 0).toNat < 128) → lookP Post most (scan 6 l 0 0) →
      condP ((k : Int) == (6 : Int)) (Post (.tup [.int .i64 0, .int .i64 0, .int .i64 4]) [])
        (condP ((k : Int) == ((B l).size : Int)) (Post (.tup [.int .i64 0, .int .i64 0, .int .i64 2]) [])
          (AWP Try.prog 60 0 c252_14 [(0, .str (B l)), (1, .int .i64 most), (7, .int .i64 k), (8, .int .i64 0), (9, .int .i64 0)] [] (q252_4 0 Post))) := by
    intro k hk hkl hhi hlo h
    rw [scan_hi k l 0 0 6 hkl hk hhi] at h
    refine condE (fun e => ?_) fun e => condE (fun e2 => ?_) fun e2 => ?_
    · have : k = 6 := by omega
      subst this
      exact h
    · rw [B_size] at e2
      have : k = l.length := by omega
      rw [List.drop_eq_nil_of_le (by omega), show 6 - k = (5 - k) + 1 by omega] at h
      exact h
    · rw [B_size] at e2
      have hlt : (l.getD k 0).toNat < 128 := hlo (by omega) (by omega)
      rw [getD_drop l k (by omega), show 6 - k = (5 - k) + 1 by omega] at h
      simp only [scan, if_neg (show ¬ 128 ≤ (l.getD k 0).toNat by omega)] at h
      refine look14 (by omega) (by omega) (k + 1) 0 rfl ?_
      have e : acc 0 (l.take (k + 1)) = acc 0 (l.take k) * 128 + (l.getD k 0).toNat % 128 := by
        have : l.take (k + 1) = l.take k ++ [l.getD k 0] := by
          rw [List.take_add_one]
          simp [List.getElem?_eq_getElem (show k < l.length by omega)]
        rw [this, acc_append]; rfl
      rw [e]
      simpa [lookP] using h
  intro m
  induction m with
  | zero =>
    intro k hm hkl hhi h
    have : k = 6 := by omega
    subst this
    refine v252_6 _ _ _ _ _ (condD (fun _ => condD (fun hc => by omega) fun _ => ?_) fun _ => ?_)
    · exact tail 6 (by omega) hkl hhi (fun h => by omega) h
    · exact tail 6 (by omega) hkl hhi (fun h => by omega) h
  | succ m ih =>
    intro k hm hkl hhi h
    refine v252_6 _ _ _ _ _ (condD (fun hc => condD (fun _ => needJ ?_ ?_) fun hc => by omega) fun hc => ?_)
    · exact ⟨by omega, hc⟩
    · rw [B_size] at hc
      have hg : (B l).data.toList.getD (Int.toNat (k : Int)) 0 = l.getD k 0 := rfl
      rw [hg]
      refine condD (fun hx => ?_) fun hx => ?_
      · rw [show IntKind.wrap .i64 ((k : Int) + 1) = ((k + 1 : Nat) : Int) by rw [wrap64 (by omega) (by omega)]; simp]
        refine ih (k + 1) (by omega) (by omega) (fun j hj => ?_) h
        by_cases e : j = k
        · subst e; omega
        · exact hhi j (by omega)
      · exact tail k (by omega) hkl hhi (fun _ _ => by omega) h
    · rw [B_size] at hc
      exact tail k (by omega) hkl hhi (fun _ h => by omega) h

theorem look_spec (l : List UInt8) (most : Int) (hl : l.length ≤ 10 * big) (H : List AObj) :
    ASpec Try.prog 252 [.str (B l), .int .i64 most] H (fun r H' => r = .tup [.int .i64 (lookM l most).1, .int .i64 (lookM l most).2.1, .int .i64 (lookM l most).2.2] ∧ H' = H) := by
  have k : ASpec Try.prog 252 [.str (B l), .int .i64 most] [] (fun r H' => r = .tup [.int .i64 (lookM l most).1, .int .i64 (lookM l most).2.1, .int .i64 (lookM l most).2.2] ∧ H' = []) := by
    refine s252 _ _ _ (condS (b := []) (fun e => ?_) fun e => ?_)
    · subst e; exact ⟨rfl, rfl⟩
    · cases l with
      | nil => exact (e rfl).elim
      | cons c l =>
        refine needJ ⟨by omega, by rw [B_size]; simp⟩ ?_
        have hg : (B (c :: l)).data.toList.getD 0 0 = c := rfl
        rw [hg]
        refine condE (fun h1 => ?_) fun h1 => ?_
        · have h1 : c = 128 := UInt8.toNat_inj.1 (by have : c.toNat = 128 := by omega
                                                     exact this)
          rw [show lookM (c :: l) most = (0, 0, 3) by simp only [lookM, if_pos h1]]
          exact ⟨rfl, rfl⟩
        · have h1 : c ≠ 128 := by intro e; rw [e] at h1; exact h1 rfl
          refine look6 hl 6 0 rfl (by omega) (fun j hj => by omega) ?_
          have e : lookM (c :: l) most = match scan 6 (c :: l) 0 0 with
            | .inl e => (0, 0, e)
            | .inr (n, k) => if (n : Int) > min most 1099511627776 then (0, 0, 4) else (n, k, 0) := by simp only [lookM, if_neg h1] <;> rfl
          rw [e]
          cases scan 6 (c :: l) 0 0 with
          | inl er => exact ⟨rfl, rfl⟩
          | inr nk =>
            obtain ⟨n, k⟩ := nk
            by_cases hm : (n : Int) > min most 1099511627776
            · simp [lookP, hm]
            · simp [lookP, hm]
  exact ASpec.pureH H k _ _ rfl rfl

end V
end

section
/- Readers as objects, in any heap; the chapter's examples. -/

set_option linter.unusedVariables false
set_option linter.unusedSimpArgs false
open Go Go.Ab Go.Proofs
namespace V

/-- a reader stands at id -/
abbrev At (H : List AObj) (id : Nat) (bs : List UInt8) (p : Nat) (e : Int) : Prop := H[id]? = some (rd bs p e)

theorem rd_ren (ρ : Nat → Nat) (bs : List UInt8) (p e : Int) : AObj.ren ρ (rd bs p e) = rd bs p e := rfl

theorem num_spec {H : List AObj} {id : Nat} {bs : List UInt8} {p : Nat} {e : Int} (most : Int) (hb : bs.length ≤ big) (hp : p ≤ bs.length) (h : At H id bs p e) :
    ASpec Try.prog 143 [.ptr id 0, .int .i64 most] H (fun r H' => r = .int .i64 (numM bs p e most).1 ∧ H' = H.set id (rd bs (numM bs p e most).2.1 (numM bs p e most).2.2)) :=
  ASpec.oneH H id (num_spec0 e most hb hp) _ _ _ rfl rfl h rfl

theorem str_spec {H : List AObj} {id : Nat} {bs : List UInt8} {p : Nat} {e : Int} (most : Int) (hb : bs.length ≤ big) (hp : p ≤ bs.length) (h : At H id bs p e) :
    ASpec Try.prog 145 [.ptr id 0, .int .i64 most] H (fun r H' => r = .str (B (strM bs p e most).1) ∧ H' = H.set id (rd bs (strM bs p e most).2.1 (strM bs p e most).2.2)) :=
  ASpec.oneH H id (str_spec0 e most hb hp) _ _ _ rfl rfl h rfl

theorem set_same {α : Type _} {l : List α} {i : Nat} {a : α} (h : l[i]? = some a) : l.set i a = l := by
  apply List.ext_getElem?
  intro j
  rw [List.getElem?_set]
  split
  · rename_i e; subst e
    have := (List.getElem?_eq_some_iff.1 h).1
    simp only [this, if_true]
    exact h.symm
  · rfl

theorem err_spec {H : List AObj} {id : Nat} {bs : List UInt8} {p : Nat} {e : Int} (h : At H id bs p e) : ASpec Try.prog 144 [.ptr id 0] H (fun r H' => r = .int .i64 e ∧ H' = H) := by
  have k : ASpec Try.prog 144 [.ptr 0 0] [rd bs p e] (fun r H' => r = .int .i64 e ∧ H' = [rd bs p e]) := s144 _ _ _ _ ⟨rfl, rfl⟩
  have := ASpec.oneH H id k [.ptr id 0] (.int .i64 e) (rd bs p e) rfl rfl h rfl
  rw [set_same h] at this
  exact this

theorem left_spec {H : List AObj} {id : Nat} {bs : List UInt8} {p : Nat} {e : Int} (hb : bs.length ≤ big) (hp : p ≤ bs.length) (h : At H id bs p e) : ASpec Try.prog 251 [.ptr id 0] H (fun r H' => r = .int .i64 (bs.length - p : Nat) ∧ H' = H) := by
  have k : ASpec Try.prog 251 [.ptr 0 0] [rd bs p e] (fun r H' => r = .int .i64 (bs.length - p : Nat) ∧ H' = [rd bs p e]) := by
    refine s251 _ _ _ _ ⟨?_, rfl⟩
    unfold big at hb
    rw [wrap64 (by omega) (by omega)]
    congr 1
    omega
  have := ASpec.oneH H id k [.ptr id 0] (.int .i64 (bs.length - p : Nat)) (rd bs p e) rfl rfl h rfl
  rw [set_same h] at this
  exact this

theorem copied_all (bs : List UInt8) (l : List (List AV)) (hl : l.length = bs.length) : (copied (.raw l) 0 (.map encB 0 bs)).toList = bs.map encB := by
  simp [copied, Seq.toList, hl]

theorem open_spec (bs : List UInt8) (hb : bs.length ≤ big) (H : List AObj) : ASpec Try.prog 142 [.sl 1 (.map encB 0 bs) .none] H (fun r H' => r = .ptr H.length 0 ∧ H' = H ++ [rd bs 0 0]) := by
  have k : ASpec Try.prog 142 [.sl 1 (.map encB 0 bs) .none] [] (fun r H' => r = .ptr 0 0 ∧ H' = [rd bs 0 0]) := by
    unfold big at hb
    refine s142 _ _ _ (needJ ⟨by omega, by omega, by omega, by omega⟩ (needJ oneB (needJ (by simp) ?_)))
    generalize hq : copied _ _ _ = q
    have hq2 : q.toList = bs.map encB := by rw [← hq]; exact copied_all _ _ (by simp)
    refine AWP.re (ReSt.freeze (id := 0) (sz := 1) (q := q) (s2 := [(3, .sl 1 (.map encB 0 bs) .none)]) rfl (by simp) (fun d => ?_)) ?_
    · by_cases e : d = 3
      · subst e
        right; right
        exact ⟨0, bs.length, .map encB 0 bs, rfl, by rw [hq2]; simp, rfl, by rw [hq2]; simp [Seq.toList, List.take_of_length_le]⟩
      · left
        have : Nat.beq 3 d = false := by
          cases hx : Nat.beq 3 d with
          | false => rfl
          | true => exact absurd (Nat.eq_of_beq_eq_true hx).symm e
        simp only [Ab.get, this]; rfl
    · exact AWP.shape [] [(3, .sl 1 (.map encB 0 bs) .none)] [] Sel.none ⟨rfl, Le.refl _, trivial⟩ (v142_3 _ _ _ ⟨rfl, rfl⟩)
  exact ASpec.anyH H k _ _ _ rfl rfl rfl

theorem put_spec' {args : List AV} {bs : List UInt8} {ns : List Int} {H : List AObj} {Post : AV → List AObj → Prop} (hle : Les args [.sl 1 (.map encB 0 bs) .none, .sl 1 (.map encI 0 ns) .none]) (hb : bs.length + 7 * ns.length ≤ big)
    (h : Post (.sl 1 (.map encB 0 (putM bs ns)) (.tok H.length)) (H ++ [.tok])) : ASpec Try.prog 140 args H Post := ASpec.call (put_spec bs ns hb H) hle h

theorem leNil : Le (.sl 0 (.raw []) .nil) (.sl 1 (.map encB 0 []) .none) := Le.sl rfl (.inr ⟨rfl, fun _ h => by cases h⟩) (.inr rfl)
theorem leOne (x : Int) : Le (.sl 1 (.raw [[.int .i64 x]]) .full) (.sl 1 (.map encI 0 [x]) .none) := Le.sl rfl (.inl rfl) (.inr rfl)

theorem put1 (x : Int) (H : List AObj) {Post : AV → List AObj → Prop} (h : Post (.sl 1 (.map encB 0 (enc (held x))) (.tok H.length)) (H ++ [.tok])) : ASpec Try.prog 140 [.sl 0 (.raw []) .nil, .sl 1 (.raw [[.int .i64 x]]) .full] H Post :=
  put_spec' (bs := []) (ns := [x]) ⟨leNil, leOne x, trivial⟩ (by unfold big; simp) (by simpa [putM] using h)

end V
end

section
/- VlqOrder: the law's function returns true. -/

set_option linter.unusedVariables false
set_option linter.unusedSimpArgs false
open Go Go.Ab Go.Proofs
namespace V

theorem less_pre (l : List UInt8) {a b : List UInt8} (h : Op.bytesLess a b = true) : Op.bytesLess (l ++ a) (l ++ b) = true := by
  induction l with
  | nil => exact h
  | cons c l ih => simp [Op.bytesLess, ih]

theorem less_app : ∀ {a b : List UInt8}, a.length = b.length → Op.bytesLess a b = true → ∀ x y : List UInt8, Op.bytesLess (a ++ x) (b ++ y) = true
  | [], [], _, h, x, y => by simp [Op.bytesLess] at h
  | c :: a, d :: b, hl, h, x, y => by
    simp only [Op.bytesLess, List.cons_append, Bool.or_eq_true, Bool.and_eq_true, decide_eq_true_eq, beq_iff_eq] at h ⊢
    rcases h with h | ⟨h1, h2⟩
    · exact .inl h
    · exact .inr ⟨h1, less_app (by simpa using hl) h2 x y⟩
  | [], _ :: _, hl, _, _, _ => by simp at hl
  | _ :: _, [], hl, _, _, _ => by simp at hl

def Below' (a b : List UInt8) : Prop := a.length < b.length ∨ (a.length = b.length ∧ Op.bytesLess a b = true)

theorem ofNat_lt {a b : Nat} (hb : b < 256) (h : a < b) : UInt8.ofNat a < UInt8.ofNat b := by
  rw [UInt8.lt_iff_toNat_lt, UInt8.toNat_ofNat', UInt8.toNat_ofNat', Nat.mod_eq_of_lt (by omega), Nat.mod_eq_of_lt (by omega)]
  exact h

theorem below_snoc {a b : List UInt8} {c d : UInt8} (h : Below' a b ∨ (a = b ∧ c < d)) : Below' (a ++ [c]) (b ++ [d]) := by
  rcases h with (h | ⟨h1, h2⟩) | ⟨rfl, h⟩
  · left; simp; exact h
  · right; exact ⟨by simp [h1], less_app h1 h2 _ _⟩
  · right; exact ⟨by simp, less_pre a (by simp [Op.bytesLess, h])⟩

theorem lead_order : ∀ (n a b : Nat), b ≤ n → a < b → Below' (lead a) (lead b)
  | 0, a, b, hn, h => by omega
  | n + 1, a, b, hn, h => by
    rcases Nat.eq_zero_or_pos a with e | e
    · subst e
      rw [lead_zero, lead_pos h]
      left; simp
    · rw [lead_pos e, lead_pos (by omega : 0 < b)]
      refine below_snoc ?_
      rcases Nat.lt_or_ge (a / 128) (b / 128) with q | q
      · exact .inl (lead_order n _ _ (by omega) q)
      · have : a / 128 = b / 128 := by omega
        exact .inr ⟨by rw [this], ofNat_lt (by omega) (by omega)⟩

theorem enc_order {a b : Nat} (h : a < b) : Below' (enc a) (enc b) := by
  unfold enc
  refine below_snoc ?_
  rcases Nat.lt_or_ge (a / 128) (b / 128) with q | q
  · exact .inl (lead_order _ _ _ (Nat.le_refl _) q)
  · have : a / 128 = b / 128 := by omega
    exact .inr ⟨by rw [this], ofNat_lt (by omega) (by omega)⟩

/-- a law's end: true, whatever is left in the heap -/
theorem endTrue {P : Program} {f : FuncId} {args : List AV} (h : ASpec P f args [] (fun r _ => r = .bool true)) : ASpec P f args [] (fun r H' => r = .bool true ∧ H' = []) :=
  ASpec.sel (h.mono fun r H' e => ⟨[], [], .bool true, Sel.none, by subst e; exact Le.refl _, rfl, rfl⟩)

end V
end

section
/- VlqBack: what was put is read: the law's function returns true. -/

set_option linter.unusedVariables false
set_option linter.unusedSimpArgs false
open Go Go.Ab Go.Proofs
namespace V

theorem text_spec (bs s : List UInt8) (hb : bs.length + s.length + 100 ≤ big) (H : List AObj) :
    ASpec Try.prog 141 [.sl 1 (.map encB 0 bs) .none, .str (B s)] H (fun r H' => r = .sl 1 (.map encB 0 (bs ++ enc (held s.length) ++ s)) (.tok H.length) ∧ H' = H ++ [.tok]) := by
  refine ASpec.anyH (args := [.sl 1 (.map encB 0 bs) .none, .str (B s)]) (r0 := .sl 1 (.map encB 0 (bs ++ enc (held s.length) ++ s)) (.tok 0)) (Hl := [.tok]) H ?_ _ _ _ rfl rfl rfl
  have hel := enc_length (held s.length) (held_le _)
  unfold big at hb
  refine ASpec.sel (s141 _ _ _ _ (put_spec' (bs := bs) (ns := [(s.length : Int)]) ⟨Le.refl _, ?_, trivial⟩ (by unfold big; simp; omega) ⟨_, rfl, rfl, needJ oneB (needJ ?_ ?_)⟩))
  · rw [B_size]; exact leOne _
  · simp only [putM, Ab.Seq.len, bytesSeq, List.flatMap_cons, List.flatMap_nil, List.append_nil, List.length_append]
    have : (B s).data.toList.length = s.length := rfl
    omega
  · refine ⟨[1], [.tok], .sl 1 (.map encB 0 (bs ++ enc (held s.length) ++ s)) (.tok 0), selTok, Le.sl ?_ (.inl rfl) (.inl rfl), rfl, rfl⟩
    simp [Ab.Seq.toList, Seq.ren, encB, renL, AV.ren, bytesSeq, putM]
    rfl

theorem scan_lead (rest : List UInt8) : ∀ (m v f : Nat), v < 128 ^ m → (lead v).length ≤ f → scan f (lead v ++ rest) 0 0 = scan (f - (lead v).length) rest v (lead v).length
  | 0, v, f, hv, hf => by
    have : v = 0 := by simp at hv; omega
    subst this; simp [lead_zero]
  | m + 1, v, f, hv, hf => by
    rcases Nat.eq_zero_or_pos v with e | e
    · subst e; simp [lead_zero]
    · rw [lead_pos e, List.length_append, List.length_singleton, List.append_assoc] at *
      rw [scan_lead _ m (v / 128) f (by rw [Nat.div_lt_iff_lt_mul (by omega), ← Nat.pow_succ]; exact hv) (by omega)]
      have hd : (UInt8.ofNat (128 + v % 128)).toNat = 128 + v % 128 := by rw [UInt8.toNat_ofNat', Nat.mod_eq_of_lt (by omega)]
      rw [show f - (lead (v / 128)).length = (f - ((lead (v / 128)).length + 1)) + 1 by omega, List.singleton_append]
      simp only [scan]
      rw [hd, if_pos (by omega)]
      congr 1
      omega

theorem scan_enc (rest : List UInt8) {v : Nat} (hv : v ≤ 1099511627776) : scan 6 (enc v ++ rest) 0 0 = .inr (v, (enc v).length) := by
  have hl := lead_length 5 (v / 128) (by omega)
  unfold enc
  rw [List.append_assoc, scan_lead _ 5 (v / 128) 6 (by omega) (by omega), show 6 - (lead (v / 128)).length = (5 - (lead (v / 128)).length) + 1 by omega, List.singleton_append]
  have hd : (UInt8.ofNat (v % 128)).toNat = v % 128 := by rw [UInt8.toNat_ofNat', Nat.mod_eq_of_lt (by omega)]
  simp only [scan]
  rw [hd, if_neg (by omega)]
  congr 2
  · omega
  · simp

theorem lead_head : ∀ (m v : Nat), v < 128 ^ m → 0 < v → ∃ c l, lead v = c :: l ∧ c ≠ 128
  | 0, v, hv, h => by simp at hv; omega
  | m + 1, v, hv, h => by
    rw [lead_pos h]
    rcases Nat.eq_zero_or_pos (v / 128) with e | e
    · rw [e, lead_zero]
      refine ⟨_, _, rfl, fun hc => ?_⟩
      have := congrArg UInt8.toNat hc
      rw [UInt8.toNat_ofNat', Nat.mod_eq_of_lt (by omega)] at this
      have h2 : (128 : UInt8).toNat = 128 := rfl
      omega
    · obtain ⟨c, l, h1, h2⟩ := lead_head m (v / 128) (by rw [Nat.div_lt_iff_lt_mul (by omega), ← Nat.pow_succ]; exact hv) e
      exact ⟨c, l ++ [_], by rw [h1]; rfl, h2⟩

theorem enc_head {v : Nat} (hv : v ≤ 1099511627776) : ∃ c l, enc v = c :: l ∧ c ≠ 128 := by
  unfold enc
  rcases Nat.eq_zero_or_pos (v / 128) with e | e
  · rw [e, lead_zero]
    refine ⟨_, _, rfl, fun hc => ?_⟩
    have := congrArg UInt8.toNat hc
    rw [UInt8.toNat_ofNat', Nat.mod_eq_of_lt (by omega)] at this
    have h2 : (128 : UInt8).toNat = 128 := rfl
    omega
  · obtain ⟨c, l, h1, h2⟩ := lead_head 6 (v / 128) (by omega) e
    exact ⟨c, l ++ [_], by rw [h1]; rfl, h2⟩

theorem look_enc (rest : List UInt8) {v : Nat} {most : Int} (hv : v ≤ 1099511627776) (hm : (v : Int) ≤ most) : lookM (enc v ++ rest) most = ((v : Int), (enc v).length, 0) := by
  obtain ⟨c, l, h1, h2⟩ := enc_head hv
  have hs := scan_enc rest hv
  rw [h1, List.cons_append] at hs ⊢
  simp only [lookM, if_neg h2, hs]
  rw [if_neg (by omega)]

theorem leApp2 {a b : List UInt8} {tip : Tip} : Le (.sl 1 (.app (.app (.raw []) (.map encB 0 a)) (.map encB 0 b)) tip) (.sl 1 (.map encB 0 (a ++ b)) .none) :=
  Le.sl (by simp [Ab.Seq.toList]) (.inl rfl) (.inr rfl)

end V
end

section
/- The document's reader, and a reader that is none: what their methods compute, in any heap. -/

set_option linter.unusedVariables false
set_option linter.unusedSimpArgs false
open Go Go.Ab Go.Proofs
namespace V

/-- the document's reader -/
abbrev dr (l : List UInt8) (e : Int) : AObj := .cells [.str (B l), .int .i64 e]
abbrev AtD (H : List AObj) (id : Nat) (l : List UInt8) (e : Int) : Prop := H[id]? = some (dr l e)

def dnumM (l : List UInt8) (e most : Int) : Int × List UInt8 × Int :=
  if e ≠ 0 then (0, l, e) else ((lookM l most).1, l.drop (lookM l most).2.1, (lookM l most).2.2)
def dstrM (l : List UInt8) (e most : Int) : List UInt8 × List UInt8 × Int :=
  if e ≠ 0 then ([], l, e) else if (lookM l most).2.2 ≠ 0 then ([], l, (lookM l most).2.2) else
    if (lookM l most).1 > (l.length : Int) - ((lookM l most).2.1 : Nat) then ([], l, 2) else
    ((l.drop (lookM l most).2.1).take (lookM l most).1.toNat, l.drop ((lookM l most).2.1 + (lookM l most).1.toNat), 0)

theorem dnum_spec0 (l : List UInt8) (e most : Int) (hl : l.length ≤ 10 * big) :
    ASpec Try.prog 147 [.ptr 0 0, .int .i64 most] [dr l e] (fun r H' => r = .int .i64 (dnumM l e most).1 ∧ H' = [dr (dnumM l e most).2.1 (dnumM l e most).2.2]) := by
  refine s147 _ _ _ _ (condNe (fun he => ?_) fun he => ?_)
  · rw [show dnumM l e most = (0, l, e) by simp only [dnumM, if_pos he]]
    exact ⟨rfl, rfl⟩
  · subst he
    rw [show dnumM l 0 most = ((lookM l most).1, l.drop (lookM l most).2.1, (lookM l most).2.2) by simp [dnumM]]
    obtain ⟨h1, h2, h3, h4⟩ := lookM_le l most
    refine ASpec.call (look_spec l most hl _) (Les.refl _) ⟨((lookM l most).1, ((lookM l most).2.1 : Nat), (lookM l most).2.2), rfl, rfl, needJ ?_ ⟨rfl, ?_⟩⟩
    · simp only [B_size]; omega
    · simp only [Int.toNat_natCast, B_size]
      rw [B_extract _ _ _ (Nat.le_refl _), List.take_of_length_le (Nat.le_refl _)]

theorem dstr_spec0 (l : List UInt8) (e most : Int) (hl : l.length ≤ 10 * big) :
    ASpec Try.prog 148 [.ptr 0 0, .int .i64 most] [dr l e] (fun r H' => r = .str (B (dstrM l e most).1) ∧ H' = [dr (dstrM l e most).2.1 (dstrM l e most).2.2]) := by
  refine s148 _ _ _ _ (condNe (fun he => ?_) fun he => ?_)
  · rw [show dstrM l e most = ([], l, e) by simp only [dstrM, if_pos he]]
    exact ⟨rfl, rfl⟩
  · subst he
    obtain ⟨h1, h2, h3, h4⟩ := lookM_le l most
    refine ASpec.call (look_spec l most hl _) (Les.refl _) ⟨((lookM l most).1, ((lookM l most).2.1 : Nat), (lookM l most).2.2), rfl, rfl, ?_⟩
    have hs : dstrM l 0 most = if (lookM l most).2.2 ≠ 0 then ([], l, (lookM l most).2.2) else
      if (lookM l most).1 > (l.length : Int) - ((lookM l most).2.1 : Nat) then ([], l, 2) else
      ((l.drop (lookM l most).2.1).take (lookM l most).1.toNat, l.drop ((lookM l most).2.1 + (lookM l most).1.toNat), 0) := by simp [dstrM]
    rw [hs]
    generalize lookM l most = q at h1 h2 h3 h4 ⊢
    obtain ⟨n, k, er⟩ := q
    unfold big at hl
    simp only at h1 h2 h3 h4 ⊢
    simp only [B_size]
    refine condE (fun he => ?_) fun he => ?_
    · subst he
      rw [wrap64 (x := (l.length : Int) - ((k : Nat) : Int)) (by omega) (by omega)]
      refine condD (fun hg => ?_) fun hg => ?_
      · rw [if_neg (by simp), if_pos hg]; exact ⟨rfl, rfl⟩
      · rw [if_neg (by simp), if_neg hg]
        have hw : IntKind.wrap .i64 (((k : Nat) : Int) + n) = ((k + n.toNat : Nat) : Int) := by
          rw [wrap64 (x := ((k : Nat) : Int) + n) (by omega) (by omega)]; omega
        refine condNe (fun h => (h rfl).elim) fun _ => ?_
        rw [hw]
        refine needJ (by omega) (needJ (by omega) ?_)
        simp only [Int.toNat_natCast]
        rw [B_extract _ _ _ (by omega), B_extract _ _ _ (Nat.le_refl _), List.take_of_length_le (Nat.le_refl _), List.drop_take, show k + n.toNat - k = n.toNat by omega]
        exact ⟨rfl, rfl⟩
    · refine condNe (fun h => ?_) fun h => (he h).elim
      rw [if_pos he]; exact ⟨rfl, rfl⟩

theorem dnum_spec {H : List AObj} {id : Nat} {l : List UInt8} {e : Int} (most : Int) (hl : l.length ≤ 10 * big) (h : AtD H id l e) :
    ASpec Try.prog 147 [.ptr id 0, .int .i64 most] H (fun r H' => r = .int .i64 (dnumM l e most).1 ∧ H' = H.set id (dr (dnumM l e most).2.1 (dnumM l e most).2.2)) :=
  ASpec.oneH H id (dnum_spec0 l e most hl) _ _ _ rfl rfl h rfl
theorem dstr_spec {H : List AObj} {id : Nat} {l : List UInt8} {e : Int} (most : Int) (hl : l.length ≤ 10 * big) (h : AtD H id l e) :
    ASpec Try.prog 148 [.ptr id 0, .int .i64 most] H (fun r H' => r = .str (B (dstrM l e most).1) ∧ H' = H.set id (dr (dstrM l e most).2.1 (dstrM l e most).2.2)) :=
  ASpec.oneH H id (dstr_spec0 l e most hl) _ _ _ rfl rfl h rfl

/-- an error is noted -/
def badM (e x : Int) : Int := if e = 0 then x else e

def closeM (e : Int) (left : Nat) : Int := if e ≠ 0 then e else if 0 < left then 3 else 0

theorem close_spec {H : List AObj} {id : Nat} {bs : List UInt8} {p : Nat} {e : Int} (hb : bs.length ≤ big) (hp : p ≤ bs.length) (h : At H id bs p e) :
    ASpec Try.prog 146 [.ptr id 0] H (fun r H' => r = .int .i64 (closeM e (bs.length - p)) ∧ H' = H) := by
  have k : ASpec Try.prog 146 [.ptr 0 0] [rd bs p e] (fun r H' => r = .int .i64 (closeM e (bs.length - p)) ∧ H' = [rd bs p e]) := by
    refine s146 _ _ _ _ (ASpec.call (err_spec (id := 0) (bs := bs) (p := p) (e := e) rfl) (Les.refl _) ⟨e, rfl, rfl, ?_⟩)
    refine condNe (fun he => ?_) fun he => ?_
    · rw [show closeM e (bs.length - p) = e from if_pos he]; exact ⟨rfl, rfl⟩
    · subst he
      refine ASpec.call (left_spec (id := 0) (bs := bs) (p := p) (e := 0) hb hp rfl) (Les.refl _) ⟨_, rfl, rfl, ?_⟩
      refine condD (fun hc => ?_) fun hc => ?_
      · rw [show closeM 0 (bs.length - p) = 3 by simp only [closeM]; rw [if_neg (by simp), if_pos (by omega)]]; exact ⟨rfl, rfl⟩
      · rw [show closeM 0 (bs.length - p) = 0 by simp only [closeM]; rw [if_neg (by simp), if_neg (by omega)]]; exact ⟨rfl, rfl⟩
  have := ASpec.oneH H id k [.ptr id 0] (.int .i64 (closeM e (bs.length - p))) (rd bs p e) rfl rfl h rfl
  rw [set_same h] at this
  exact this

theorem condSn {a b : List UInt8} {A C : Prop} (h1 : a ≠ b → A) (h2 : a = b → C) : condP (!(B a).toList == (B b).toList) A C := by
  rw [B_beq]
  by_cases h : a = b
  · rw [beq_iff_eq.2 h]; exact h2 h
  · rw [beq_eq_false_iff_ne.2 h]; exact h1 h

theorem dclose_spec {H : List AObj} {id : Nat} {l : List UInt8} {e : Int} (h : AtD H id l e) :
    ASpec Try.prog 149 [.ptr id 0] H (fun r H' => r = .int .i64 (closeM e l.length) ∧ H' = H) := by
  have k : ASpec Try.prog 149 [.ptr 0 0] [dr l e] (fun r H' => r = .int .i64 (closeM e l.length) ∧ H' = [dr l e]) := by
    refine s149 _ _ _ (condE (fun he => condSn (b := []) (fun hl => ?_) fun hl => ?_) fun he => ?_)
    · subst he
      rw [show closeM 0 l.length = 3 by simp only [closeM]; rw [if_neg (by simp), if_pos (List.length_pos_iff.2 hl)]]; exact ⟨rfl, rfl⟩
    · subst he; subst hl
      exact ⟨rfl, rfl⟩
    · rw [show closeM e l.length = e from if_pos he]; exact ⟨rfl, rfl⟩
  have := ASpec.oneH H id k [.ptr id 0] (.int .i64 (closeM e l.length)) (dr l e) rfl rfl h rfl
  rw [set_same h] at this
  exact this

/-! ### a reader that is none -/

theorem numn_spec (most : Int) (H : List AObj) : ASpec Try.prog 143 [.nilp, .int .i64 most] H (fun r H' => r = .int .i64 0 ∧ H' = H) :=
  ASpec.pureH H (s143n most _ ⟨rfl, rfl⟩) _ _ rfl rfl
theorem strn_spec (most : Int) (H : List AObj) : ASpec Try.prog 145 [.nilp, .int .i64 most] H (fun r H' => r = .str (B []) ∧ H' = H) :=
  ASpec.pureH H (s145n most _ ⟨rfl, rfl⟩) _ _ rfl rfl
theorem errn_spec (H : List AObj) : ASpec Try.prog 144 [.nilp] H (fun r H' => r = .int .i64 1 ∧ H' = H) :=
  ASpec.pureH H (s144n _ ⟨rfl, rfl⟩) _ _ rfl rfl
theorem leftn_spec (H : List AObj) : ASpec Try.prog 251 [.nilp] H (fun r H' => r = .int .i64 0 ∧ H' = H) :=
  ASpec.pureH H (s251n _ ⟨rfl, rfl⟩) _ _ rfl rfl
theorem closen_spec (H : List AObj) : ASpec Try.prog 146 [.nilp] H (fun r H' => r = .int .i64 1 ∧ H' = H) :=
  ASpec.pureH H (s146n _ (ASpec.call (errn_spec []) (Les.refl _) ⟨1, rfl, rfl, ⟨rfl, rfl⟩⟩)) _ _ rfl rfl

/-! ### the reader and the document's -/

theorem num_doc (bs : List UInt8) (p : Nat) (e most : Int) (hp : p ≤ bs.length) :
    dnumM (bs.drop p) e most = ((numM bs p e most).1, bs.drop (numM bs p e most).2.1, (numM bs p e most).2.2) ∧ (numM bs p e most).2.1 ≤ bs.length := by
  have h := (lookM_le (bs.drop p) most).1
  rw [List.length_drop] at h
  unfold dnumM numM
  split
  · exact ⟨rfl, hp⟩
  · refine ⟨by simp [List.drop_drop], by simp only; omega⟩

theorem str_doc (bs : List UInt8) (p : Nat) (e most : Int) (hp : p ≤ bs.length) :
    dstrM (bs.drop p) e most = ((strM bs p e most).1, bs.drop (strM bs p e most).2.1, (strM bs p e most).2.2) ∧ (strM bs p e most).2.1 ≤ bs.length := by
  obtain ⟨h, h2, -, -⟩ := lookM_le (bs.drop p) most
  rw [List.length_drop] at h
  unfold dstrM strM
  simp only [List.length_drop]
  split
  · exact ⟨rfl, hp⟩
  split
  · exact ⟨rfl, hp⟩
  split
  · rename_i hg
    rw [if_pos (by omega)]
    exact ⟨rfl, hp⟩
  · rename_i hg
    rw [if_neg (by omega)]
    refine ⟨by simp [List.drop_drop, Nat.add_assoc], by simp only; omega⟩

end V
end

section
/- Stamps: what the code and the document sum up, close and open. -/

set_option linter.unusedVariables false
set_option linter.unusedSimpArgs false
open Go Go.Ab Go.Proofs V
namespace Go.Ab

theorem Le.tup {l r : List AV} (h : Les l r) : Le (.tup l) (.tup r) := by
  intro M w loc v hv
  cases hv with
  | tup _ vs hs hr =>
    have hl := h.len
    exact .tup _ vs (by omega) fun i hi => h.get i (by omega) hi M w loc _ (hr i (by omega))

theorem Le.agg {l r : List AV} (h : Les l r) : Le (.agg l) (.agg r) := by
  intro M w loc v hv
  cases hv with
  | agg _ vs hs hr =>
    have hl := h.len
    exact .agg _ vs (by omega) fun i hi => h.get i (by omega) hi M w loc _ (hr i (by omega))

theorem wrapU32 {x : Int} : IntKind.wrap .u32 x = x % 4294967296 := by
  simp only [IntKind.wrap, IntKind.bits, IntKind.signed]
  have e : (2 : Int) ^ 32 = 4294967296 := by decide
  simp only [e, Bool.false_and]
  simp

theorem wrapU32N {n : Nat} (h : n < 4294967296) : IntKind.wrap .u32 (n : Int) = n := by
  rw [wrapU32]; omega

theorem wrapU8N (n : Nat) : IntKind.wrap .u8 (n : Int) = ((n % 256 : Nat) : Int) := by
  rw [wrapU8]; omega

theorem bvx {x c : Nat} (hx : x < 4294967296) (hc : c < 4294967296) : (BitVec.ofInt 32 (x : Int) ^^^ BitVec.ofInt 32 (c : Int)).toNat = x ^^^ c := by
  rw [BitVec.ofInt_natCast, BitVec.ofInt_natCast, BitVec.toNat_xor, BitVec.toNat_ofNat, BitVec.toNat_ofNat, Nat.mod_eq_of_lt (by simpa using hx), Nat.mod_eq_of_lt (by simpa using hc)]

theorem bvo {x c : Nat} (hx : x < 4294967296) (hc : c < 4294967296) : (BitVec.ofInt 32 (x : Int) ||| BitVec.ofInt 32 (c : Int)).toNat = x ||| c := by
  rw [BitVec.ofInt_natCast, BitVec.ofInt_natCast, BitVec.toNat_or, BitVec.toNat_ofNat, BitVec.toNat_ofNat, Nat.mod_eq_of_lt (by simpa using hx), Nat.mod_eq_of_lt (by simpa using hc)]

theorem fdivN (n k : Nat) : Int.fdiv (n : Int) (k : Int) = ((n / k : Nat) : Int) := by
  rw [Int.fdiv_eq_ediv_of_nonneg _ (by omega)]; simp

end Go.Ab
namespace S

def fnv : Nat → List UInt8 → Nat
  | n, [] => n
  | n, c :: l => fnv ((n ^^^ c.toNat) * 16777619 % 4294967296) l

theorem fnv_lt : ∀ (l : List UInt8) (n : Nat), n < 4294967296 → fnv n l < 4294967296
  | [], n, h => h
  | c :: l, n, h => fnv_lt l _ (Nat.mod_lt _ (by omega))

abbrev sum (l : List UInt8) : Nat := fnv 2166136261 l
theorem sum_lt (l : List UInt8) : sum l < 4294967296 := fnv_lt l _ (by omega)

def be4 (n : Nat) : List UInt8 := [UInt8.ofNat (n / 16777216), UInt8.ofNat (n / 65536), UInt8.ofNat (n / 256), UInt8.ofNat n]
def beV (l : List UInt8) : Nat := l.foldl (fun s c => s * 256 + c.toNat) 0
def sealM (l : List UInt8) : List UInt8 := l ++ be4 (sum l)
def openM (l : List UInt8) : List UInt8 × Bool :=
  if l.length < 4 then ([], false) else if sealM (l.take (l.length - 4)) = l then (l.take (l.length - 4), true) else ([], false)

theorem u8_ext {a b : UInt8} (h : a.toNat = b.toNat) : a = b := UInt8.toNat_inj.1 h

theorem be4_beV {q : List UInt8} (h : q.length = 4) : be4 (beV q) = q := by
  match q, h with
  | [a, b, c, d], _ =>
    have ha := a.toNat_lt; have hb := b.toNat_lt; have hc := c.toNat_lt; have hd := d.toNat_lt
    simp only [beV, be4, List.foldl]
    refine List.cons_eq_cons.2 ⟨u8_ext ?_, List.cons_eq_cons.2 ⟨u8_ext ?_, List.cons_eq_cons.2 ⟨u8_ext ?_, List.cons_eq_cons.2 ⟨u8_ext ?_, rfl⟩⟩⟩⟩ <;> (rw [UInt8.toNat_ofNat']; omega)

theorem beV_be4 {v : Nat} (h : v < 4294967296) : beV (be4 v) = v := by
  simp only [beV, be4, List.foldl, UInt8.toNat_ofNat']
  omega

theorem seal_iff {l : List UInt8} (h : 4 ≤ l.length) : sealM (l.take (l.length - 4)) = l ↔ sum (l.take (l.length - 4)) = beV (l.drop (l.length - 4)) := by
  have hd : (l.drop (l.length - 4)).length = 4 := by simp; omega
  constructor
  · intro e
    have : be4 (sum (l.take (l.length - 4))) = l.drop (l.length - 4) := by
      have e2 : l.take (l.length - 4) ++ be4 (sum (l.take (l.length - 4))) = l.take (l.length - 4) ++ l.drop (l.length - 4) := by rw [List.take_append_drop]; exact e
      exact List.append_cancel_left e2
    rw [← this, beV_be4 (sum_lt _)]
  · intro e
    unfold sealM
    rw [e, be4_beV hd, List.take_append_drop]

/-! ### xor, bit by bit -/

theorem xor_step (a b : Nat) : a ^^^ b = 2 * ((a / 2) ^^^ (b / 2)) + (if a % 2 ≠ b % 2 then 1 else 0) := by
  have h1 := Nat.xor_div_two (a := a) (b := b)
  have h2 := Nat.xor_mod_two_eq_one (a := a) (b := b)
  split <;> omega

set_option maxRecDepth 100000 in
theorem xor3 {Post : AV → List AObj → Prop} : ∀ (m a b n w : Nat), m ≤ 8 → w * 2 ^ m = 256 → a < 2 ^ m → b < 2 ^ m → n < w → Post (.int .i64 ((n + w * (a ^^^ b) : Nat) : Int)) [] →
    AWP Try.prog 24 0 c373_3 [(0, .int .i64 a), (1, .int .i64 b), (5, .int .i64 n), (6, .int .i64 w)] [] (q373_2 0 Post) := by
  intro m
  induction m with
  | zero =>
    intro a b n w _ hw ha hb hn h
    refine v373_3 _ _ _ _ _ _ (condD (fun hc => by simp at hw; omega) fun _ => ?_)
    have ha0 : a = 0 := by simpa using ha
    have hb0 : b = 0 := by simpa using hb
    subst ha0; subst hb0
    simpa using h
  | succ m ih =>
    intro a b n w hm hw ha hb hn h
    rw [Nat.pow_succ] at hw ha hb
    have hp : 1 ≤ 2 ^ m := Nat.one_le_two_pow
    have hw2 : w ≤ 128 := by
      have : w * 2 ≤ 256 := by
        rw [← hw, ← Nat.mul_assoc]
        calc w * 2 = w * 1 * 2 := by omega
          _ ≤ w * 2 ^ m * 2 := Nat.mul_le_mul_right _ (Nat.mul_le_mul_left _ hp)
      omega
    have e := xor_step a b
    have ha9 : a < 2 ^ 8 := Nat.lt_of_lt_of_le ha (by rw [← Nat.pow_succ]; exact Nat.pow_le_pow_right (by omega) hm)
    have hb9 : b < 2 ^ 8 := Nat.lt_of_lt_of_le hb (by rw [← Nat.pow_succ]; exact Nat.pow_le_pow_right (by omega) hm)
    have tail : ∀ (n' : Nat), n' < w * 2 → n' + w * 2 * ((a / 2) ^^^ (b / 2)) = n + w * (a ^^^ b) → AWP Try.prog 24 0 c373_6 [(0, .int .i64 a), (1, .int .i64 b), (5, .int .i64 n'), (6, .int .i64 w)] [] (q373_4 0 Post) := by
      intro n' hn' hq
      refine v373_6 _ _ _ _ _ _ (needJ (by decide) (needJ (by decide) ?_))
      rw [show (2 : Int) = ((2 : Nat) : Int) from rfl, tdivN, tdivN, wrapN (by omega), wrapN (by omega), ← Int.natCast_mul, wrapN (by omega)]
      refine ih (a / 2) (b / 2) n' (w * 2) (by omega) (by rw [← hw, Nat.mul_assoc, Nat.mul_comm 2]) (by omega) (by omega) hn' ?_
      rw [hq]; exact h
    refine v373_3 _ _ _ _ _ _ (condD (fun _ => needJ (by decide) (needJ (by decide) ?_)) fun hc => by omega)
    rw [show (2 : Int) = ((2 : Nat) : Int) from rfl, tmodN, tmodN]
    refine condNe (fun hne => ?_) fun heq => ?_
    · rw [← Int.natCast_add, wrapN (by omega)]
      refine tail (n + w) (by omega) ?_
      rw [if_pos (by omega)] at e
      rw [e, Nat.mul_add, ← Nat.mul_assoc]
      omega
    · refine tail n (by omega) ?_
      rw [if_neg (by omega)] at e
      rw [e, Nat.mul_add, ← Nat.mul_assoc]
      omega

theorem xor_spec (a b : Nat) (ha : a < 256) (hb : b < 256) (H : List AObj) : ASpec Try.prog 373 [.int .i64 a, .int .i64 b] H (fun r H' => r = .int .i64 ((a ^^^ b : Nat) : Int) ∧ H' = H) := by
  have k : ASpec Try.prog 373 [.int .i64 a, .int .i64 b] [] (fun r H' => r = .int .i64 ((a ^^^ b : Nat) : Int) ∧ H' = []) :=
    s373 _ _ _ (xor3 8 a b 0 1 (by omega) (by decide) ha hb (by omega) ⟨by simp, rfl⟩)
  exact ASpec.pureH H k _ _ rfl rfl

theorem xor_low (n c : Nat) (hc : c < 256) : n - n % 256 + (n % 256 ^^^ c) = n ^^^ c := by
  have h1 : (n ^^^ c) / 2 ^ 8 = (n / 2 ^ 8) ^^^ (c / 2 ^ 8) := Nat.xor_div_two_pow
  have h2 : (n ^^^ c) % 2 ^ 8 = (n % 2 ^ 8) ^^^ (c % 2 ^ 8) := Nat.xor_mod_two_pow
  have e : (2 : Nat) ^ 8 = 256 := by decide
  rw [e] at h1 h2
  rw [Nat.div_eq_of_lt hc, Nat.xor_zero] at h1
  rw [Nat.mod_eq_of_lt hc] at h2
  rw [← h2]
  omega

theorem xor_lt {n c : Nat} (hn : n < 4294967296) (hc : c < 256) : n ^^^ c < 4294967296 := by
  have : n ^^^ c < 2 ^ 32 := Nat.xor_lt_two_pow (by omega) (by omega)
  omega

/-! ### sums -/

theorem rof3 {l : List UInt8} {Post : AV → List AObj → Prop} (hl : l.length ≤ 10 * big) : ∀ (m i n : Nat), m + i = l.length → n < 4294967296 → Post (.int .i64 (fnv n (l.drop i) : Nat)) [] →
    AWP Try.prog 28 0 c324_3 [(0, .str (B l)), (3, .int .i64 n), (4, .int .i64 i)] [] (q324_2 0 Post) := by
  unfold big at hl
  intro m
  induction m with
  | zero =>
    intro i n hm hn h
    refine v324_3 _ _ _ _ _ (condD (fun hc => by rw [B_size] at hc; omega) fun _ => ?_)
    rw [List.drop_eq_nil_of_le (by omega)] at h
    exact h
  | succ m ih =>
    intro i n hm hn h
    refine v324_3 _ _ _ _ _ (condD (fun hc => needJ (by decide) (needJ ⟨by omega, hc⟩ ?_)) fun hc => by rw [B_size] at hc; omega)
    have hg : (B l).data.toList.getD (Int.toNat (i : Int)) 0 = l.getD i 0 := rfl
    rw [hg]
    rw [getD_drop l i (by omega)] at h
    simp only [fnv] at h
    generalize l.getD i 0 = c at h ⊢
    have hc8 : c.toNat < 256 := c.toNat_lt
    rw [wrapN (n := c.toNat) (by omega), show (256 : Int) = ((256 : Nat) : Int) from rfl, tmodN]
    refine ASpec.call (xor_spec (n % 256) c.toNat (by omega) hc8 _) (Les.refl _) ⟨_, rfl, rfl, needJ (by decide) ?_⟩
    have hx := xor_low n c.toNat hc8
    have hx2 := xor_lt (n := n) (c := c.toNat) hn hc8
    have hx3 : n % 256 ^^^ c.toNat < 256 := by
      have : n % 256 ^^^ c.toNat < 2 ^ 8 := Nat.xor_lt_two_pow (by omega) (by omega)
      omega
    generalize n % 256 ^^^ c.toNat = y at hx hx3 ⊢
    generalize n ^^^ c.toNat = z at hx hx2 h
    rw [wrap64 (x := (n : Int) - ((n % 256 : Nat) : Int)) (by omega) (by omega), wrap64 (x := (n : Int) - ((n % 256 : Nat) : Int) + (y : Int)) (by omega) (by omega)]
    have e1 : ((n : Int) - ((n % 256 : Nat) : Int) + (y : Int)) = (z : Int) := by omega
    rw [e1, wrap64 (x := (z : Int) * 16777619) (by omega) (by omega)]
    have e2 : (z : Int) * 16777619 = ((z * 16777619 : Nat) : Int) := by simp
    rw [e2, show (4294967296 : Int) = ((4294967296 : Nat) : Int) from rfl, tmodN]
    rw [show IntKind.wrap .i64 ((i : Int) + 1) = ((i + 1 : Nat) : Int) by rw [wrap64 (by omega) (by omega)]; simp]
    exact ih (i + 1) _ (by omega) (Nat.mod_lt _ (by omega)) h

theorem rof_spec (l : List UInt8) (hl : l.length ≤ 10 * big) (H : List AObj) : ASpec Try.prog 324 [.str (B l)] H (fun r H' => r = .int .i64 (sum l : Nat) ∧ H' = H) := by
  have k : ASpec Try.prog 324 [.str (B l)] [] (fun r H' => r = .int .i64 (sum l : Nat) ∧ H' = []) :=
    s324 _ _ (rof3 hl l.length 0 2166136261 (by omega) (by omega) ⟨rfl, rfl⟩)
  exact ASpec.pureH H k _ _ rfl rfl

theorem on2 {l : List UInt8} {Post : AV → List AObj → Prop} (hl : l.length ≤ 10 * big) : ∀ (m i n : Nat), m + i = l.length → n < 4294967296 → Post (.int .u32 (fnv n (l.drop i) : Nat)) [] →
    AWP Try.prog 20 0 c393_2 [(0, .int .u32 n), (7, .sl 1 (.map encB 0 l) .none), (8, .int .i64 l.length), (9, .int .i64 i)] [] (q393_2 0 Post) := by
  unfold big at hl
  intro m
  induction m with
  | zero =>
    intro i n hm hn h
    refine v393_2 _ _ _ _ _ _ (condD (fun hc => by omega) fun _ => ?_)
    rw [List.drop_eq_nil_of_le (by omega)] at h
    exact h
  | succ m ih =>
    intro i n hm hn h
    refine v393_2 _ _ _ _ _ _ (condD (fun hc => needJ ⟨by omega, by omega⟩ ?_) fun hc => by omega)
    rw [Int.toNat_natCast]
    rw [getD_drop l i (by omega)] at h
    simp only [fnv] at h
    generalize l.getD i 0 = c at h ⊢
    have hc8 : c.toNat < 256 := c.toNat_lt
    have hx2 := xor_lt (n := n) (c := c.toNat) hn hc8
    rw [wrapU32N (n := c.toNat) (by omega), bvx hn (by omega), wrapU32N hx2]
    generalize n ^^^ c.toNat = z at hx2 h ⊢
    have e2 : IntKind.wrap .u32 ((z : Int) * 16777619) = ((z * 16777619 % 4294967296 : Nat) : Int) := by rw [wrapU32]; omega
    rw [e2]
    rw [show IntKind.wrap .i64 ((i : Int) + 1) = ((i + 1 : Nat) : Int) by rw [wrap64 (by omega) (by omega)]; simp]
    exact ih (i + 1) _ (by omega) (Nat.mod_lt _ (by omega)) h

theorem of_spec (l : List UInt8) (hl : l.length ≤ 10 * big) (H : List AObj) : ASpec Try.prog 372 [.sl 1 (.map encB 0 l) .none] H (fun r H' => r = .int .u32 (sum l : Nat) ∧ H' = H) := by
  have k1 : ASpec Try.prog 393 [.int .u32 2166136261, .sl 1 (.map encB 0 l) .none] [] (fun r H' => r = .int .u32 (sum l : Nat) ∧ H' = []) :=
    s393 _ _ _ (on2 hl l.length 0 2166136261 (by omega) (by omega) ⟨rfl, rfl⟩)
  have k : ASpec Try.prog 372 [.sl 1 (.map encB 0 l) .none] [] (fun r H' => r = .int .u32 (sum l : Nat) ∧ H' = []) :=
    s372 _ _ (ASpec.call k1 (Les.refl _) ⟨_, rfl, rfl, rfl, rfl⟩)
  exact ASpec.pureH H k _ _ rfl rfl

/-! ### sealing -/

theorem encB_mod (k : Nat) : [AV.int .u8 ((k % 256 : Nat) : Int)] = encB (UInt8.ofNat k) := by
  simp only [encB]
  rw [UInt8.toNat_ofNat']

theorem ofNat_mod (k : Nat) : UInt8.ofNat (k % 256) = UInt8.ofNat k := u8_ext (by rw [UInt8.toNat_ofNat', UInt8.toNat_ofNat']; omega)

theorem sealLe {q : Seq} {tip : Tip} {ρ : Nat → Nat} (l : List UInt8) (h : q.toList = l.map encB) : Le (.sl 1 q tip) (AV.ren ρ (.sl 1 (.map encB 0 l) .none)) :=
  Le.sl (s' := Seq.ren ρ (.map encB 0 l)) (by rw [h]; simp [Ab.Seq.toList, Seq.ren, encB, renL, AV.ren]) (.inl rfl) (.inr rfl)

theorem seal_spec (l : List UInt8) (hl : l.length + 100 ≤ big) (H : List AObj) : ASpec Try.prog 323 [.sl 1 (.map encB 0 l) .none] H (fun r H' => r = .sl 1 (.map encB 0 (sealM l)) .none ∧ H' = H) := by
  have k : ASpec Try.prog 323 [.sl 1 (.map encB 0 l) .none] [] (fun r H' => r = .sl 1 (.map encB 0 (sealM l)) .none ∧ H' = []) := by
    unfold big at hl
    have hs := sum_lt l
    refine ASpec.sel (s323 _ _ (ASpec.call (of_spec l (by unfold big; omega) []) (Les.refl _) ⟨_, rfl, rfl, ?_⟩))
    rw [show IntKind.wrap .i64 ((l.length : Int) + 4) = ((l.length + 4 : Nat) : Int) by rw [wrap64 (by omega) (by omega)]; simp]
    refine needJ (by omega) (needJ oneB (needJ (by omega) (needJ (by decide) (needJ (by decide) (needJ (by decide) (needJ (by omega) ?_))))))
    refine ⟨[], [], .sl 1 (.map encB 0 (sealM l)) .none, Sel.none, sealLe _ ?_, rfl, rfl⟩
    unfold sealM
    generalize sum l = v at hs
    rw [show (16777216 : Int) = ((16777216 : Nat) : Int) from rfl, show (65536 : Int) = ((65536 : Nat) : Int) from rfl, show (256 : Int) = ((256 : Nat) : Int) from rfl,
      fdivN, fdivN, fdivN, wrapU8N, wrapU8N, wrapU8N, wrapU8N, encB_mod, encB_mod, encB_mod, encB_mod]
    simp [Ab.Seq.toList, be4]
  exact ASpec.pureH H k _ _ rfl rfl

theorem rseal_spec (l : List UInt8) (hl : l.length + 100 ≤ big) (H : List AObj) : ASpec Try.prog 263 [.str (B l)] H (fun r H' => r = .str (B (sealM l)) ∧ H' = H) := by
  have k : ASpec Try.prog 263 [.str (B l)] [] (fun r H' => r = .str (B (sealM l)) ∧ H' = []) := by
    unfold big at hl
    have hs := sum_lt l
    refine s263 _ _ (ASpec.call (rof_spec l (by unfold big; omega) []) (Les.refl _) ⟨_, rfl, rfl, ?_⟩)
    unfold sealM
    generalize sum l = v at hs
    have d1 : Int.tdiv (v : Int) 16777216 = ((v / 16777216 : Nat) : Int) := tdivN v 16777216
    have d2 : Int.tdiv (v : Int) 65536 = ((v / 65536 : Nat) : Int) := tdivN v 65536
    have d3 : Int.tdiv (v : Int) 256 = ((v / 256 : Nat) : Int) := tdivN v 256
    have m2 : Int.tmod ((v / 65536 : Nat) : Int) 256 = ((v / 65536 % 256 : Nat) : Int) := tmodN (v / 65536) 256
    have m3 : Int.tmod ((v / 256 : Nat) : Int) 256 = ((v / 256 % 256 : Nat) : Int) := tmodN (v / 256) 256
    have m4 : Int.tmod (v : Int) 256 = ((v % 256 : Nat) : Int) := tmodN v 256
    have e : bytesOf (.raw [[.int .u8 ((v / 16777216 % 256 : Nat) : Int)], [.int .u8 ((v / 65536 % 256 % 256 : Nat) : Int)], [.int .u8 ((v / 256 % 256 % 256 : Nat) : Int)], [.int .u8 ((v % 256 % 256 : Nat) : Int)]]) = B (be4 v) := by
      simp only [bytesOf, Ab.Seq.toList, List.map, cellByte, Int.toNat_natCast, ofNat_mod, be4]
    rw [d1, d2, d3, wrapN (n := v / 16777216) (by omega), wrapN (n := v / 65536) (by omega), wrapN (n := v / 256) (by omega), m2, m3, m4, wrapU8N, wrapU8N, wrapU8N, wrapU8N, e]
    refine needJ (by decide) (needJ (by decide) (needJ (by decide) (needJ (by decide) (needJ (by decide) (needJ (by decide) (needJ ?_ (needJ ?_ ⟨?_, rfl⟩)))))))
    · intro x hx
      simp only [Ab.Seq.toList, List.mem_cons, List.not_mem_nil, or_false] at hx
      rcases hx with rfl | rfl | rfl | rfl <;> exact ⟨_, rfl⟩
    · rw [B_size, B_size]
      have : (be4 v).length = 4 := rfl
      omega
    · rw [B_append]
  exact ASpec.pureH H k _ _ rfl rfl

/-! ### opening -/

theorem beV_lt : ∀ (l : List UInt8), beV l < 256 ^ l.length := by
  intro l
  have key : ∀ (l : List UInt8) (s k : Nat), s < 256 ^ k → l.foldl (fun s c => s * 256 + c.toNat) s < 256 ^ (k + l.length) := by
    intro l
    induction l with
    | nil => intro s k h; exact h
    | cons c l ih =>
      intro s k h
      have hc : c.toNat < 256 := c.toNat_lt
      have := ih (s * 256 + c.toNat) (k + 1) (by rw [Nat.pow_succ]; omega)
      rw [List.foldl_cons, List.length_cons, show k + (l.length + 1) = k + 1 + l.length by omega]
      exact this
  have := key l 0 0 (by simp)
  rw [Nat.zero_add] at this
  exact this

theorem or_low {s c : Nat} (hc : c < 256) : s * 256 ||| c = s * 256 + c := by
  have := Nat.two_pow_add_eq_or_of_lt (i := 8) (b := c) (by omega) s
  rw [show (2 : Nat) ^ 8 = 256 by decide, Nat.mul_comm] at this
  exact this.symm

theorem leNilT (ρ : Nat → Nat) : Le (.tup [.sl 0 (.raw []) .nil, .bool false]) (AV.ren ρ (.tup [.sl 1 (.map encB 0 []) .none, .bool false])) :=
  Le.tup ⟨Le.sl (s' := Seq.ren ρ (.map encB 0 [])) rfl (.inr ⟨rfl, fun _ h => by cases h⟩) (.inr rfl), Le.refl _, trivial⟩

theorem rsopen_spec (l : List UInt8) (hl : l.length + 100 ≤ big) (H : List AObj) :
    ASpec Try.prog 170 [.str (B l)] H (fun r H' => r = .tup [.str (B (openM l).1), .bool (openM l).2] ∧ H' = H) := by
  have k : ASpec Try.prog 170 [.str (B l)] [] (fun r H' => r = .tup [.str (B (openM l).1), .bool (openM l).2] ∧ H' = []) := by
    have hl' := hl
    unfold big at hl'
    refine s170 _ _ ?_
    rw [B_size, wrap64 (x := (l.length : Int) - 4) (by omega) (by omega)]
    refine condD (fun hc => ?_) fun hc => needJ ⟨by omega, by omega⟩ ?_
    · rw [show openM l = ([], false) by unfold openM; rw [if_pos (by omega)]]
      exact ⟨rfl, rfl⟩
    · rw [show ((l.length : Int) - 4) = ((l.length - 4 : Nat) : Int) by omega, Int.toNat_natCast, B_extract _ _ _ (by omega), List.drop_zero]
      refine ASpec.call (rseal_spec (l.take (l.length - 4)) (by simp; omega) []) (Les.refl _) ⟨_, rfl, rfl, condSn (fun hne => ?_) fun heq => needJ ⟨by omega, by omega⟩ ?_⟩
      · rw [show openM l = ([], false) by unfold openM; rw [if_neg (by omega), if_neg hne]]
        exact ⟨rfl, rfl⟩
      · rw [show openM l = (l.take (l.length - 4), true) by unfold openM; rw [if_neg (by omega), if_pos heq]]
        exact ⟨rfl, rfl⟩
  exact ASpec.pureH H k _ _ rfl rfl

end S
end

section
/- Labels: runes, kinds, and which names may be. -/

set_option linter.unusedVariables false
set_option linter.unusedSimpArgs false
set_option maxRecDepth 100000
open Go Go.Ab Go.Proofs V
namespace S

def kindM (c : Int) : Int := if 97 ≤ c ∧ c ≤ 122 then 0 else if 945 ≤ c ∧ c ≤ 969 then 1 else if 48 ≤ c ∧ c ≤ 57 then 2 else if c = 45 then 3 else 4

theorem kind_spec (c : Int) (H : List AObj) : ASpec Try.prog 253 [.int .i32 c] H (fun r H' => r = .int .i64 (kindM c) ∧ H' = H) := by
  have k : ASpec Try.prog 253 [.int .i32 c] [] (fun r H' => r = .int .i64 (kindM c) ∧ H' = []) := by
    refine s253 _ _ ?_
    repeat' (first | refine condD (fun _ => ?_) fun _ => ?_ | refine condE (fun _ => ?_) fun _ => ?_)
    all_goals (refine ⟨?_, rfl⟩; congr 1; unfold kindM; repeat' split)
    all_goals omega
  exact ASpec.pureH H k _ _ rfl rfl

theorem rkind_spec (c : Int) (H : List AObj) : ASpec Try.prog 165 [.int .i64 c] H (fun r H' => r = .int .i64 (kindM c) ∧ H' = H) := by
  have k : ASpec Try.prog 165 [.int .i64 c] [] (fun r H' => r = .int .i64 (kindM c) ∧ H' = []) := by
    refine s165 _ _ ?_
    repeat' (first | refine condD (fun _ => ?_) fun _ => ?_ | refine condE (fun _ => ?_) fun _ => ?_)
    all_goals (refine ⟨?_, rfl⟩; congr 1; unfold kindM; repeat' split)
    all_goals omega
  exact ASpec.pureH H k _ _ rfl rfl

theorem kindM_range (c : Int) : 0 ≤ kindM c ∧ kindM c ≤ 4 := by
  unfold kindM; repeat' split
  all_goals omega

/-! ### the rune at a place -/

/-- a byte behind a place -/
abbrev bt (l : List UInt8) (p k : Nat) : Nat := (l.getD (p + k) 0).toNat

theorem bt_lt (l : List UInt8) (p k : Nat) : bt l p k < 256 := (l.getD (p + k) 0).toNat_lt

theorem get_B (l : List UInt8) (j : Nat) : (B l).get! j = l.getD j 0 := by
  show l.toArray[j]! = _
  rw [getElem!_def]
  simp [List.getD]
  rfl

abbrev wideC (a b0 b1 b2 b3 : Nat) : Nat :=
  if 194 ≤ b0 ∧ b0 ≤ 223 then (if 2 ≤ a ∧ (128 ≤ b1 ∧ b1 ≤ 191) then 2 else 0)
  else if 224 ≤ b0 ∧ b0 ≤ 239 then (if 3 ≤ a ∧ (128 ≤ b1 ∧ b1 ≤ 191) ∧ (128 ≤ b2 ∧ b2 ≤ 191) ∧ ¬ (b0 = 224 ∧ b1 < 160) ∧ ¬ (b0 = 237 ∧ 159 < b1) then 3 else 0)
  else if 240 ≤ b0 ∧ b0 ≤ 244 then (if 4 ≤ a ∧ (128 ≤ b1 ∧ b1 ≤ 191) ∧ (128 ≤ b2 ∧ b2 ≤ 191) ∧ (128 ≤ b3 ∧ b3 ≤ 191) ∧ ¬ (b0 = 240 ∧ b1 < 144) ∧ ¬ (b0 = 244 ∧ 143 < b1) then 4 else 0)
  else 0

def wideM (l : List UInt8) (p : Nat) : Nat := wideC (l.length - p) (bt l p 0) (bt l p 1) (bt l p 2) (bt l p 3)

abbrev runeC (w b0 b1 b2 b3 : Nat) : Nat × Nat :=
  if b0 < 128 then (b0, 1) else if w = 0 then (65533, 1) else if w = 2 then (b0 % 32 * 64 + b1 % 64, 2)
  else if w = 3 then ((b0 % 16 * 64 + b1 % 64) * 64 + b2 % 64, 3) else (((b0 % 8 * 64 + b1 % 64) * 64 + b2 % 64) * 64 + b3 % 64, 4)

def runeM (l : List UInt8) (p : Nat) : Nat × Nat := runeC (wideM l p) (bt l p 0) (bt l p 1) (bt l p 2) (bt l p 3)

theorem decode_core (a b0 b1 b2 b3 : Nat) (h0 : b0 < 256) (h1 : b1 < 256) (h2 : b2 < 256) (h3 : b3 < 256) :
    (if b0 < 128 then (b0, 1)
     else if b0 / 32 = 6 ∧ (1 < a ∧ b1 / 64 = 2) then (if 128 ≤ b0 % 32 * 64 + b1 % 64 then (b0 % 32 * 64 + b1 % 64, 2) else (65533, 1))
     else if b0 / 16 = 14 ∧ (1 < a ∧ b1 / 64 = 2) ∧ (2 < a ∧ b2 / 64 = 2) then
       (if 2048 ≤ b0 % 16 * 4096 + b1 % 64 * 64 + b2 % 64 ∧ (b0 % 16 * 4096 + b1 % 64 * 64 + b2 % 64 < 55296 ∨ (57344 ≤ b0 % 16 * 4096 + b1 % 64 * 64 + b2 % 64 ∧ b0 % 16 * 4096 + b1 % 64 * 64 + b2 % 64 ≤ 1114111))
        then (b0 % 16 * 4096 + b1 % 64 * 64 + b2 % 64, 3) else (65533, 1))
     else if b0 / 8 = 30 ∧ (1 < a ∧ b1 / 64 = 2) ∧ (2 < a ∧ b2 / 64 = 2) ∧ (3 < a ∧ b3 / 64 = 2) then
       (if 65536 ≤ b0 % 8 * 262144 + b1 % 64 * 4096 + b2 % 64 * 64 + b3 % 64 ∧ (b0 % 8 * 262144 + b1 % 64 * 4096 + b2 % 64 * 64 + b3 % 64 < 55296 ∨ (57344 ≤ b0 % 8 * 262144 + b1 % 64 * 4096 + b2 % 64 * 64 + b3 % 64 ∧ b0 % 8 * 262144 + b1 % 64 * 4096 + b2 % 64 * 64 + b3 % 64 ≤ 1114111))
        then (b0 % 8 * 262144 + b1 % 64 * 4096 + b2 % 64 * 64 + b3 % 64, 4) else (65533, 1))
     else ((65533 : Nat), (1 : Nat))) = runeC (wideC a b0 b1 b2 b3) b0 b1 b2 b3 := by
  have e2 : ∀ w : Nat, w = 0 ∨ w = 2 ∨ w = 3 ∨ w = 4 ∨ 4 < w ∨ w = 1 := by omega
  by_cases c0 : b0 < 128
  · rw [if_pos c0]; unfold runeC; rw [if_pos c0]
  rw [if_neg c0]
  unfold runeC
  rw [if_neg c0]
  by_cases c1 : 194 ≤ b0 ∧ b0 ≤ 223
  · unfold wideC
    rw [if_pos c1]
    by_cases d : 1 < a ∧ b1 / 64 = 2
    · rw [if_pos ⟨by omega, d⟩, if_pos (by omega), if_pos (show 2 ≤ a ∧ (128 ≤ b1 ∧ b1 ≤ 191) by omega)]; rfl
    · rw [if_neg (fun h => d h.2), if_neg (fun h => d h.2.1), if_neg (fun h => d h.2.1), if_neg (show ¬ (2 ≤ a ∧ (128 ≤ b1 ∧ b1 ≤ 191)) by omega)]; rfl
  by_cases c2 : 224 ≤ b0 ∧ b0 ≤ 239
  · unfold wideC
    rw [if_neg c1, if_pos c2]
    rw [if_neg (show ¬ (b0 / 32 = 6 ∧ (1 < a ∧ b1 / 64 = 2)) by omega)]
    by_cases d : (1 < a ∧ b1 / 64 = 2) ∧ (2 < a ∧ b2 / 64 = 2)
    · rw [if_pos ⟨by omega, d⟩]
      by_cases f : ¬ (b0 = 224 ∧ b1 < 160) ∧ ¬ (b0 = 237 ∧ 159 < b1)
      · rw [if_pos (show 3 ≤ a ∧ (128 ≤ b1 ∧ b1 ≤ 191) ∧ (128 ≤ b2 ∧ b2 ≤ 191) ∧ ¬ (b0 = 224 ∧ b1 < 160) ∧ ¬ (b0 = 237 ∧ 159 < b1) by omega), if_pos (by omega)]
        simp only [if_neg (show ¬ (3 = 0) by omega), if_neg (show ¬ (3 = 2) by omega), if_true]
        rw [show b0 % 16 * 4096 + b1 % 64 * 64 + b2 % 64 = (b0 % 16 * 64 + b1 % 64) * 64 + b2 % 64 by omega]
      · rw [if_neg (show ¬ (3 ≤ a ∧ (128 ≤ b1 ∧ b1 ≤ 191) ∧ (128 ≤ b2 ∧ b2 ≤ 191) ∧ ¬ (b0 = 224 ∧ b1 < 160) ∧ ¬ (b0 = 237 ∧ 159 < b1)) by omega), if_neg (by omega)]; rfl
    · rw [if_neg (fun h => d h.2), if_neg (show ¬ (b0 / 8 = 30 ∧ (1 < a ∧ b1 / 64 = 2) ∧ (2 < a ∧ b2 / 64 = 2) ∧ (3 < a ∧ b3 / 64 = 2)) by omega),
        if_neg (show ¬ (3 ≤ a ∧ (128 ≤ b1 ∧ b1 ≤ 191) ∧ (128 ≤ b2 ∧ b2 ≤ 191) ∧ ¬ (b0 = 224 ∧ b1 < 160) ∧ ¬ (b0 = 237 ∧ 159 < b1)) by omega)]; rfl
  by_cases c3 : 240 ≤ b0 ∧ b0 ≤ 244
  · unfold wideC
    rw [if_neg c1, if_neg c2, if_pos c3]
    rw [if_neg (show ¬ (b0 / 32 = 6 ∧ (1 < a ∧ b1 / 64 = 2)) by omega), if_neg (show ¬ (b0 / 16 = 14 ∧ (1 < a ∧ b1 / 64 = 2) ∧ (2 < a ∧ b2 / 64 = 2)) by omega)]
    by_cases d : (1 < a ∧ b1 / 64 = 2) ∧ (2 < a ∧ b2 / 64 = 2) ∧ (3 < a ∧ b3 / 64 = 2)
    · rw [if_pos ⟨by omega, d⟩]
      by_cases f : ¬ (b0 = 240 ∧ b1 < 144) ∧ ¬ (b0 = 244 ∧ 143 < b1)
      · rw [if_pos (show 4 ≤ a ∧ (128 ≤ b1 ∧ b1 ≤ 191) ∧ (128 ≤ b2 ∧ b2 ≤ 191) ∧ (128 ≤ b3 ∧ b3 ≤ 191) ∧ ¬ (b0 = 240 ∧ b1 < 144) ∧ ¬ (b0 = 244 ∧ 143 < b1) by omega), if_pos (by omega)]
        simp only [if_neg (show ¬ (4 = 0) by omega), if_neg (show ¬ (4 = 2) by omega), if_neg (show ¬ (4 = 3) by omega)]
        rw [show b0 % 8 * 262144 + b1 % 64 * 4096 + b2 % 64 * 64 + b3 % 64 = ((b0 % 8 * 64 + b1 % 64) * 64 + b2 % 64) * 64 + b3 % 64 by omega]
      · rw [if_neg (show ¬ (4 ≤ a ∧ (128 ≤ b1 ∧ b1 ≤ 191) ∧ (128 ≤ b2 ∧ b2 ≤ 191) ∧ (128 ≤ b3 ∧ b3 ≤ 191) ∧ ¬ (b0 = 240 ∧ b1 < 144) ∧ ¬ (b0 = 244 ∧ 143 < b1)) by omega), if_neg (by omega)]; rfl
    · rw [if_neg (fun h => d h.2), if_neg (show ¬ (4 ≤ a ∧ (128 ≤ b1 ∧ b1 ≤ 191) ∧ (128 ≤ b2 ∧ b2 ≤ 191) ∧ (128 ≤ b3 ∧ b3 ≤ 191) ∧ ¬ (b0 = 240 ∧ b1 < 144) ∧ ¬ (b0 = 244 ∧ 143 < b1)) by omega)]; rfl
  · unfold wideC
    rw [if_neg c1, if_neg c2, if_neg c3]
    by_cases d : b0 / 32 = 6 ∧ (1 < a ∧ b1 / 64 = 2)
    · rw [if_pos d, if_neg (by omega)]; rfl
    rw [if_neg d, if_neg (show ¬ (b0 / 16 = 14 ∧ (1 < a ∧ b1 / 64 = 2) ∧ (2 < a ∧ b2 / 64 = 2)) by omega)]
    by_cases f : b0 / 8 = 30 ∧ (1 < a ∧ b1 / 64 = 2) ∧ (2 < a ∧ b2 / 64 = 2) ∧ (3 < a ∧ b3 / 64 = 2)
    · rw [if_pos f, if_neg (by omega)]; rfl
    · rw [if_neg f]; rfl

theorem validN (n : Nat) : Utf8.valid (n : Int) = (decide (n < 55296) || (decide (57344 ≤ n) && decide (n ≤ 1114111))) := by
  unfold Utf8.valid
  rw [Bool.eq_iff_iff]
  simp only [Bool.and_eq_true, Bool.or_eq_true, decide_eq_true_eq]
  omega

set_option maxRecDepth 100000 in
theorem decode_eq (l : List UInt8) (p : Nat) (hp : p < l.length) : Utf8.decode (B l) p = runeM l p := by
  unfold runeM wideM
  rw [← decode_core (l.length - p) _ _ _ _ (bt_lt l p 0) (bt_lt l p 1) (bt_lt l p 2) (bt_lt l p 3)]
  have hb : ∀ k, ((B l).get! (p + k)).toNat = bt l p k := fun k => by rw [get_B]
  have hc : ∀ k, decide (p + k < (B l).size) = decide (k < l.length - p) := fun k => by rw [B_size]; apply decide_eq_decide.2; omega
  unfold Utf8.decode
  simp only [hb, hc, validN]
  generalize bt l p 0 = b0
  generalize bt l p 1 = b1
  generalize bt l p 2 = b2
  generalize bt l p 3 = b3
  generalize l.length - p = a
  simp only [Utf8.runeError, Bool.and_eq_true, Bool.or_eq_true, decide_eq_true_eq, beq_iff_eq, ge_iff_le, and_assoc]

theorem runeM_width (l : List UInt8) (p : Nat) : 1 ≤ (runeM l p).2 ∧ (runeM l p).2 ≤ 4 := by
  unfold runeM runeC
  repeat' split
  all_goals simp

theorem wideM_cases (l : List UInt8) (p : Nat) : wideM l p = 0 ∨ (wideM l p = 2 ∧ 194 ≤ bt l p 0 ∧ bt l p 0 ≤ 223 ∧ p + 2 ≤ l.length) ∨
    (wideM l p = 3 ∧ 224 ≤ bt l p 0 ∧ bt l p 0 ≤ 239 ∧ p + 3 ≤ l.length ∧ (128 ≤ bt l p 1 ∧ bt l p 1 ≤ 191) ∧ ¬ (bt l p 0 = 224 ∧ bt l p 1 < 160)) ∨
    (wideM l p = 4 ∧ 240 ≤ bt l p 0 ∧ bt l p 0 ≤ 244 ∧ p + 4 ≤ l.length ∧ (128 ≤ bt l p 1 ∧ bt l p 1 ≤ 191) ∧ ¬ (bt l p 0 = 240 ∧ bt l p 1 < 144)) := by
  unfold wideM wideC
  repeat' split
  all_goals omega

/-- a rune that a name may have has two bytes at most -/
theorem runeM_small {l : List UInt8} {p : Nat} (h : kindM ((runeM l p).1 : Nat) ≤ 3) : (runeM l p).2 ≤ 2 := by
  have hk : ((runeM l p).1 : Int) ≤ 969 := by
    unfold kindM at h
    repeat' split at h
    all_goals omega
  rcases wideM_cases l p with e | ⟨e, h1⟩ | ⟨e, h1, h2, h3, h4, h5⟩ | ⟨e, h1, h2, h3, h4, h5⟩
  · unfold runeM runeC
    repeat' split
    all_goals simp_all
  · unfold runeM runeC
    repeat' split
    all_goals simp_all
  · exfalso
    unfold runeM runeC at hk
    rw [e] at hk
    rw [if_neg (by omega), if_neg (by omega), if_neg (by omega), if_pos rfl] at hk
    simp only at hk
    omega
  · exfalso
    unfold runeM runeC at hk
    rw [e] at hk
    rw [if_neg (by omega), if_neg (by omega), if_neg (by omega), if_neg (by omega)] at hk
    simp only at hk
    omega

/-! ### the document's walk over a rune's bytes -/

section
variable {l : List UInt8} {p : Nat} {Post : AV → List AObj → Prop}

theorem btInt (hl : l.length ≤ 10 * big) (i : Nat) (hp : p + i < l.length) :
    IntKind.wrap .i64 ((p : Int) + (i : Int)) = ((p + i : Nat) : Int) := by
  unfold big at hl
  rw [wrap64 (by omega) (by omega)]; simp

theorem btGet (i : Nat) : ((List.getD (Array.toList (ByteArray.data (B l))) (p + i) 0).toNat : Int) = (bt l p i : Nat) := rfl

def nOf (b0 : Nat) : Nat := if 194 ≤ b0 ∧ b0 ≤ 223 then 2 else if 224 ≤ b0 ∧ b0 ≤ 239 then 3 else if 240 ≤ b0 ∧ b0 ≤ 244 then 4 else 0

theorem nOf_cases (b0 : Nat) : (nOf b0 = 2 ∧ 194 ≤ b0 ∧ b0 ≤ 223) ∨ (nOf b0 = 3 ∧ 224 ≤ b0 ∧ b0 ≤ 239) ∨ (nOf b0 = 4 ∧ 240 ≤ b0 ∧ b0 ≤ 244) ∨ (nOf b0 = 0 ∧ ¬ (194 ≤ b0 ∧ b0 ≤ 244)) := by
  unfold nOf
  repeat' split
  all_goals omega

theorem wide_short (h : l.length - p < nOf (bt l p 0) ∨ nOf (bt l p 0) = 0) : wideM l p = 0 := by
  have := nOf_cases (bt l p 0)
  unfold wideM wideC
  repeat' split
  all_goals omega

theorem wide_bad {i : Nat} (h1 : 1 ≤ i) (h2 : i < nOf (bt l p 0)) (h : bt l p i < 128 ∨ 191 < bt l p i) : wideM l p = 0 := by
  have := nOf_cases (bt l p 0)
  have hi : i = 1 ∨ i = 2 ∨ i = 3 := by omega
  unfold wideM wideC
  rcases hi with rfl | rfl | rfl <;> repeat' split
  all_goals omega

theorem wideC_no {a b0 b1 b2 b3 : Nat} (h : (b0 = 224 ∧ b1 < 160) ∨ (b0 = 237 ∧ 159 < b1) ∨ (b0 = 240 ∧ b1 < 144) ∨ (b0 = 244 ∧ 143 < b1)) : wideC a b0 b1 b2 b3 = 0 := by
  unfold wideC
  repeat' split
  all_goals omega

theorem wideC_yes {a n b0 b1 b2 b3 : Nat} (hcs : (n = 2 ∧ 194 ≤ b0 ∧ b0 ≤ 223) ∨ (n = 3 ∧ 224 ≤ b0 ∧ b0 ≤ 239) ∨ (n = 4 ∧ 240 ≤ b0 ∧ b0 ≤ 244)) (ha : n ≤ a) (hc1 : 128 ≤ b1 ∧ b1 ≤ 191) (hc2 : 2 < n → 128 ≤ b2 ∧ b2 ≤ 191) (hc3 : 3 < n → 128 ≤ b3 ∧ b3 ≤ 191)
    (k1 : ¬ (b0 = 224 ∧ b1 < 160)) (k2 : ¬ (b0 = 237 ∧ 159 < b1)) (k3 : ¬ (b0 = 240 ∧ b1 < 144)) (k4 : ¬ (b0 = 244 ∧ 143 < b1)) : wideC a b0 b1 b2 b3 = n := by
  unfold wideC
  rcases hcs with ⟨rfl, g1, g2⟩ | ⟨rfl, g1, g2⟩ | ⟨rfl, g1, g2⟩
  · rw [if_pos ⟨g1, g2⟩, if_pos ⟨ha, hc1⟩]
  · rw [if_neg (by omega), if_pos ⟨g1, g2⟩, if_pos ⟨ha, hc1, hc2 (by omega), k1, k2⟩]
  · rw [if_neg (by omega), if_neg (by omega), if_pos ⟨g1, g2⟩, if_pos ⟨ha, hc1, hc2 (by omega), hc3 (by omega), k3, k4⟩]

theorem w16 (hl : l.length ≤ 10 * big) (hn : nOf (bt l p 0) ≠ 0) (hp : p + nOf (bt l p 0) ≤ l.length) (hc : ∀ i, 1 ≤ i → i < nOf (bt l p 0) → 128 ≤ bt l p i ∧ bt l p i ≤ 191) (h : Post (.int .i64 (wideM l p : Nat)) []) :
    AWP Try.prog 96 0 c322_16 [(0, .str (B l)), (1, .int .i64 p), (5, .int .i64 (nOf (bt l p 0) : Nat)), (6, .int .i64 (bt l p 0 : Nat))] [] (q322_0 0 Post) := by
  have hcs := nOf_cases (bt l p 0)
  have h256 := bt_lt l p 1
  have e1 : IntKind.wrap .i64 ((p : Int) + 1) = ((p + 1 : Nat) : Int) := by unfold big at hl; rw [wrap64 (by omega) (by omega)]; simp
  have hc1 := hc 1 (by omega) (by omega)
  have hc2 : 2 < nOf (bt l p 0) → 128 ≤ bt l p 2 ∧ bt l p 2 ≤ 191 := hc 2 (by omega)
  have hc3 : 3 < nOf (bt l p 0) → 128 ≤ bt l p 3 ∧ bt l p 3 ≤ 191 := hc 3 (by omega)
  have hcs3 : (nOf (bt l p 0) = 2 ∧ 194 ≤ bt l p 0 ∧ bt l p 0 ≤ 223) ∨ (nOf (bt l p 0) = 3 ∧ 224 ≤ bt l p 0 ∧ bt l p 0 ≤ 239) ∨ (nOf (bt l p 0) = 4 ∧ 240 ≤ bt l p 0 ∧ bt l p 0 ≤ 244) := by omega
  have fin0 : (bt l p 0 = 224 ∧ bt l p 1 < 160) ∨ (bt l p 0 = 237 ∧ 159 < bt l p 1) ∨ (bt l p 0 = 240 ∧ bt l p 1 < 144) ∨ (bt l p 0 = 244 ∧ 143 < bt l p 1) → Post (.int .i64 0) [] := by
    intro hh
    have := wideC_no (a := l.length - p) (b2 := bt l p 2) (b3 := bt l p 3) hh
    unfold wideM at h
    rw [this] at h
    exact h
  have finn : ¬ (bt l p 0 = 224 ∧ bt l p 1 < 160) → ¬ (bt l p 0 = 237 ∧ 159 < bt l p 1) → ¬ (bt l p 0 = 240 ∧ bt l p 1 < 144) → ¬ (bt l p 0 = 244 ∧ 143 < bt l p 1) → Post (.int .i64 (nOf (bt l p 0) : Nat)) [] := by
    intro k1 k2 k3 k4
    have := wideC_yes (a := l.length - p) (b2 := bt l p 2) (b3 := bt l p 3) hcs3 (by omega) hc1 hc2 hc3 k1 k2 k3 k4
    unfold wideM at h
    rw [this] at h
    exact h
  have hn2 : 2 ≤ nOf (bt l p 0) := by omega
  clear hc hcs hcs3 hc2 hc3 h
  refine v322_16 _ _ _ _ _ _ ?_
  rw [e1, Int.toNat_natCast, btGet 1, wrapN (n := bt l p 1) (by omega)]
  refine needJ ⟨by omega, by rw [B_size]; omega⟩ ?_
  generalize nOf (bt l p 0) = n at *
  generalize bt l p 0 = b0 at *
  generalize bt l p 1 = b1 at *
  repeat' (first | refine condD (fun _ => ?_) fun _ => ?_ | refine condE (fun _ => ?_) fun _ => ?_)
  all_goals first
    | exact fin0 (by omega)
    | exact finn (by omega) (by omega) (by omega) (by omega)

theorem w12 (hl : l.length ≤ 10 * big) (hn : nOf (bt l p 0) ≠ 0) (hp : p + nOf (bt l p 0) ≤ l.length) (h : Post (.int .i64 (wideM l p : Nat)) []) :
    ∀ (m i : Nat), m + i = nOf (bt l p 0) → 1 ≤ i → (∀ j, 1 ≤ j → j < i → 128 ≤ bt l p j ∧ bt l p j ≤ 191) →
    AWP Try.prog 96 0 c322_12 [(0, .str (B l)), (1, .int .i64 p), (5, .int .i64 (nOf (bt l p 0) : Nat)), (6, .int .i64 (bt l p 0 : Nat)), (7, .int .i64 i)] [] (q322_2 0 Post) := by
  have hcs := nOf_cases (bt l p 0)
  intro m
  induction m with
  | zero =>
    intro i hm h1 hc
    refine v322_12 _ _ _ _ _ _ _ (condD (fun hi => by omega) fun _ => w16 hl hn hp (fun j a b => hc j a (by omega)) h)
  | succ m ih =>
    intro i hm h1 hc
    have e1 := btInt (p := p) hl i (by omega)
    refine v322_12 _ _ _ _ _ _ _ (condD (fun hi => ?_) fun hi => by omega)
    rw [e1, Int.toNat_natCast, btGet i]
    refine needJ ⟨by omega, by rw [B_size]; omega⟩ (condD (fun hb => ?_) fun hb => needJ ⟨by omega, by rw [B_size]; omega⟩ (condD (fun hb2 => ?_) fun hb2 => ?_))
    · rw [wide_bad (l := l) (p := p) h1 (by omega) (.inl (by omega))] at h; exact h
    · rw [wide_bad (l := l) (p := p) h1 (by omega) (.inr (by omega))] at h; exact h
    · rw [show IntKind.wrap .i64 ((i : Int) + 1) = ((i + 1 : Nat) : Int) by rw [wrap64 (by omega) (by omega)]; simp]
      refine ih (i + 1) (by omega) (by omega) (fun j a b => ?_)
      by_cases e : j = i
      · subst e; omega
      · exact hc j a (by omega)

theorem w9 (hl : l.length ≤ 10 * big) (hp : p < l.length) (h : Post (.int .i64 (wideM l p : Nat)) []) :
    AWP Try.prog 96 0 c322_9 [(0, .str (B l)), (1, .int .i64 p), (5, .int .i64 (nOf (bt l p 0) : Nat)), (6, .int .i64 (bt l p 0 : Nat))] [] (q322_0 0 Post) := by
  have hcs := nOf_cases (bt l p 0)
  have hl' := hl
  unfold big at hl'
  refine v322_9 _ _ _ _ _ _ (condE (fun e => ?_) fun e => ?_)
  · rw [wide_short (l := l) (p := p) (.inr (by omega))] at h; exact h
  rw [B_size, wrap64 (x := (l.length : Int) - (p : Int)) (by omega) (by omega)]
  refine condD (fun e2 => ?_) fun e2 => ?_
  · rw [wide_short (l := l) (p := p) (.inl (by omega))] at h; exact h
  · refine v322_11 _ _ _ _ _ _ ?_
    exact w12 hl (by omega) (by omega) h (nOf (bt l p 0) - 1) 1 (by omega) (by omega) (fun j a b => by omega)

theorem wide_spec0 (hl : l.length ≤ 10 * big) (hp : p < l.length) : ASpec Try.prog 322 [.str (B l), .int .i64 p] [] (fun r H' => r = .int .i64 (wideM l p : Nat) ∧ H' = []) := by
  have h256 := bt_lt l p 0
  have hcs := nOf_cases (bt l p 0)
  have k9 : ∀ n : Int, n = (nOf (bt l p 0) : Nat) → AWP Try.prog 96 0 c322_9 [(0, .str (B l)), (1, .int .i64 p), (5, .int .i64 n), (6, .int .i64 (bt l p 0 : Nat))] [] (q322_0 0 (fun r H' => r = .int .i64 (wideM l p : Nat) ∧ H' = [])) := by
    intro n e; subst e; exact w9 hl hp ⟨rfl, rfl⟩
  refine s322 _ _ _ (needJ ⟨by omega, by rw [B_size]; omega⟩ ?_)
  rw [Int.toNat_natCast, show ((List.getD (Array.toList (ByteArray.data (B l))) p 0).toNat : Int) = (bt l p 0 : Nat) from rfl, wrapN (n := bt l p 0) (by omega)]
  generalize nOf (bt l p 0) = n at *
  generalize bt l p 0 = b0 at *
  have k7 : ∀ m : Int, m = (if 240 ≤ b0 ∧ b0 ≤ 244 then m else (n : Int)) → AWP Try.prog 96 0 c322_7 [(0, .str (B l)), (1, .int .i64 p), (5, .int .i64 m), (6, .int .i64 (b0 : Nat))] [] (q322_0 0 (fun r H' => r = .int .i64 (wideM l p : Nat) ∧ H' = [])) := by
    intro m hm
    refine v322_7 _ _ _ _ _ _ (condD (fun _ => condD (fun _ => k9 _ (by omega)) fun _ => k9 _ ?_) fun _ => k9 _ ?_)
    · rw [if_neg (by omega)] at hm; exact hm
    · rw [if_neg (by omega)] at hm; exact hm
  have k5 : ∀ m : Int, m = (if 224 ≤ b0 ∧ b0 ≤ 244 then m else (n : Int)) → AWP Try.prog 96 0 c322_5 [(0, .str (B l)), (1, .int .i64 p), (5, .int .i64 m), (6, .int .i64 (b0 : Nat))] [] (q322_0 0 (fun r H' => r = .int .i64 (wideM l p : Nat) ∧ H' = [])) := by
    intro m hm
    refine v322_5 _ _ _ _ _ _ (condD (fun _ => condD (fun _ => k7 _ ?_) fun _ => k7 _ ?_) fun _ => k7 _ ?_)
    · rw [if_neg (by omega)]; omega
    · split
      · rfl
      · rw [if_neg (by omega)] at hm; exact hm
    · split
      · rfl
      · rw [if_neg (by omega)] at hm; exact hm
  refine condD (fun _ => condD (fun _ => k5 _ ?_) fun _ => k5 _ ?_) fun _ => k5 _ ?_
  · rw [if_neg (by omega)]; omega
  · split
    · rfl
    · omega
  · split
    · rfl
    · omega

theorem wide_spec (hl : l.length ≤ 10 * big) (hp : p < l.length) (H : List AObj) : ASpec Try.prog 322 [.str (B l), .int .i64 p] H (fun r H' => r = .int .i64 (wideM l p : Nat) ∧ H' = H) :=
  ASpec.pureH H (wide_spec0 hl hp) _ _ rfl rfl

end
end S
end

section
/- Which names may be: the code's walk and the document's. -/

set_option linter.unusedVariables false
set_option linter.unusedSimpArgs false
set_option maxRecDepth 100000
open Go Go.Ab Go.Proofs V
namespace S
theorem condBn {b : Bool} {A C : Prop} (h1 : b = false → A) (h2 : b = true → C) : condP (!b) A C := by cases b <;> simp_all [condP]
section
variable {l : List UInt8} {p : Nat}

def foldx (l : List UInt8) (p : Nat) : Nat → Nat → Nat → Nat
  | 0, _, x => x
  | m + 1, i, x => foldx l p m (i + 1) (x * 64 + bt l p i % 64)

theorem u12 {Post : AV → List AObj → Prop} (hl : l.length ≤ 10 * big) {n : Nat} (hn : n ≤ 4) (hp : p + n ≤ l.length) : ∀ (m i x : Nat), m + i = n → x < 64 ^ i → Post (.tup [.int .i64 (foldx l p m i x : Nat), .int .i64 n]) [] →
    AWP Try.prog 58 0 c261_12 [(0, .str (B l)), (1, .int .i64 p), (6, .int .i64 n), (7, .int .i64 x), (8, .int .i64 i)] [] (q261_2 0 Post) := by
  intro m
  induction m with
  | zero =>
    intro i x hm hx h
    exact v261_12 _ _ _ _ _ _ _ (condD (fun hi => by omega) fun _ => h)
  | succ m ih =>
    intro i x hm hx h
    have e1 := btInt (p := p) hl i (by omega)
    have h256 := bt_lt l p i
    have h4 : (64 : Nat) ^ i ≤ 64 ^ 4 := Nat.pow_le_pow_right (by omega) (by omega)
    have e4 : (64 : Nat) ^ 4 = 16777216 := by decide
    have hn := ih (i + 1) (x * 64 + bt l p i % 64) (by omega) (by rw [Nat.pow_succ]; omega) h
    refine v261_12 _ _ _ _ _ _ _ (condD (fun hi => ?_) fun hi => by omega)
    rw [e1, Int.toNat_natCast, btGet i]
    refine needJ ⟨by omega, by rw [B_size]; omega⟩ (needJ (by decide) ?_)
    generalize bt l p i = b at h256 hn ⊢
    have m64 : Int.tmod (b : Int) 64 = ((b % 64 : Nat) : Int) := tmodN b 64
    rw [wrapN (n := b) (by omega), m64, wrap64 (x := (x : Int) * 64) (by omega) (by omega), wrap64 (x := (x : Int) * 64 + ((b % 64 : Nat) : Int)) (by omega) (by omega)]
    rw [show IntKind.wrap .i64 ((i : Int) + 1) = ((i + 1 : Nat) : Int) by rw [wrap64 (by omega) (by omega)]; simp]
    rw [show (x : Int) * 64 + ((b % 64 : Nat) : Int) = ((x * 64 + b % 64 : Nat) : Int) by simp]
    exact hn

theorem rune_spec0 (hl : l.length ≤ 10 * big) (hp : p < l.length) :
    ASpec Try.prog 261 [.str (B l), .int .i64 p] [] (fun r H' => r = .tup [.int .i64 ((runeM l p).1 : Nat), .int .i64 ((runeM l p).2 : Nat)] ∧ H' = []) := by
  have h256 := bt_lt l p 0
  have hin : (0 : Int) ≤ (p : Int) ∧ (p : Int) < ((B l).size : Int) := ⟨by omega, by rw [B_size]; omega⟩
  have hcs := wideM_cases l p
  have hR : runeM l p = runeC (wideM l p) (bt l p 0) (bt l p 1) (bt l p 2) (bt l p 3) := rfl
  refine s261 _ _ _ (needJ hin ?_)
  rw [Int.toNat_natCast, show ((List.getD (Array.toList (ByteArray.data (B l))) p 0).toNat : Int) = (bt l p 0 : Nat) from rfl, wrapN (n := bt l p 0) (by omega)]
  have m32 : Int.tmod (bt l p 0 : Nat) 32 = ((bt l p 0 % 32 : Nat) : Int) := tmodN _ 32
  have m16 : Int.tmod (bt l p 0 : Nat) 16 = ((bt l p 0 % 16 : Nat) : Int) := tmodN _ 16
  have m8 : Int.tmod (bt l p 0 : Nat) 8 = ((bt l p 0 % 8 : Nat) : Int) := tmodN _ 8
  refine condD (fun hc => needJ hin ?_) fun hc => ?_
  · rw [hR, runeC, if_pos (by omega)]
    exact ⟨rfl, rfl⟩
  refine ASpec.call (wide_spec hl hp []) (Les.refl _) ⟨_, rfl, rfl, condE (fun h0 => ?_) fun h0 => needJ hin (needJ (by decide) ?_)⟩
  · rw [hR, runeC, if_neg (by omega), if_pos (by omega)]
    exact ⟨rfl, rfl⟩
  have key : ∀ (n x0 : Nat), n = wideM l p → x0 < 64 → foldx l p (n - 1) 1 x0 = (runeM l p).1 → n = (runeM l p).2 →
      AWP Try.prog 58 0 c261_11 [(0, .str (B l)), (1, .int .i64 p), (6, .int .i64 n), (7, .int .i64 x0)] [] (q261_0 0 (fun r H' => r = .tup [.int .i64 ((runeM l p).1 : Nat), .int .i64 ((runeM l p).2 : Nat)] ∧ H' = [])) := by
    intro n x0 hn hx e1 e2
    refine v261_11 _ _ _ _ _ _ (u12 hl (n := n) (by omega) (by omega) (n - 1) 1 x0 (by omega) hx ?_)
    rw [e1, e2]
    exact ⟨rfl, rfl⟩
  refine condE (fun h3 => needJ hin (needJ (by decide) ?_)) fun h3 => ?_
  · have hw : wideM l p = 3 := by omega
    rw [m16]
    refine v261_9 _ _ _ _ _ _ (condE (fun h => by omega) fun _ => key _ _ rfl (by omega) ?_ ?_)
    · rw [hR, runeC, if_neg (by omega), if_neg (by omega), if_neg (by omega), if_pos hw, hw]; rfl
    · rw [hR, runeC, if_neg (by omega), if_neg (by omega), if_neg (by omega), if_pos hw, hw]
  · rw [m32]
    refine v261_9 _ _ _ _ _ _ (condE (fun h => needJ hin (needJ (by decide) ?_)) fun h => key _ _ rfl (by omega) ?_ ?_)
    · have hw : wideM l p = 4 := by omega
      rw [Int.toNat_natCast, show ((List.getD (Array.toList (ByteArray.data (B l))) p 0).toNat : Int) = (bt l p 0 : Nat) from rfl, wrapN (n := bt l p 0) (by omega), m8]
      refine key _ _ rfl (by omega) ?_ ?_
      · rw [hR, runeC, if_neg (by omega), if_neg (by omega), if_neg (by omega), if_neg (by omega), hw]; rfl
      · rw [hR, runeC, if_neg (by omega), if_neg (by omega), if_neg (by omega), if_neg (by omega), hw]
    · have hw : wideM l p = 2 := by omega
      rw [hR, runeC, if_neg (by omega), if_neg (by omega), if_pos hw, hw]; rfl
    · have hw : wideM l p = 2 := by omega
      rw [hR, runeC, if_neg (by omega), if_neg (by omega), if_pos hw, hw]

theorem rune_spec (hl : l.length ≤ 10 * big) (hp : p < l.length) (H : List AObj) :
    ASpec Try.prog 261 [.str (B l), .int .i64 p] H (fun r H' => r = .tup [.int .i64 ((runeM l p).1 : Nat), .int .i64 ((runeM l p).2 : Nat)] ∧ H' = H) :=
  ASpec.pureH H (rune_spec0 hl hp) _ _ rfl rfl

/-! ### all runes -/

def runesF : Nat → List UInt8 → Nat → List Int
  | 0, _, _ => []
  | f + 1, l, p => if p < l.length then ((runeM l p).1 : Int) :: runesF f l (p + (runeM l p).2) else []
def runesM (l : List UInt8) : List Int := runesF l.length l 0

theorem leAppI {l : List Int} {x : Int} {H : List AObj} : Le (.sl 1 (.app (.map encI 0 l) (.raw [[.int .i64 x]])) (.tok 1)) (AV.ren (selR [1] H.length) (.sl 1 (.map encI 0 (l ++ [x])) (.tok 0))) := by
  refine Le.sl ?_ (.inl rfl) (.inl rfl)
  simp [Ab.Seq.toList, Seq.ren, encI, renL, AV.ren]

theorem runes3 {Post : AV → List AObj → Prop} (hl : l.length ≤ 1000000) : ∀ (f p : Nat) (acc : List Int), l.length - p ≤ f → acc.length ≤ p → p ≤ l.length + 4 → Post (.sl 1 (.map encI 0 (acc ++ runesF f l p)) (.tok 0)) [.tok] →
    AWP Try.prog 25 0 c164_3 [(0, .str (B l)), (3, .sl 1 (.map encI 0 acc) (.tok 0)), (4, .int .i64 p)] [.tok] (q164_2 0 Post) := by
  intro f
  induction f with
  | zero =>
    intro p acc hf ha hp h
    refine v164_3 _ _ _ _ _ (condD (fun hc => by rw [B_size] at hc; omega) fun _ => ?_)
    simpa [runesF] using h
  | succ f ih =>
    intro p acc hf ha hp h
    refine v164_3 _ _ _ _ _ (condD (fun hc => ?_) fun hc => ?_)
    · rw [B_size] at hc
      have hpl : p < l.length := by omega
      have hw := runeM_width l p
      refine ASpec.call (rune_spec (by unfold big; omega) hpl _) (Les.refl _) ⟨(((runeM l p).1 : Int), ((runeM l p).2 : Int)), rfl, rfl, needJ (by omega) ?_⟩
      rw [show IntKind.wrap .i64 ((p : Int) + ((runeM l p).2 : Int)) = ((p + (runeM l p).2 : Nat) : Int) by rw [wrap64 (by omega) (by omega)]; simp]
      refine AWP.shape [1] [(0, .str (B l)), (3, .sl 1 (.map encI 0 (acc ++ [((runeM l p).1 : Int)])) (.tok 0)), (4, .int .i64 (p + (runeM l p).2 : Nat))] _ selTok ⟨rfl, Le.refl _, rfl, leAppI, rfl, Le.refl _, trivial⟩ (ih (p + (runeM l p).2) (acc ++ [((runeM l p).1 : Int)]) (by omega) (by simp; omega) (by omega) ?_)
      simp only [runesF, if_pos hpl] at h
      simpa using h
    · rw [B_size] at hc
      simp only [runesF, if_neg (show ¬ p < l.length by omega)] at h
      simpa using h

theorem runes_spec (hl : l.length ≤ 1000000) (H : List AObj) : ASpec Try.prog 164 [.str (B l)] H (fun r H' => r = .sl 1 (.map encI 0 (runesM l)) .none ∧ H' = H) := by
  have k : ASpec Try.prog 164 [.str (B l)] [] (fun r H' => r = .sl 1 (.map encI 0 (runesM l)) .none ∧ H' = []) := by
    refine ASpec.sel (s164 _ _ ?_)
    refine AWP.re (ReSt.tok (k := 3) (q' := .map encI 0 []) (sz' := 1) (s2 := [(0, .str (B l)), (3, .sl 1 (.map encI 0 []) (.tok 0)), (4, .int .i64 0)]) rfl (.inl rfl) rfl (.inr rfl) (fun d hd => ?_) rfl) ?_
    · simp only [Ab.get]
      have e : Nat.beq 3 d = false := by
        cases hx : Nat.beq 3 d with
        | false => rfl
        | true => exact absurd (Nat.eq_of_beq_eq_true hx).symm hd
      rw [e]; rfl
    · refine runes3 hl l.length 0 [] (by omega) (by simp) (by omega) ?_
      refine ⟨[], [], .sl 1 (.map encI 0 (runesM l)) .none, Sel.none, ?_, rfl, rfl⟩
      exact Le.sl (s' := Seq.ren _ (.map encI 0 (runesM l))) (by simp [Ab.Seq.toList, Seq.ren, encI, renL, AV.ren, runesM]) (.inl rfl) (.inr rfl)
  exact ASpec.pureH H k _ _ rfl rfl

/-! ### names -/

def fitF (n : Nat) : List Int → Bool
  | [] => decide (0 < n)
  | c :: r => if 3 < kindM c ∨ (n = 0 ∧ 1 < kindM c) ∨ n = 12 then false else fitF (n + 1) r

def fitM (l : List UInt8) : Bool := fitF 0 (runesM l)

theorem fit3 {Post : AV → List AObj → Prop} (hl : l.length ≤ 10 * big) : ∀ (f p n : Nat), l.length - p ≤ f → n ≤ 12 → (∀ q, Post (.bool (fitF n (runesF f l p))) [.siter (B l) q]) →
    AWP Try.prog 32 0 c154_3 [(3, .int .i64 n), (8, .ptr 0 0)] [.siter (B l) p] (q154_2 0 Post) := by
  intro f
  induction f with
  | zero =>
    intro p n hf hn h
    refine v154_3 _ _ _ _ _ (condD (fun hc => by rw [B_size] at hc; omega) fun _ => ?_)
    have := h p
    simp only [runesF, fitF] at this
    rw [show decide ((n : Int) > 0) = decide (0 < n) from decide_eq_decide.2 (by omega)]
    exact this
  | succ f ih =>
    intro p n hf hn h
    refine v154_3 _ _ _ _ _ (condD (fun hc => ?_) fun hc => ?_)
    · rw [B_size] at hc
      rw [decode_eq l p hc]
      have hw := runeM_width l p
      simp only [runesF, if_pos hc, fitF] at h
      refine ASpec.call (kind_spec _ _) (Les.refl _) ⟨_, rfl, rfl, ?_⟩
      generalize kindM ((runeM l p).1 : Nat) = k at h ⊢
      have no : (3 < k ∨ (n = 0 ∧ 1 < k) ∨ n = 12) → Post (.bool false) [.siter (B l) (p + (runeM l p).2)] := by
        intro hh
        have := h (p + (runeM l p).2)
        rw [if_pos hh] at this
        exact this
      have yes : ¬ (3 < k ∨ (n = 0 ∧ 1 < k) ∨ n = 12) → AWP Try.prog 32 0 c154_3 [(3, .int .i64 (IntKind.wrap .i64 ((n : Int) + 1))), (8, .ptr 0 0)] [.siter (B l) (p + (runeM l p).2)] (q154_2 0 Post) := by
        intro hh
        rw [show IntKind.wrap .i64 ((n : Int) + 1) = ((n + 1 : Nat) : Int) by rw [wrap64 (by omega) (by omega)]; simp]
        refine ih (p + (runeM l p).2) (n + 1) (by omega) (by omega) (fun q => ?_)
        have := h q
        rw [if_neg hh] at this
        exact this
      refine condD (fun h1 => no (.inl h1)) fun h1 => condE (fun h2 => condD (fun h3 => no (.inr (.inl ⟨by omega, h3⟩))) fun h3 => condE (fun h4 => no (.inr (.inr (by omega)))) fun h4 => yes (by omega)) fun h2 => condE (fun h4 => no (.inr (.inr (by omega)))) fun h4 => yes (by omega)
    · rw [B_size] at hc
      have := h p
      simp only [runesF, if_neg hc, fitF] at this
      rw [show decide ((n : Int) > 0) = decide (0 < n) from decide_eq_decide.2 (by omega)]
      exact this

theorem fit_spec (hl : l.length ≤ 10 * big) (H : List AObj) : ASpec Try.prog 154 [.str (B l)] H (fun r H' => r = .bool (fitM l) ∧ H' = H) := by
  have k : ASpec Try.prog 154 [.str (B l)] [] (fun r H' => r = .bool (fitM l) ∧ H' = []) := by
    refine ASpec.sel (s154 _ _ (fit3 hl l.length 0 0 (by omega) (by omega) (fun q => ⟨[], [], .bool (fitM l), Sel.none, Le.refl _, rfl, rfl⟩)))
  exact ASpec.pureH H k _ _ rfl rfl

theorem fitF_short (hl : True) : ∀ (f p n : Nat), l.length - p ≤ f → n ≤ 12 → fitF n (runesF f l p) = true → l.length - p ≤ 2 * (12 - n) := by
  intro f
  induction f with
  | zero => intro p n hf hn h; omega
  | succ f ih =>
    intro p n hf hn h
    by_cases hc : p < l.length
    · simp only [runesF, if_pos hc, fitF] at h
      split at h
      · cases h
      rename_i hh
      have hw := runeM_small (l := l) (p := p) (by omega)
      have := ih (p + (runeM l p).2) (n + 1) (by have := runeM_width l p; omega) (by omega) h
      omega
    · omega

theorem fitM_short (h : fitM l = true) : l.length ≤ 24 := by
  have := fitF_short (l := l) trivial l.length 0 0 (by omega) (by omega) h
  omega

/-- the document's: by places in a list -/
def fitD (i : Nat) : List Int → Bool
  | [] => true
  | c :: r => if kindM c = 4 ∨ (i = 0 ∧ 1 < kindM c) then false else fitD (i + 1) r

theorem fitF_fitD : ∀ (r : List Int) (i : Nat), i ≤ 12 → fitF i r = (fitD i r && decide (1 ≤ i + r.length) && decide (i + r.length ≤ 12))
  | [], i, hi => by
    simp only [fitF, fitD, List.length_nil, Nat.add_zero, Bool.true_and]
    rw [Bool.eq_iff_iff]; simp; omega
  | c :: r, i, hi => by
    have hk := kindM_range c
    simp only [fitF, fitD, List.length_cons]
    by_cases h1 : kindM c = 4 ∨ (i = 0 ∧ 1 < kindM c)
    · rw [if_pos h1, if_pos (by omega)]; rfl
    · rw [if_neg h1]
      by_cases h2 : i = 12
      · rw [if_pos (by omega)]
        rw [Bool.eq_iff_iff]; simp; omega
      · rw [if_neg (by omega), fitF_fitD r (i + 1) (by omega), show i + 1 + r.length = i + (r.length + 1) by omega]

theorem rfit5 {ls : List Int} {Post : AV → List AObj → Prop} (hl : ls.length ≤ 1000000) : ∀ (m i : Nat), m + i = ls.length → Post (.bool (fitD i (ls.drop i) && (decide (1 ≤ ls.length) && decide (ls.length ≤ 12)))) [] →
    AWP Try.prog 42 0 c39_5 [(3, .sl 1 (.map encI 0 ls) .none), (4, .int .i64 i)] [] (q39_2 0 Post) := by
  intro m
  induction m with
  | zero =>
    intro i hm h
    refine v39_5 _ _ _ _ (condD (fun hc => by omega) fun _ => ?_)
    rw [List.drop_eq_nil_of_le (by omega)] at h
    simp only [fitD, Bool.true_and] at h
    refine condD (fun h1 => ?_) fun h1 => ?_
    · rw [decide_eq_true (show 1 ≤ ls.length by omega), Bool.true_and] at h
      rw [show decide ((ls.length : Int) ≤ 12) = decide (ls.length ≤ 12) from decide_eq_decide.2 (by omega)]
      exact h
    · rw [decide_eq_false (show ¬ 1 ≤ ls.length by omega), Bool.false_and] at h
      exact h
  | succ m ih =>
    intro i hm h
    refine v39_5 _ _ _ _ (condD (fun hc => needJ ⟨by omega, by omega⟩ ?_) fun hc => by omega)
    rw [Int.toNat_natCast]
    have hg : ls.drop i = ls.getD i 0 :: ls.drop (i + 1) := by
      rw [List.drop_eq_getElem_cons (by omega)]
      simp [List.getD, List.getElem?_eq_getElem (show i < ls.length by omega)]
    rw [hg] at h
    simp only [fitD] at h
    generalize ls.getD i 0 = c at h ⊢
    have hn : ¬ (kindM c = 4 ∨ (i = 0 ∧ 1 < kindM c)) → AWP Try.prog 42 0 c39_5 [(3, .sl 1 (.map encI 0 ls) .none), (4, .int .i64 (IntKind.wrap .i64 ((i : Int) + 1)))] [] (q39_2 0 Post) := by
      intro hh
      rw [if_neg hh] at h
      rw [show IntKind.wrap .i64 ((i : Int) + 1) = ((i + 1 : Nat) : Int) by rw [wrap64 (by omega) (by omega)]; simp]
      exact ih (i + 1) (by omega) h
    have hy : (kindM c = 4 ∨ (i = 0 ∧ 1 < kindM c)) → Post (.bool false) [] := by
      intro hh
      rw [if_pos hh] at h
      simpa using h
    refine ASpec.call (rkind_spec c []) (Les.refl _) ⟨_, rfl, rfl, condE (fun h1 => hy (.inl h1)) fun h1 => condE (fun h2 => needJ ⟨by omega, by omega⟩ ?_) fun h2 => hn (by omega)⟩
    refine ASpec.call (rkind_spec c []) (Les.refl _) ⟨_, rfl, rfl, condD (fun h3 => hy (.inr ⟨by omega, h3⟩)) fun h3 => hn (by omega)⟩

theorem runesF_len : ∀ (f p : Nat), (runesF f l p).length ≤ f
  | 0, p => by simp [runesF]
  | f + 1, p => by
    simp only [runesF]
    split
    · have := runesF_len f (p + (runeM l p).2)
      simp; omega
    · simp

theorem rfit_spec (hl : l.length ≤ 10 * big) (H : List AObj) : ASpec Try.prog 39 [.str (B l)] H (fun r H' => r = .bool (fitM l) ∧ H' = H) := by
  have k : ASpec Try.prog 39 [.str (B l)] [] (fun r H' => r = .bool (fitM l) ∧ H' = []) := by
    refine s39 _ _ ?_
    rw [B_size]
    refine condD (fun h1 => ?_) fun h1 => ?_
    · have : fitM l = false := by
        cases h : fitM l with
        | false => rfl
        | true => have := fitM_short h; omega
      rw [this]; exact ⟨rfl, rfl⟩
    · have hlen := runesF_len (l := l) l.length 0
      refine ASpec.call (runes_spec (by omega) []) (Les.refl _) ⟨_, rfl, rfl, rfit5 (ls := runesM l) (by unfold runesM; omega) (runesM l).length 0 (by omega) ?_⟩
      unfold fitM
      rw [fitF_fitD _ 0 (by omega), List.drop_zero, Nat.zero_add, Bool.and_assoc]
      exact ⟨rfl, rfl⟩
  exact ASpec.pureH H k _ _ rfl rfl

end
end S
end
