/- Q5: several of this proof's own texts, one behind the other: what each proves stands at its head. -/
import Derived.Test.YtkkdhnhgfbddeaaDoorProg
import Derived.Test.YtkkdhnhgfbddeaaDoorA3
section
/- Printed: what the code of functions 90, 91, 104, 105, 93, 94, 96, 95, 136, 99, 100, 101, 103, 135, 137 asks for, by the framework's own reading of it; each line is checked against the code. -/

set_option linter.unusedVariables false
set_option maxRecDepth 100000
set_option maxHeartbeats 4000000
open Go Go.Ab Go.Proofs
namespace V
noncomputable section

noncomputable def rd (bs : List UInt8) (p e : Int) : AObj := .cells [.sl 1 (.map encB 0 bs) .none, .int .i64 p, .int .i64 e]
noncomputable def upd3 (args : List AV) (H : List AObj) (p e : Int) : List AObj := match args with
  | .ptr id _ :: _ => match H[id]? with
    | some (.cells [b, _, _]) => H.set id (.cells [b, .int .i64 p, .int .i64 e])
    | _ => H
  | _ => H
noncomputable def upd2 (args : List AV) (H : List AObj) (s : ByteArray) (e : Int) : List AObj := match args with
  | .ptr id _ :: _ => H.set id (.cells [.str s, .int .i64 e])
  | _ => H
noncomputable def retL : List (Nat × Ret) := [
  (18016, ⟨Unit, fun _ _ _ => .bool true, fun _ H _ => H⟩),
  (90, ⟨List UInt8, fun _ H l => .sl 1 (.map encB 0 l) (.tok H.length), fun _ H _ => H ++ [.tok]⟩),
  (91, ⟨List UInt8, fun _ H l => .sl 1 (.map encB 0 l) (.tok H.length), fun _ H _ => H ++ [.tok]⟩),
  (18019, ⟨ByteArray, fun _ _ s => .str s, fun _ H _ => H⟩),
  (105, ⟨ByteArray, fun _ _ s => .str s, fun _ H _ => H⟩),
  (93, ⟨List UInt8, fun _ H _ => .ptr H.length 0, fun _ H l => H ++ [rd l 0 0]⟩),
  (94, ⟨Int × Int × Int, fun _ _ x => .int .i64 x.1, fun a H x => upd3 a H x.2.1 x.2.2⟩),
  (96, ⟨ByteArray × Int × Int, fun _ _ x => .str x.1, fun a H x => upd3 a H x.2.1 x.2.2⟩),
  (95, ⟨Int, fun _ _ x => .int .i64 x, fun _ H _ => H⟩),
  (136, ⟨Int, fun _ _ x => .int .i64 x, fun _ H _ => H⟩),
  (100, ⟨Int × ByteArray × Int, fun _ _ x => .int .i64 x.1, fun a H x => upd2 a H x.2.1 x.2.2⟩),
  (101, ⟨ByteArray × ByteArray × Int, fun _ _ x => .str x.1, fun a H x => upd2 a H x.2.1 x.2.2⟩),
  (18028, ⟨Int × Int, fun _ _ x => .tup [], fun a H x => upd3 a H x.1 x.2⟩),
  (18029, ⟨ByteArray × Int, fun _ _ x => .tup [], fun a H x => upd2 a H x.1 x.2⟩),
  (99, ⟨Int, fun _ _ x => .int .i64 x, fun _ H _ => H⟩),
  (103, ⟨Int, fun _ _ x => .int .i64 x, fun _ H _ => H⟩),
  (104, ⟨ByteArray, fun _ _ s => .str s, fun _ H _ => H⟩),
  (135, ⟨Int × Int × Int × Int, fun _ _ x => .tup [.int .i64 x.1, .int .i64 x.2.1], fun a H x => upd3 a H x.2.2.1 x.2.2.2⟩),
  (137, ⟨Int × Int × Int, fun _ _ x => .tup [.int .i64 x.1, .int .i64 x.2.1, .int .i64 x.2.2], fun _ H _ => H⟩)]
end
end V
end

section
/- Spans, needs, releases and manifests as cells. -/

open Go Go.Ab Go.Proofs
namespace T
abbrev Span := Int × Int
abbrev Need := List UInt8 × List Span
noncomputable def encS (x : Span) : List AV := [.int .i64 x.1, .int .i64 x.2]
end T
end

section
/- Printed: what the code of functions 51, 60, 71, 61 asks for, by the framework's own reading of it; each line is checked against the code. -/

set_option linter.unusedVariables false
set_option maxRecDepth 100000
set_option maxHeartbeats 4000000
open Go Go.Ab Go.Proofs
namespace C
noncomputable section

noncomputable def retC : List (Nat × Ret) := [
  (59, ⟨Bool, fun _ _ x => .bool x, fun _ H _ => H⟩), (9066, ⟨Bool, fun _ _ x => .bool x, fun _ H _ => H⟩), (9062, ⟨Bool, fun _ _ x => .bool x, fun _ H _ => H⟩), (9186, ⟨Bool, fun _ _ x => .bool x, fun _ H _ => H⟩),
  (50, ⟨Bool, fun _ _ x => .bool x, fun _ H _ => H⟩), (9130, ⟨Bool, fun _ _ x => .bool x, fun _ H _ => H⟩), (9185, ⟨Bool, fun _ _ x => .bool x, fun _ H _ => H⟩), (9173, ⟨Bool, fun _ _ x => .bool x, fun _ H _ => H⟩),
  (71, ⟨Bool, fun _ _ x => .bool x, fun _ H _ => H⟩), (9239, ⟨Bool, fun _ _ x => .bool x, fun _ H _ => H⟩), (61, ⟨Bool, fun _ _ x => .bool x, fun _ H _ => H⟩), (9232, ⟨Bool, fun _ _ x => .bool x, fun _ H _ => H⟩),
  (60, ⟨Bool, fun _ _ x => .bool x, fun _ H _ => H⟩), (51, ⟨Bool, fun _ _ x => .bool x, fun _ H _ => H⟩)]
noncomputable def rets : FuncId → List Ret := lookupR (retC ++ V.retL)

-- 51
noncomputable def l51 : Nat → List Nat
  | 3 => [3, 6, 7, 8]
  | _ => []
noncomputable def u51 : Nat → Bool
  | _ => false
noncomputable def m51 : Nat → Bool
  | _ => false
noncomputable def g51 : Cfg := { N := 31, live := l51, cut := u51, mu := m51, ret := rets }
noncomputable def c51 : Go.Code := Go.Ab.bodyOf Go.Proofs.Tryd.f51
noncomputable def q51_0 : Nat → (AV → List AObj → Prop) → AQ := fun (n : Nat) (Post : AV → List AObj → Prop) => endQ Tryd.prog (resultsOf Tryd.f51) Post
noncomputable def q51_1 : Nat → (AV → List AObj → Prop) → AQ := fun (n : Nat) (Post : AV → List AObj → Prop) => seqQ (fun (s' : Slots) (H' : List AObj) => awp Tryd.prog g51 n (codeSnd (codeSnd (codeSnd c51))) s' H' (q51_0 n Post)) (q51_0 n Post)
noncomputable def q51_2 : Nat → (AV → List AObj → Prop) → AQ := fun (n : Nat) (Post : AV → List AObj → Prop) => blockQ 0 (q51_1 n Post)
noncomputable def c51_3 : Go.Code := codeFst (codeSnd (codeFst (codeSnd (codeSnd c51))))
theorem s51 : ∀ (l : List T.Span) (Post : AV → List AObj → Prop),
  AWP Tryd.prog 31 0 c51_3
      [(3, AV.int IntKind.i64 (-1 : Int)), (6, AV.sl 2 (Seq.map T.encS ((0 : Int), (0 : Int)) l) Tip.none), (7, AV.int IntKind.i64 (↑(List.length l) : Int)),
        (8, AV.int IntKind.i64 (0 : Int))]
      [] (q51_2 0 Post) →
    ASpec Tryd.prog 51 [AV.sl 2 (Seq.map T.encS ((0 : Int), (0 : Int)) l) Tip.none] [] Post := fun l Post h => Go.Ab.ASpec.of_vc g51 Go.Proofs.Tryd.func51 (by kernel_rfl) (by kernel_rfl) (by kernel_rfl) (Go.Ab.kc (by kernel_rfl) h)
theorem v51_3 : ∀ (l : List T.Span) (e n i : Int) (n_1 : Nat) (Post : AV → List AObj → Prop),
  condP (decide (i < n))
      (needP ((0 : Int) ≤ i ∧ i < (↑(List.length l) : Int))
        (condP (decide (Prod.fst (List.getD l (Int.toNat i) ((0 : Int), (0 : Int))) ≤ e))
         (Post (AV.bool false)
         [AObj.cells [AV.int IntKind.i64 (Prod.fst (List.getD l (Int.toNat i) ((0 : Int), (0 : Int)))), AV.int IntKind.i64 (Prod.snd (List.getD l (Int.toNat i) ((0 : Int), (0 : Int))))]])
         (condP (decide (Prod.fst (List.getD l (Int.toNat i) ((0 : Int), (0 : Int))) ≥ Prod.snd (List.getD l (Int.toNat i) ((0 : Int), (0 : Int)))))
         (Post (AV.bool false)
         [AObj.cells [AV.int IntKind.i64 (Prod.fst (List.getD l (Int.toNat i) ((0 : Int), (0 : Int)))), AV.int IntKind.i64 (Prod.snd (List.getD l (Int.toNat i) ((0 : Int), (0 : Int))))]])
         (condP (decide (Prod.snd (List.getD l (Int.toNat i) ((0 : Int), (0 : Int))) > (1000000000 : Int)))
         (Post (AV.bool false)
         [AObj.cells [AV.int IntKind.i64 (Prod.fst (List.getD l (Int.toNat i) ((0 : Int), (0 : Int)))), AV.int IntKind.i64 (Prod.snd (List.getD l (Int.toNat i) ((0 : Int), (0 : Int))))]])
         (AWP Tryd.prog 31 n_1 c51_3
         [(3, AV.int IntKind.i64 (Prod.snd (List.getD l (Int.toNat i) ((0 : Int), (0 : Int))))), (6, AV.sl 2 (Seq.map T.encS ((0 : Int), (0 : Int)) l) Tip.none),
         (7, AV.int IntKind.i64 n), (8, AV.int IntKind.i64 (IntKind.wrap IntKind.i64 (i + (1 : Int))))]
         [AObj.cells [AV.int IntKind.i64 (Prod.fst (List.getD l (Int.toNat i) ((0 : Int), (0 : Int)))), AV.int IntKind.i64 (Prod.snd (List.getD l (Int.toNat i) ((0 : Int), (0 : Int))))]]
         (q51_2 n_1 Post))))))
      (Post (AV.bool true) []) →
    AWP Tryd.prog 31 n_1 c51_3
      [(3, AV.int IntKind.i64 e), (6, AV.sl 2 (Seq.map T.encS ((0 : Int), (0 : Int)) l) Tip.none), (7, AV.int IntKind.i64 n), (8, AV.int IntKind.i64 i)] []
      (q51_2 n_1 Post) := fun l e n i n Post h => Go.Ab.AWP.loop' g51 (Cfg.live g51) c51_3 (by kernel_rfl) (by kernel_rfl) (Go.Ab.kc (by kernel_rfl) h)

-- 60
end
end C
end

section
/- Terms, and a trail's entries, as cells. -/

open Go Go.Ab Go.Proofs
namespace T
/-- name, places, none -/
abbrev Term := List UInt8 × List Span × Bool
noncomputable def encT (x : Term) : List AV := [.str ⟨x.1.toArray⟩, .sl 2 (.map encS (0, 0) x.2.1) .none, .bool x.2.2]
abbrev noT : Term := ([], [], false)
end T
end

section
/- Printed: what the code of functions 140, 141, 113, 66, 138, 139, 108, 54, 110, 58, 116, 120, 68, 70, 67, 145, 154, 144, 53, 13, 17, 25, 12, 9, 29, 23, 19, 8 asks for, by the framework's own reading of it; each line is checked against the code. -/

set_option linter.unusedVariables false
set_option maxRecDepth 100000
set_option maxHeartbeats 4000000
open Go Go.Ab Go.Proofs
namespace Sg
noncomputable section

noncomputable def addH (args : List AV) (H : List AObj) (o : AObj) : List AObj := match args with
  | .msl _ id _ _ :: _ => H.set id o
  | _ => H
noncomputable def addG (args : List AV) (H : List AObj) (o : AObj) : List AObj := match args with
  | .msl _ id _ _ :: _ => H.set id .gone ++ [o]
  | _ => H
noncomputable def headV : List AV → AV
  | v :: _ => v
  | [] => .bad
noncomputable def retG : List (Nat × Ret) := [
  (140, ⟨Int × Bool, fun _ _ x => .tup [.int .i64 x.1, .bool x.2], fun _ H _ => H⟩), (141, ⟨Int, fun _ _ x => .int .i64 x, fun _ H _ => H⟩), (113, ⟨Int, fun _ _ x => .int .i64 x, fun _ H _ => H⟩), (66, ⟨Bool, fun _ _ x => .bool x, fun _ H _ => H⟩), (138, ⟨Int, fun _ _ x => .int .i64 x, fun _ H _ => H⟩),
  (139, ⟨T.Span, fun _ H x => .msl 2 H.length 0 1, fun _ H x => H ++ [.arr 2 (.map T.encS (0, 0) [x])]⟩),
  (139, ⟨List T.Span, fun a _ x => headV a, fun a H x => addH a H (.arr 2 (.map T.encS (0, 0) x))⟩),
  (139, ⟨List T.Span, fun a H x => .msl 2 H.length 0 x.length, fun a H x => addG a H (.arr 2 (.map T.encS (0, 0) x))⟩),
  (108, ⟨List T.Span, fun _ _ x => .sl 2 (.map T.encS (0, 0) x) .none, fun _ H _ => H⟩), (54, ⟨List T.Span, fun _ _ x => .sl 2 (.map T.encS (0, 0) x) .none, fun _ H _ => H⟩), (110, ⟨Bool, fun _ _ x => .bool x, fun _ H _ => H⟩), (58, ⟨Bool, fun _ _ x => .bool x, fun _ H _ => H⟩), (116, ⟨List T.Span, fun _ _ x => .sl 2 (.map T.encS (0, 0) x) .none, fun _ H _ => H⟩), (9157, ⟨List T.Span, fun _ _ x => .sl 2 (.map T.encS (0, 0) x) .none, fun _ H _ => H⟩), (9255, ⟨List T.Span, fun _ _ x => .sl 2 (.map T.encS (0, 0) x) .none, fun _ H _ => H⟩),
  (120, ⟨List T.Span, fun _ _ x => .sl 2 (.map T.encS (0, 0) x) .none, fun _ H _ => H⟩), (68, ⟨List T.Span, fun _ _ x => .sl 2 (.map T.encS (0, 0) x) .none, fun _ H _ => H⟩), (70, ⟨Bool, fun _ _ x => .bool x, fun _ H _ => H⟩), (67, ⟨Bool, fun _ _ x => .bool x, fun _ H _ => H⟩), (145, ⟨Bool, fun _ _ x => .bool x, fun _ H _ => H⟩), (144, ⟨List Int, fun _ _ x => .sl 1 (.map encI 0 x) .none, fun _ H _ => H⟩), (154, ⟨List Int, fun _ _ x => .sl 1 (.map encI 0 x) .none, fun _ H _ => H⟩),
  (53, ⟨T.Term, fun _ _ x => .agg (T.encT x), fun _ H _ => H⟩), (13, ⟨T.Term, fun _ _ x => .agg (T.encT x), fun _ H _ => H⟩), (17, ⟨Bool, fun _ _ x => .bool x, fun _ H _ => H⟩), (25, ⟨Bool, fun _ _ x => .bool x, fun _ H _ => H⟩), (12, ⟨Bool, fun _ _ x => .bool x, fun _ H _ => H⟩), (9, ⟨Bool, fun _ _ x => .bool x, fun _ H _ => H⟩), (9200, ⟨T.Term, fun _ _ x => .agg (T.encT x), fun _ H _ => H⟩), (29, ⟨Bool, fun _ _ x => .bool x, fun _ H _ => H⟩), (23, ⟨Bool, fun _ _ x => .bool x, fun _ H _ => H⟩), (19, ⟨Bool, fun _ _ x => .bool x, fun _ H _ => H⟩), (8, ⟨Bool, fun _ _ x => .bool x, fun _ H _ => H⟩)]
noncomputable def rets : FuncId → List Ret := lookupR (retG ++ C.retC ++ V.retL)

-- 140
noncomputable def l140 : Nat → List Nat
  | 3 => [0, 1, 2, 8, 9, 10]
  | _ => []
noncomputable def u140 : Nat → Bool
  | _ => false
noncomputable def m140 : Nat → Bool
  | _ => false
noncomputable def g140 : Cfg := { N := 49, live := l140, cut := u140, mu := m140, ret := rets }
noncomputable def c140 : Go.Code := Go.Ab.bodyOf Go.Proofs.Tryd.f140
noncomputable def q140_0 : Nat → (AV → List AObj → Prop) → AQ := fun (n : Nat) (Post : AV → List AObj → Prop) => endQ Tryd.prog (resultsOf Tryd.f140) Post
noncomputable def q140_1 : Nat → (AV → List AObj → Prop) → AQ := fun (n : Nat) (Post : AV → List AObj → Prop) => seqQ (fun (s' : Slots) (H' : List AObj) => awp Tryd.prog g140 n (codeSnd (codeSnd (codeSnd (codeSnd c140)))) s' H' (q140_0 n Post)) (q140_0 n Post)
noncomputable def q140_2 : Nat → (AV → List AObj → Prop) → AQ := fun (n : Nat) (Post : AV → List AObj → Prop) => blockQ 0 (q140_1 n Post)
noncomputable def c140_3 : Go.Code := codeFst (codeFst (codeSnd (codeSnd (codeSnd c140))))
theorem s140 : ∀ (l : List T.Span) (p : Int) (Post : AV → List AObj → Prop),
  AWP Tryd.prog 49 0 c140_3
      [(0, AV.sl 2 (Seq.map T.encS ((0 : Int), (0 : Int)) l) Tip.none), (1, AV.int IntKind.i64 p), (2, AV.fn (141 : FuncId) []),
        (8, AV.int IntKind.i64 (↑(List.length l) : Int)), (9, AV.int IntKind.i64 (0 : Int)), (10, AV.int IntKind.i64 (↑(List.length l) : Int))]
      [] (q140_2 0 Post) →
    ASpec Tryd.prog 140 [AV.sl 2 (Seq.map T.encS ((0 : Int), (0 : Int)) l) Tip.none, AV.int IntKind.i64 p, AV.fn (141 : FuncId) []] [] Post := fun l p Post h => Go.Ab.ASpec.of_vc g140 Go.Proofs.Tryd.func140 (by kernel_rfl) (by kernel_rfl) (by kernel_rfl) (Go.Ab.kc (by kernel_rfl) h)
theorem v140_3 : ∀ (l : List T.Span) (p n i j : Int) (n_1 : Nat) (Post : AV → List AObj → Prop),
  condP (decide (i < j))
      (needP ((0 : Int) ≤ (1 : Int))
        (needP
         ((0 : Int) ≤ IntKind.wrap IntKind.i64 (Int.fdiv (IntKind.wrap IntKind.u64 (IntKind.wrap IntKind.i64 (i + j))) (2 : Int)) ∧
         IntKind.wrap IntKind.i64 (Int.fdiv (IntKind.wrap IntKind.u64 (IntKind.wrap IntKind.i64 (i + j))) (2 : Int)) < (↑(List.length l) : Int))
         (ASpec Tryd.prog 141
         [AV.agg
         [AV.int IntKind.i64
         (Prod.fst (List.getD l (Int.toNat (IntKind.wrap IntKind.i64 (Int.fdiv (IntKind.wrap IntKind.u64 (IntKind.wrap IntKind.i64 (i + j))) (2 : Int)))) ((0 : Int), (0 : Int)))),
         AV.int IntKind.i64
         (Prod.snd (List.getD l (Int.toNat (IntKind.wrap IntKind.i64 (Int.fdiv (IntKind.wrap IntKind.u64 (IntKind.wrap IntKind.i64 (i + j))) (2 : Int)))) ((0 : Int), (0 : Int))))],
         AV.int IntKind.i64 p]
         [] fun (r : AV) (H' : List AObj) =>
         ∃ (x : Int),
         r = AV.int IntKind.i64 x ∧
         H' = [] ∧
         condP (decide (x < (0 : Int)))
         (AWP Tryd.prog 49 n_1 c140_3
         [(0, AV.sl 2 (Seq.map T.encS ((0 : Int), (0 : Int)) l) Tip.none), (1, AV.int IntKind.i64 p), (2, AV.fn (141 : FuncId) []),
         (8, AV.int IntKind.i64 n),
         (9,
         AV.int IntKind.i64 (IntKind.wrap IntKind.i64 (IntKind.wrap IntKind.i64 (Int.fdiv (IntKind.wrap IntKind.u64 (IntKind.wrap IntKind.i64 (i + j))) (2 : Int)) + (1 : Int)))),
         (10, AV.int IntKind.i64 j)]
         [] (q140_2 n_1 Post))
         (AWP Tryd.prog 49 n_1 c140_3
         [(0, AV.sl 2 (Seq.map T.encS ((0 : Int), (0 : Int)) l) Tip.none), (1, AV.int IntKind.i64 p), (2, AV.fn (141 : FuncId) []),
         (8, AV.int IntKind.i64 n), (9, AV.int IntKind.i64 i),
         (10, AV.int IntKind.i64 (IntKind.wrap IntKind.i64 (Int.fdiv (IntKind.wrap IntKind.u64 (IntKind.wrap IntKind.i64 (i + j))) (2 : Int))))]
         [] (q140_2 n_1 Post)))))
      (condP (decide (i < n))
        (needP ((0 : Int) ≤ i ∧ i < (↑(List.length l) : Int))
         (ASpec Tryd.prog 141
         [AV.agg [AV.int IntKind.i64 (Prod.fst (List.getD l (Int.toNat i) ((0 : Int), (0 : Int)))), AV.int IntKind.i64 (Prod.snd (List.getD l (Int.toNat i) ((0 : Int), (0 : Int))))],
         AV.int IntKind.i64 p]
         [] fun (r : AV) (H' : List AObj) => ∃ (x : Int), r = AV.int IntKind.i64 x ∧ H' = [] ∧ Post (AV.tup [AV.int IntKind.i64 i, AV.bool (x == (0 : Int))]) []))
        (Post (AV.tup [AV.int IntKind.i64 i, AV.bool false]) [])) →
    AWP Tryd.prog 49 n_1 c140_3
      [(0, AV.sl 2 (Seq.map T.encS ((0 : Int), (0 : Int)) l) Tip.none), (1, AV.int IntKind.i64 p), (2, AV.fn (141 : FuncId) []), (8, AV.int IntKind.i64 n),
        (9, AV.int IntKind.i64 i), (10, AV.int IntKind.i64 j)]
      [] (q140_2 n_1 Post) := fun l p n i j n Post h => Go.Ab.AWP.loop' g140 (Cfg.live g140) c140_3 (by kernel_rfl) (by kernel_rfl) (Go.Ab.kc (by kernel_rfl) h)

-- 141
noncomputable def l141 : Nat → List Nat
  | _ => []
noncomputable def u141 : Nat → Bool
  | _ => false
noncomputable def m141 : Nat → Bool
  | _ => false
noncomputable def g141 : Cfg := { N := 9, live := l141, cut := u141, mu := m141, ret := rets }
theorem s141 : ∀ (x : T.Span) (p : Int) (Post : AV → List AObj → Prop),
  condP (decide (Prod.snd x ≤ p)) (Post (AV.int IntKind.i64 (-1 : Int)) [AObj.cells [AV.int IntKind.i64 (Prod.fst x), AV.int IntKind.i64 (Prod.snd x)]])
      (Post (AV.int IntKind.i64 (1 : Int)) [AObj.cells [AV.int IntKind.i64 (Prod.fst x), AV.int IntKind.i64 (Prod.snd x)]]) →
    ASpec Tryd.prog 141 [AV.agg (T.encS x), AV.int IntKind.i64 p] [] Post := fun x p Post h => Go.Ab.ASpec.of_vc g141 Go.Proofs.Tryd.func141 (by kernel_rfl) (by kernel_rfl) (by kernel_rfl) (Go.Ab.kc (by kernel_rfl) h)

-- 113
noncomputable def l113 : Nat → List Nat
  | _ => []
noncomputable def u113 : Nat → Bool
  | _ => false
noncomputable def m113 : Nat → Bool
  | _ => false
noncomputable def g113 : Cfg := { N := 14, live := l113, cut := u113, mu := m113, ret := rets }
theorem s113 : ∀ (l : List T.Span) (p : Int) (Post : AV → List AObj → Prop),
  (ASpec Tryd.prog 140 [AV.sl 2 (Seq.map T.encS ((0 : Int), (0 : Int)) l) Tip.none, AV.int IntKind.i64 p, AV.fn 141 []] [] fun (r : AV) (H' : List AObj) =>
      ∃ (x : Int × Bool), r = AV.tup [AV.int IntKind.i64 (Prod.fst x), AV.bool (Prod.snd x)] ∧ H' = [] ∧ Post (AV.int IntKind.i64 (Prod.fst x)) []) →
    ASpec Tryd.prog 113 [AV.sl 2 (Seq.map T.encS ((0 : Int), (0 : Int)) l) Tip.none, AV.int IntKind.i64 p] [] Post := fun l p Post h => Go.Ab.ASpec.of_vc g113 Go.Proofs.Tryd.func113 (by kernel_rfl) (by kernel_rfl) (by kernel_rfl) (Go.Ab.kc (by kernel_rfl) h)

-- 66
noncomputable def l66 : Nat → List Nat
  | _ => []
noncomputable def u66 : Nat → Bool
  | _ => false
noncomputable def m66 : Nat → Bool
  | _ => false
noncomputable def g66 : Cfg := { N := 22, live := l66, cut := u66, mu := m66, ret := rets }
theorem s66 : ∀ (l : List T.Span) (p : Int) (Post : AV → List AObj → Prop),
  (ASpec Tryd.prog 113 [AV.sl 2 (Seq.map T.encS ((0 : Int), (0 : Int)) l) Tip.none, AV.int IntKind.i64 p] [] fun (r : AV) (H' : List AObj) =>
      ∃ (x : Int),
        r = AV.int IntKind.i64 x ∧
         H' = [] ∧
         condP (decide (x < (↑(List.length l) : Int)))
         (needP ((0 : Int) ≤ x ∧ x < (↑(List.length l) : Int)) (Post (AV.bool (decide (Prod.fst (List.getD l (Int.toNat x) ((0 : Int), (0 : Int))) ≤ p))) [])) (Post (AV.bool false) [])) →
    ASpec Tryd.prog 66 [AV.sl 2 (Seq.map T.encS ((0 : Int), (0 : Int)) l) Tip.none, AV.int IntKind.i64 p] [] Post := fun l p Post h => Go.Ab.ASpec.of_vc g66 Go.Proofs.Tryd.func66 (by kernel_rfl) (by kernel_rfl) (by kernel_rfl) (Go.Ab.kc (by kernel_rfl) h)

-- 138
noncomputable def l138 : Nat → List Nat
  | _ => []
noncomputable def u138 : Nat → Bool
  | _ => false
noncomputable def m138 : Nat → Bool
  | _ => false
noncomputable def g138 : Cfg := { N := 32, live := l138, cut := u138, mu := m138, ret := rets }
theorem s138 : ∀ (l : List T.Span) (p : Int) (Post : AV → List AObj → Prop),
  (ASpec Tryd.prog 113 [AV.sl 2 (Seq.map T.encS ((0 : Int), (0 : Int)) l) Tip.none, AV.int IntKind.i64 p] [] fun (r : AV) (H' : List AObj) =>
      ∃ (x : Int),
        r = AV.int IntKind.i64 x ∧
         H' = [] ∧
         condP (x == (↑(List.length l) : Int)) (Post (AV.int IntKind.i64 (1000000000 : Int)) [])
         (needP ((0 : Int) ≤ x ∧ x < (↑(List.length l) : Int))
         (condP (decide (Prod.fst (List.getD l (Int.toNat x) ((0 : Int), (0 : Int))) > p))
         (needP ((0 : Int) ≤ x ∧ x < (↑(List.length l) : Int)) (Post (AV.int IntKind.i64 (Prod.fst (List.getD l (Int.toNat x) ((0 : Int), (0 : Int))))) []))
         (needP ((0 : Int) ≤ x ∧ x < (↑(List.length l) : Int)) (Post (AV.int IntKind.i64 (Prod.snd (List.getD l (Int.toNat x) ((0 : Int), (0 : Int))))) []))))) →
    ASpec Tryd.prog 138 [AV.sl 2 (Seq.map T.encS ((0 : Int), (0 : Int)) l) Tip.none, AV.int IntKind.i64 p] [] Post := fun l p Post h => Go.Ab.ASpec.of_vc g138 Go.Proofs.Tryd.func138 (by kernel_rfl) (by kernel_rfl) (by kernel_rfl) (Go.Ab.kc (by kernel_rfl) h)

-- 139
noncomputable def l139 : Nat → List Nat
  | _ => []
noncomputable def u139 : Nat → Bool
  | _ => false
noncomputable def m139 : Nat → Bool
  | 37 => true
  | _ => false
noncomputable def g139 : Cfg := { N := 38, live := l139, cut := u139, mu := m139, ret := rets }
theorem s139n : ∀ (s : T.Span) (Post : AV → List AObj → Prop),
  needP (16 ≤ 140737488351232)
      (needP (1 ≤ 1)
        (Post (AV.msl 2 1 0 1)
         [AObj.cells [AV.int IntKind.i64 (Prod.fst s), AV.int IntKind.i64 (Prod.snd s)], AObj.arr 2 (Seq.raw [[AV.int IntKind.i64 (Prod.fst s), AV.int IntKind.i64 (Prod.snd s)]])])) →
    ASpec Tryd.prog 139 [AV.sl 0 (Seq.raw []) Tip.nil, AV.agg (T.encS s)] [] Post := fun s Post h => Go.Ab.ASpec.of_vc g139 Go.Proofs.Tryd.func139 (by kernel_rfl) (by kernel_rfl) (by kernel_rfl) (Go.Ab.kc (by kernel_rfl) h)
theorem s139m : ∀ (o : List T.Span) (k : Nat) (s : T.Span) (Post : AV → List AObj → Prop),
  condP (decide (IntKind.wrap IntKind.i64 ((↑k : Int) - (1 : Int)) ≥ (0 : Int)))
      (needP ((0 : Int) ≤ IntKind.wrap IntKind.i64 ((↑k : Int) - (1 : Int)) ∧ IntKind.wrap IntKind.i64 ((↑k : Int) - (1 : Int)) < (↑k : Int))
        (needP (0 + Int.toNat (IntKind.wrap IntKind.i64 ((↑k : Int) - (1 : Int))) < List.length o)
         (condP (decide (Prod.fst s ≤ Prod.snd (List.getD o (0 + Int.toNat (IntKind.wrap IntKind.i64 ((↑k : Int) - (1 : Int)))) ((0 : Int), (0 : Int)))))
         (needP ((0 : Int) ≤ IntKind.wrap IntKind.i64 ((↑k : Int) - (1 : Int)) ∧ IntKind.wrap IntKind.i64 ((↑k : Int) - (1 : Int)) < (↑k : Int))
         (needP (0 + Int.toNat (IntKind.wrap IntKind.i64 ((↑k : Int) - (1 : Int))) < List.length o)
         (needP ((0 : Int) ≤ IntKind.wrap IntKind.i64 ((↑k : Int) - (1 : Int)) ∧ IntKind.wrap IntKind.i64 ((↑k : Int) - (1 : Int)) < (↑k : Int))
         (needP (0 + Int.toNat (IntKind.wrap IntKind.i64 ((↑k : Int) - (1 : Int))) < List.length o)
         (Post (AV.msl 2 0 0 k)
         [AObj.arr 2
         (Seq.raw
         (List.set (Seq.toList (Seq.map T.encS ((0 : Int), (0 : Int)) o)) (0 + Int.toNat (IntKind.wrap IntKind.i64 ((↑k : Int) - (1 : Int))))
         [AV.int IntKind.i64 (Prod.fst (List.getD o (0 + Int.toNat (IntKind.wrap IntKind.i64 ((↑k : Int) - (1 : Int)))) ((0 : Int), (0 : Int)))),
         AV.int IntKind.i64
         (if Prod.snd s > Prod.snd (List.getD o (0 + Int.toNat (IntKind.wrap IntKind.i64 ((↑k : Int) - (1 : Int)))) ((0 : Int), (0 : Int))) then Prod.snd s
         else Prod.snd (List.getD o (0 + Int.toNat (IntKind.wrap IntKind.i64 ((↑k : Int) - (1 : Int)))) ((0 : Int), (0 : Int))))])),
         AObj.cells [AV.int IntKind.i64 (Prod.fst s), AV.int IntKind.i64 (Prod.snd s)]])))))
         (needP (k = List.length o ∧ (k + 1) * 16 ≤ 140737488351232)
         (Post (AV.msl 2 2 0 (k + 1))
         [AObj.gone, AObj.cells [AV.int IntKind.i64 (Prod.fst s), AV.int IntKind.i64 (Prod.snd s)],
         AObj.arr 2 (Seq.app (Seq.map T.encS ((0 : Int), (0 : Int)) o) (Seq.raw [[AV.int IntKind.i64 (Prod.fst s), AV.int IntKind.i64 (Prod.snd s)]]))])))))
      (needP (k = List.length o ∧ (k + 1) * 16 ≤ 140737488351232)
        (Post (AV.msl 2 2 0 (k + 1))
         [AObj.gone, AObj.cells [AV.int IntKind.i64 (Prod.fst s), AV.int IntKind.i64 (Prod.snd s)],
         AObj.arr 2 (Seq.app (Seq.map T.encS ((0 : Int), (0 : Int)) o) (Seq.raw [[AV.int IntKind.i64 (Prod.fst s), AV.int IntKind.i64 (Prod.snd s)]]))])) →
    ASpec Tryd.prog 139 [AV.msl 2 0 0 k, AV.agg (T.encS s)] [AObj.arr 2 (Seq.map T.encS ((0 : Int), (0 : Int)) o)] Post := fun o k s Post h => Go.Ab.ASpec.of_vc g139 Go.Proofs.Tryd.func139 (by kernel_rfl) (by kernel_rfl) (by kernel_rfl) (Go.Ab.kc (by kernel_rfl) h)

-- 108
noncomputable def l108 : Nat → List Nat
  | 3 => [0, 1, 2, 7, 8]
  | 8 => [7]
  | _ => []
noncomputable def u108 : Nat → Bool
  | 8 => true
  | _ => false
noncomputable def m108 : Nat → Bool
  | _ => false
noncomputable def g108 : Cfg := { N := 34, live := l108, cut := u108, mu := m108, ret := rets }
noncomputable def c108 : Go.Code := Go.Ab.bodyOf Go.Proofs.Tryd.f108
noncomputable def q108_0 : Nat → (AV → List AObj → Prop) → AQ := fun (n : Nat) (Post : AV → List AObj → Prop) => endQ Tryd.prog (resultsOf Tryd.f108) Post
noncomputable def c108_8 : Go.Code := codeSnd (codeSnd (codeSnd c108))
noncomputable def q108_1 : Nat → (AV → List AObj → Prop) → AQ := fun (n : Nat) (Post : AV → List AObj → Prop) => seqQ (fun (s' : Slots) (H' : List AObj) => AWP Tryd.prog (Cfg.N g108) n c108_8 (restrict s' (Cfg.live g108 8)) H' (q108_0 n Post)) (q108_0 n Post)
noncomputable def q108_2 : Nat → (AV → List AObj → Prop) → AQ := fun (n : Nat) (Post : AV → List AObj → Prop) => blockQ 0 (q108_1 n Post)
noncomputable def c108_3 : Go.Code := codeFst (codeSnd (codeFst (codeSnd (codeSnd c108))))
theorem s108 : ∀ (a b : List T.Span) (Post : AV → List AObj → Prop),
  AWP Tryd.prog 34 0 c108_3
      [(0, AV.sl 2 (Seq.map T.encS ((0 : Int), (0 : Int)) a) Tip.none), (1, AV.sl 2 (Seq.map T.encS ((0 : Int), (0 : Int)) b) Tip.none),
        (2, AV.fn (110 : FuncId) []), (7, AV.sl 0 (Seq.raw []) Tip.nil), (8, AV.int IntKind.i64 (0 : Int))]
      [] (q108_2 0 Post) →
    ASpec Tryd.prog 108 [AV.sl 2 (Seq.map T.encS ((0 : Int), (0 : Int)) a) Tip.none, AV.sl 2 (Seq.map T.encS ((0 : Int), (0 : Int)) b) Tip.none, AV.fn (110 : FuncId) []] []
      Post := fun a b Post h => Go.Ab.ASpec.of_vc g108 Go.Proofs.Tryd.func108 (by kernel_rfl) (by kernel_rfl) (by kernel_rfl) (Go.Ab.kc (by kernel_rfl) h)
theorem v108_3n : ∀ (a b : List T.Span) (p : Int) (n : Nat) (Post : AV → List AObj → Prop),
  condP (decide (p < (1000000000 : Int)))
      (ASpec Tryd.prog 138 [AV.sl 2 (Seq.map T.encS ((0 : Int), (0 : Int)) a) Tip.none, AV.int IntKind.i64 p] [] fun (r : AV) (H' : List AObj) =>
        ∃ (x : Int),
         r = AV.int IntKind.i64 x ∧
         H' = [] ∧
         ASpec Tryd.prog 138 [AV.sl 2 (Seq.map T.encS ((0 : Int), (0 : Int)) b) Tip.none, AV.int IntKind.i64 p] [] fun (r : AV) (H' : List AObj) =>
         ∃ (x_1 : Int),
         r = AV.int IntKind.i64 x_1 ∧
         H' = [] ∧
         ASpec Tryd.prog 66 [AV.sl 2 (Seq.map T.encS ((0 : Int), (0 : Int)) a) Tip.none, AV.int IntKind.i64 p] [] fun (r : AV) (H' : List AObj) =>
         ∃ (x_2 : Bool),
         r = AV.bool x_2 ∧
         H' = [] ∧
         ASpec Tryd.prog 66 [AV.sl 2 (Seq.map T.encS ((0 : Int), (0 : Int)) b) Tip.none, AV.int IntKind.i64 p] [] fun (r : AV) (H' : List AObj) =>
         ∃ (x_3 : Bool),
         r = AV.bool x_3 ∧
         H' = [] ∧
         ASpec Tryd.prog 110 [AV.bool x_2, AV.bool x_3] [] fun (r : AV) (H' : List AObj) =>
         ∃ (x_4 : Bool),
         r = AV.bool x_4 ∧
         H' = [] ∧
         condP x_4
         (ASpec Tryd.prog 139 [AV.sl 0 (Seq.raw []) Tip.nil, AV.agg [AV.int IntKind.i64 p, AV.int IntKind.i64 (if x_1 < x then x_1 else x)]] []
         fun (r : AV) (H' : List AObj) =>
         (∃ (x_5 : Int × Int),
         r = AV.msl 2 0 0 1 ∧
         H' = [AObj.arr 2 (Seq.map T.encS ((0 : Int), (0 : Int)) [x_5])] ∧
         AWP Tryd.prog 34 n c108_3
         [(0, AV.sl 2 (Seq.map T.encS ((0 : Int), (0 : Int)) a) Tip.none),
         (1, AV.sl 2 (Seq.map T.encS ((0 : Int), (0 : Int)) b) Tip.none), (2, AV.fn (110 : FuncId) []),
         (7, AV.msl 2 0 0 1), (8, AV.int IntKind.i64 (if x_1 < x then x_1 else x))]
         [AObj.arr 2 (Seq.map T.encS ((0 : Int), (0 : Int)) [x_5])] (q108_2 n Post)) ∨
         (∃ (x_5 : List T.Span),
         r = AV.sl 0 (Seq.raw []) Tip.nil ∧
         H' = [] ∧
         AWP Tryd.prog 34 n c108_3
         [(0, AV.sl 2 (Seq.map T.encS ((0 : Int), (0 : Int)) a) Tip.none),
         (1, AV.sl 2 (Seq.map T.encS ((0 : Int), (0 : Int)) b) Tip.none), (2, AV.fn (110 : FuncId) []),
         (7, AV.sl 0 (Seq.raw []) Tip.nil), (8, AV.int IntKind.i64 (if x_1 < x then x_1 else x))]
         [] (q108_2 n Post)) ∨
         ∃ (x_5 : List T.Span),
         r = AV.msl 2 0 0 (List.length x_5) ∧
         H' = [] ∧
         AWP Tryd.prog 34 n c108_3
         [(0, AV.sl 2 (Seq.map T.encS ((0 : Int), (0 : Int)) a) Tip.none),
         (1, AV.sl 2 (Seq.map T.encS ((0 : Int), (0 : Int)) b) Tip.none), (2, AV.fn (110 : FuncId) []),
         (7, AV.msl 2 0 0 (List.length x_5)), (8, AV.int IntKind.i64 (if x_1 < x then x_1 else x))]
         [] (q108_2 n Post))
         (AWP Tryd.prog 34 n c108_3
         [(0, AV.sl 2 (Seq.map T.encS ((0 : Int), (0 : Int)) a) Tip.none),
         (1, AV.sl 2 (Seq.map T.encS ((0 : Int), (0 : Int)) b) Tip.none), (2, AV.fn (110 : FuncId) []),
         (7, AV.sl 0 (Seq.raw []) Tip.nil), (8, AV.int IntKind.i64 (if x_1 < x then x_1 else x))]
         [] (q108_2 n Post)))
      (AWP Tryd.prog 34 n c108_8 [(7, AV.sl 0 (Seq.raw []) Tip.nil)] [] (q108_0 n Post)) →
    AWP Tryd.prog 34 n c108_3
      [(0, AV.sl 2 (Seq.map T.encS ((0 : Int), (0 : Int)) a) Tip.none), (1, AV.sl 2 (Seq.map T.encS ((0 : Int), (0 : Int)) b) Tip.none),
        (2, AV.fn (110 : FuncId) []), (7, AV.sl 0 (Seq.raw []) Tip.nil), (8, AV.int IntKind.i64 p)]
      [] (q108_2 n Post) := fun a b p n Post h => Go.Ab.AWP.loop' g108 (Cfg.live g108) c108_3 (by kernel_rfl) (by kernel_rfl) (Go.Ab.kc (by kernel_rfl) h)
theorem v108_3m : ∀ (a b o : List T.Span) (k : Nat) (p : Int) (n : Nat) (Post : AV → List AObj → Prop),
  condP (decide (p < (1000000000 : Int)))
      (ASpec Tryd.prog 138 [AV.sl 2 (Seq.map T.encS ((0 : Int), (0 : Int)) a) Tip.none, AV.int IntKind.i64 p] [AObj.arr 2 (Seq.map T.encS ((0 : Int), (0 : Int)) o)]
        fun (r : AV) (H' : List AObj) =>
        ∃ (x : Int),
         r = AV.int IntKind.i64 x ∧
         H' = [AObj.arr 2 (Seq.map T.encS ((0 : Int), (0 : Int)) o)] ∧
         ASpec Tryd.prog 138 [AV.sl 2 (Seq.map T.encS ((0 : Int), (0 : Int)) b) Tip.none, AV.int IntKind.i64 p] [AObj.arr 2 (Seq.map T.encS ((0 : Int), (0 : Int)) o)]
         fun (r : AV) (H' : List AObj) =>
         ∃ (x_1 : Int),
         r = AV.int IntKind.i64 x_1 ∧
         H' = [AObj.arr 2 (Seq.map T.encS ((0 : Int), (0 : Int)) o)] ∧
         ASpec Tryd.prog 66 [AV.sl 2 (Seq.map T.encS ((0 : Int), (0 : Int)) a) Tip.none, AV.int IntKind.i64 p]
         [AObj.arr 2 (Seq.map T.encS ((0 : Int), (0 : Int)) o)] fun (r : AV) (H' : List AObj) =>
         ∃ (x_2 : Bool),
         r = AV.bool x_2 ∧
         H' = [AObj.arr 2 (Seq.map T.encS ((0 : Int), (0 : Int)) o)] ∧
         ASpec Tryd.prog 66 [AV.sl 2 (Seq.map T.encS ((0 : Int), (0 : Int)) b) Tip.none, AV.int IntKind.i64 p]
         [AObj.arr 2 (Seq.map T.encS ((0 : Int), (0 : Int)) o)] fun (r : AV) (H' : List AObj) =>
         ∃ (x_3 : Bool),
         r = AV.bool x_3 ∧
         H' = [AObj.arr 2 (Seq.map T.encS ((0 : Int), (0 : Int)) o)] ∧
         ASpec Tryd.prog 110 [AV.bool x_2, AV.bool x_3] [AObj.arr 2 (Seq.map T.encS ((0 : Int), (0 : Int)) o)] fun (r : AV) (H' : List AObj) =>
         ∃ (x_4 : Bool),
         r = AV.bool x_4 ∧
         H' = [AObj.arr 2 (Seq.map T.encS ((0 : Int), (0 : Int)) o)] ∧
         condP x_4
         (ASpec Tryd.prog 139 [AV.msl 2 0 0 k, AV.agg [AV.int IntKind.i64 p, AV.int IntKind.i64 (if x_1 < x then x_1 else x)]]
         [AObj.arr 2 (Seq.map T.encS ((0 : Int), (0 : Int)) o)] fun (r : AV) (H' : List AObj) =>
         (∃ (x_5 : Int × Int),
         r = AV.msl 2 1 0 1 ∧
         H' = [AObj.arr 2 (Seq.map T.encS ((0 : Int), (0 : Int)) o), AObj.arr 2 (Seq.map T.encS ((0 : Int), (0 : Int)) [x_5])] ∧
         AWP Tryd.prog 34 n c108_3
         [(0, AV.sl 2 (Seq.map T.encS ((0 : Int), (0 : Int)) a) Tip.none),
         (1, AV.sl 2 (Seq.map T.encS ((0 : Int), (0 : Int)) b) Tip.none), (2, AV.fn (110 : FuncId) []),
         (7, AV.msl 2 1 0 1), (8, AV.int IntKind.i64 (if x_1 < x then x_1 else x))]
         [AObj.arr 2 (Seq.map T.encS ((0 : Int), (0 : Int)) o), AObj.arr 2 (Seq.map T.encS ((0 : Int), (0 : Int)) [x_5])]
         (q108_2 n Post)) ∨
         (∃ (x_5 : List T.Span),
         r = AV.msl 2 0 0 k ∧
         H' = [AObj.arr 2 (Seq.map T.encS ((0 : Int), (0 : Int)) x_5)] ∧
         AWP Tryd.prog 34 n c108_3
         [(0, AV.sl 2 (Seq.map T.encS ((0 : Int), (0 : Int)) a) Tip.none),
         (1, AV.sl 2 (Seq.map T.encS ((0 : Int), (0 : Int)) b) Tip.none), (2, AV.fn (110 : FuncId) []),
         (7, AV.msl 2 0 0 k), (8, AV.int IntKind.i64 (if x_1 < x then x_1 else x))]
         [AObj.arr 2 (Seq.map T.encS ((0 : Int), (0 : Int)) x_5)] (q108_2 n Post)) ∨
         ∃ (x_5 : List T.Span),
         r = AV.msl 2 1 0 (List.length x_5) ∧
         H' = [AObj.gone, AObj.arr 2 (Seq.map T.encS ((0 : Int), (0 : Int)) x_5)] ∧
         AWP Tryd.prog 34 n c108_3
         [(0, AV.sl 2 (Seq.map T.encS ((0 : Int), (0 : Int)) a) Tip.none),
         (1, AV.sl 2 (Seq.map T.encS ((0 : Int), (0 : Int)) b) Tip.none), (2, AV.fn (110 : FuncId) []),
         (7, AV.msl 2 1 0 (List.length x_5)), (8, AV.int IntKind.i64 (if x_1 < x then x_1 else x))]
         [AObj.gone, AObj.arr 2 (Seq.map T.encS ((0 : Int), (0 : Int)) x_5)] (q108_2 n Post))
         (AWP Tryd.prog 34 n c108_3
         [(0, AV.sl 2 (Seq.map T.encS ((0 : Int), (0 : Int)) a) Tip.none),
         (1, AV.sl 2 (Seq.map T.encS ((0 : Int), (0 : Int)) b) Tip.none), (2, AV.fn (110 : FuncId) []),
         (7, AV.msl 2 0 0 k), (8, AV.int IntKind.i64 (if x_1 < x then x_1 else x))]
         [AObj.arr 2 (Seq.map T.encS ((0 : Int), (0 : Int)) o)] (q108_2 n Post)))
      (AWP Tryd.prog 34 n c108_8 [(7, AV.msl 2 0 0 k)] [AObj.arr 2 (Seq.map T.encS ((0 : Int), (0 : Int)) o)] (q108_0 n Post)) →
    AWP Tryd.prog 34 n c108_3
      [(0, AV.sl 2 (Seq.map T.encS ((0 : Int), (0 : Int)) a) Tip.none), (1, AV.sl 2 (Seq.map T.encS ((0 : Int), (0 : Int)) b) Tip.none),
        (2, AV.fn (110 : FuncId) []), (7, AV.msl 2 0 0 k), (8, AV.int IntKind.i64 p)]
      [AObj.arr 2 (Seq.map T.encS ((0 : Int), (0 : Int)) o)] (q108_2 n Post) := fun a b o k p n Post h => Go.Ab.AWP.loop' g108 (Cfg.live g108) c108_3 (by kernel_rfl) (by kernel_rfl) (Go.Ab.kc (by kernel_rfl) h)
theorem v108_8n : ∀ (n : Nat) (Post : AV → List AObj → Prop), Post (AV.sl 0 (Seq.raw []) Tip.nil) [] → AWP Tryd.prog 34 n c108_8 [(7, AV.sl 0 (Seq.raw []) Tip.nil)] [] (q108_0 n Post) := fun n Post h => Go.Ab.awp_sound g108 n _ _ _ _ (Go.Ab.kc (by kernel_rfl) h)
theorem v108_8s : ∀ (o : List T.Span) (n : Nat) (Post : AV → List AObj → Prop),
  Post (AV.sl 2 (Seq.map T.encS ((0 : Int), (0 : Int)) o) Tip.none) [] →
    AWP Tryd.prog 34 n c108_8 [(7, AV.sl 2 (Seq.map T.encS ((0 : Int), (0 : Int)) o) Tip.none)] [] (q108_0 n Post) := fun o n Post h => Go.Ab.awp_sound g108 n _ _ _ _ (Go.Ab.kc (by kernel_rfl) h)

-- 54
noncomputable def l54 : Nat → List Nat
  | _ => []
noncomputable def u54 : Nat → Bool
  | _ => false
noncomputable def m54 : Nat → Bool
  | _ => false
noncomputable def g54 : Cfg := { N := 8, live := l54, cut := u54, mu := m54, ret := rets }
theorem s54 : ∀ (a b : List T.Span) (Post : AV → List AObj → Prop),
  (ASpec Tryd.prog 108 [AV.sl 2 (Seq.map T.encS ((0 : Int), (0 : Int)) a) Tip.none, AV.sl 2 (Seq.map T.encS ((0 : Int), (0 : Int)) b) Tip.none, AV.fn 110 []] []
      fun (r : AV) (H' : List AObj) =>
      ∃ (x : List T.Span), r = AV.sl 2 (Seq.map T.encS ((0 : Int), (0 : Int)) x) Tip.none ∧ H' = [] ∧ Post (AV.sl 2 (Seq.map T.encS ((0 : Int), (0 : Int)) x) Tip.none) []) →
    ASpec Tryd.prog 54 [AV.sl 2 (Seq.map T.encS ((0 : Int), (0 : Int)) a) Tip.none, AV.sl 2 (Seq.map T.encS ((0 : Int), (0 : Int)) b) Tip.none] [] Post := fun a b Post h => Go.Ab.ASpec.of_vc g54 Go.Proofs.Tryd.func54 (by kernel_rfl) (by kernel_rfl) (by kernel_rfl) (Go.Ab.kc (by kernel_rfl) h)

-- 110
noncomputable def l110 : Nat → List Nat
  | _ => []
noncomputable def u110 : Nat → Bool
  | _ => false
noncomputable def m110 : Nat → Bool
  | _ => false
noncomputable def g110 : Cfg := { N := 9, live := l110, cut := u110, mu := m110, ret := rets }
theorem s110 : ∀ (x y : Bool) (Post : AV → List AObj → Prop), condP x (Post (AV.bool y) []) (Post (AV.bool false) []) → ASpec Tryd.prog 110 [AV.bool x, AV.bool y] [] Post := fun x y Post h => Go.Ab.ASpec.of_vc g110 Go.Proofs.Tryd.func110 (by kernel_rfl) (by kernel_rfl) (by kernel_rfl) (Go.Ab.kc (by kernel_rfl) h)

-- 58
noncomputable def l58 : Nat → List Nat
  | 2 => [1, 8, 9, 10]
  | _ => []
noncomputable def u58 : Nat → Bool
  | _ => false
noncomputable def m58 : Nat → Bool
  | _ => false
noncomputable def g58 : Cfg := { N := 43, live := l58, cut := u58, mu := m58, ret := rets }
noncomputable def c58 : Go.Code := Go.Ab.bodyOf Go.Proofs.Tryd.f58
noncomputable def q58_0 : Nat → (AV → List AObj → Prop) → AQ := fun (n : Nat) (Post : AV → List AObj → Prop) => endQ Tryd.prog (resultsOf Tryd.f58) Post
noncomputable def q58_1 : Nat → (AV → List AObj → Prop) → AQ := fun (n : Nat) (Post : AV → List AObj → Prop) => seqQ (fun (s' : Slots) (H' : List AObj) => awp Tryd.prog g58 n (codeSnd (codeSnd c58)) s' H' (q58_0 n Post)) (q58_0 n Post)
noncomputable def q58_2 : Nat → (AV → List AObj → Prop) → AQ := fun (n : Nat) (Post : AV → List AObj → Prop) => blockQ 0 (q58_1 n Post)
noncomputable def c58_2 : Go.Code := codeFst (codeSnd (codeFst (codeSnd c58)))
theorem s58 : ∀ (a b : List T.Span) (Post : AV → List AObj → Prop),
  AWP Tryd.prog 43 0 c58_2
      [(1, AV.sl 2 (Seq.map T.encS ((0 : Int), (0 : Int)) b) Tip.none), (8, AV.sl 2 (Seq.map T.encS ((0 : Int), (0 : Int)) a) Tip.none),
        (9, AV.int IntKind.i64 (↑(List.length a) : Int)), (10, AV.int IntKind.i64 (0 : Int))]
      [] (q58_2 0 Post) →
    ASpec Tryd.prog 58 [AV.sl 2 (Seq.map T.encS ((0 : Int), (0 : Int)) a) Tip.none, AV.sl 2 (Seq.map T.encS ((0 : Int), (0 : Int)) b) Tip.none] [] Post := fun a b Post h => Go.Ab.ASpec.of_vc g58 Go.Proofs.Tryd.func58 (by kernel_rfl) (by kernel_rfl) (by kernel_rfl) (Go.Ab.kc (by kernel_rfl) h)
theorem v58_2 : ∀ (a b : List T.Span) (n i : Int) (n_1 : Nat) (Post : AV → List AObj → Prop),
  condP (decide (i < n))
      (needP ((0 : Int) ≤ i ∧ i < (↑(List.length a) : Int))
        (ASpec Tryd.prog 113 [AV.sl 2 (Seq.map T.encS ((0 : Int), (0 : Int)) b) Tip.none, AV.int IntKind.i64 (Prod.fst (List.getD a (Int.toNat i) ((0 : Int), (0 : Int))))]
         [AObj.cells [AV.int IntKind.i64 (Prod.fst (List.getD a (Int.toNat i) ((0 : Int), (0 : Int)))), AV.int IntKind.i64 (Prod.snd (List.getD a (Int.toNat i) ((0 : Int), (0 : Int))))]]
         fun (r : AV) (H' : List AObj) =>
         ∃ (x : Int),
         r = AV.int IntKind.i64 x ∧
         H' = [AObj.cells [AV.int IntKind.i64 (Prod.fst (List.getD a (Int.toNat i) ((0 : Int), (0 : Int)))), AV.int IntKind.i64 (Prod.snd (List.getD a (Int.toNat i) ((0 : Int), (0 : Int))))]] ∧
         condP (x == (↑(List.length b) : Int))
         (Post (AV.bool false)
         [AObj.cells [AV.int IntKind.i64 (Prod.fst (List.getD a (Int.toNat i) ((0 : Int), (0 : Int)))), AV.int IntKind.i64 (Prod.snd (List.getD a (Int.toNat i) ((0 : Int), (0 : Int))))]])
         (needP ((0 : Int) ≤ x ∧ x < (↑(List.length b) : Int))
         (condP (decide (Prod.fst (List.getD b (Int.toNat x) ((0 : Int), (0 : Int))) > Prod.fst (List.getD a (Int.toNat i) ((0 : Int), (0 : Int)))))
         (Post (AV.bool false)
         [AObj.cells
         [AV.int IntKind.i64 (Prod.fst (List.getD a (Int.toNat i) ((0 : Int), (0 : Int)))), AV.int IntKind.i64 (Prod.snd (List.getD a (Int.toNat i) ((0 : Int), (0 : Int))))]])
         (needP ((0 : Int) ≤ x ∧ x < (↑(List.length b) : Int))
         (condP (decide (Prod.snd (List.getD b (Int.toNat x) ((0 : Int), (0 : Int))) < Prod.snd (List.getD a (Int.toNat i) ((0 : Int), (0 : Int)))))
         (Post (AV.bool false)
         [AObj.cells
         [AV.int IntKind.i64 (Prod.fst (List.getD a (Int.toNat i) ((0 : Int), (0 : Int)))), AV.int IntKind.i64 (Prod.snd (List.getD a (Int.toNat i) ((0 : Int), (0 : Int))))]])
         (AWP Tryd.prog 43 n_1 c58_2
         [(1, AV.sl 2 (Seq.map T.encS ((0 : Int), (0 : Int)) b) Tip.none), (8, AV.sl 2 (Seq.map T.encS ((0 : Int), (0 : Int)) a) Tip.none),
         (9, AV.int IntKind.i64 n), (10, AV.int IntKind.i64 (IntKind.wrap IntKind.i64 (i + (1 : Int))))]
         [AObj.cells
         [AV.int IntKind.i64 (Prod.fst (List.getD a (Int.toNat i) ((0 : Int), (0 : Int)))), AV.int IntKind.i64 (Prod.snd (List.getD a (Int.toNat i) ((0 : Int), (0 : Int))))]]
         (q58_2 n_1 Post))))))))
      (Post (AV.bool true) []) →
    AWP Tryd.prog 43 n_1 c58_2
      [(1, AV.sl 2 (Seq.map T.encS ((0 : Int), (0 : Int)) b) Tip.none), (8, AV.sl 2 (Seq.map T.encS ((0 : Int), (0 : Int)) a) Tip.none),
        (9, AV.int IntKind.i64 n), (10, AV.int IntKind.i64 i)]
      [] (q58_2 n_1 Post) := fun a b n i n Post h => Go.Ab.AWP.loop' g58 (Cfg.live g58) c58_2 (by kernel_rfl) (by kernel_rfl) (Go.Ab.kc (by kernel_rfl) h)

-- 116
noncomputable def l116 : Nat → List Nat
  | _ => []
noncomputable def u116 : Nat → Bool
  | _ => false
noncomputable def m116 : Nat → Bool
  | _ => false
noncomputable def g116 : Cfg := { N := 3, live := l116, cut := u116, mu := m116, ret := rets }
theorem s116 : ∀ (Post : AV → List AObj → Prop), Post (AV.sl 2 (Seq.raw [[AV.int IntKind.i64 (0 : Int), AV.int IntKind.i64 (1000000000 : Int)]]) Tip.full) [] → ASpec Tryd.prog 116 [] [] Post := fun Post h => Go.Ab.ASpec.of_vc g116 Go.Proofs.Tryd.func116 (by kernel_rfl) (by kernel_rfl) (by kernel_rfl) (Go.Ab.kc (by kernel_rfl) h)

-- 120
noncomputable def l17 : Nat → List Nat
  | _ => []
noncomputable def u17 : Nat → Bool
  | _ => false
noncomputable def m17 : Nat → Bool
  | _ => false
noncomputable def g17 : Cfg := { N := 26, live := l17, cut := u17, mu := m17, ret := rets }
theorem s17 : ∀ (a b : T.Term) (Post : AV → List AObj → Prop),
  condP (ByteArray.toList { data := List.toArray (Prod.fst a) } == ByteArray.toList { data := List.toArray (Prod.fst b) })
      (condP (!Prod.snd (Prod.snd a))
        (ASpec Tryd.prog 58
         [AV.sl 2 (Seq.map T.encS ((0 : Int), (0 : Int)) (Prod.fst (Prod.snd a))) Tip.none, AV.sl 2 (Seq.map T.encS ((0 : Int), (0 : Int)) (Prod.fst (Prod.snd b))) Tip.none]
         [AObj.cells [AV.str { data := List.toArray (Prod.fst a) }, AV.sl 2 (Seq.map T.encS ((0 : Int), (0 : Int)) (Prod.fst (Prod.snd a))) Tip.none, AV.bool (Prod.snd (Prod.snd a))],
         AObj.cells [AV.str { data := List.toArray (Prod.fst b) }, AV.sl 2 (Seq.map T.encS ((0 : Int), (0 : Int)) (Prod.fst (Prod.snd b))) Tip.none, AV.bool (Prod.snd (Prod.snd b))]]
         fun (r : AV) (H' : List AObj) =>
         ∃ (x : Bool),
         r = AV.bool x ∧
         H' =
         [AObj.cells [AV.str { data := List.toArray (Prod.fst a) }, AV.sl 2 (Seq.map T.encS ((0 : Int), (0 : Int)) (Prod.fst (Prod.snd a))) Tip.none, AV.bool (Prod.snd (Prod.snd a))],
         AObj.cells
         [AV.str { data := List.toArray (Prod.fst b) }, AV.sl 2 (Seq.map T.encS ((0 : Int), (0 : Int)) (Prod.fst (Prod.snd b))) Tip.none, AV.bool (Prod.snd (Prod.snd b))]] ∧
         Post (AV.bool x)
         [AObj.cells [AV.str { data := List.toArray (Prod.fst a) }, AV.sl 2 (Seq.map T.encS ((0 : Int), (0 : Int)) (Prod.fst (Prod.snd a))) Tip.none, AV.bool (Prod.snd (Prod.snd a))],
         AObj.cells
         [AV.str { data := List.toArray (Prod.fst b) }, AV.sl 2 (Seq.map T.encS ((0 : Int), (0 : Int)) (Prod.fst (Prod.snd b))) Tip.none, AV.bool (Prod.snd (Prod.snd b))]])
        (condP (Prod.snd (Prod.snd b))
         (ASpec Tryd.prog 58
         [AV.sl 2 (Seq.map T.encS ((0 : Int), (0 : Int)) (Prod.fst (Prod.snd a))) Tip.none, AV.sl 2 (Seq.map T.encS ((0 : Int), (0 : Int)) (Prod.fst (Prod.snd b))) Tip.none]
         [AObj.cells [AV.str { data := List.toArray (Prod.fst a) }, AV.sl 2 (Seq.map T.encS ((0 : Int), (0 : Int)) (Prod.fst (Prod.snd a))) Tip.none, AV.bool (Prod.snd (Prod.snd a))],
         AObj.cells [AV.str { data := List.toArray (Prod.fst b) }, AV.sl 2 (Seq.map T.encS ((0 : Int), (0 : Int)) (Prod.fst (Prod.snd b))) Tip.none, AV.bool (Prod.snd (Prod.snd b))]]
         fun (r : AV) (H' : List AObj) =>
         ∃ (x : Bool),
         r = AV.bool x ∧
         H' =
         [AObj.cells
         [AV.str { data := List.toArray (Prod.fst a) }, AV.sl 2 (Seq.map T.encS ((0 : Int), (0 : Int)) (Prod.fst (Prod.snd a))) Tip.none, AV.bool (Prod.snd (Prod.snd a))],
         AObj.cells
         [AV.str { data := List.toArray (Prod.fst b) }, AV.sl 2 (Seq.map T.encS ((0 : Int), (0 : Int)) (Prod.fst (Prod.snd b))) Tip.none, AV.bool (Prod.snd (Prod.snd b))]] ∧
         Post (AV.bool x)
         [AObj.cells
         [AV.str { data := List.toArray (Prod.fst a) }, AV.sl 2 (Seq.map T.encS ((0 : Int), (0 : Int)) (Prod.fst (Prod.snd a))) Tip.none, AV.bool (Prod.snd (Prod.snd a))],
         AObj.cells
         [AV.str { data := List.toArray (Prod.fst b) }, AV.sl 2 (Seq.map T.encS ((0 : Int), (0 : Int)) (Prod.fst (Prod.snd b))) Tip.none, AV.bool (Prod.snd (Prod.snd b))]])
         (Post (AV.bool false)
         [AObj.cells [AV.str { data := List.toArray (Prod.fst a) }, AV.sl 2 (Seq.map T.encS ((0 : Int), (0 : Int)) (Prod.fst (Prod.snd a))) Tip.none, AV.bool (Prod.snd (Prod.snd a))],
         AObj.cells [AV.str { data := List.toArray (Prod.fst b) }, AV.sl 2 (Seq.map T.encS ((0 : Int), (0 : Int)) (Prod.fst (Prod.snd b))) Tip.none, AV.bool (Prod.snd (Prod.snd b))]])))
      (Post (AV.bool false)
        [AObj.cells [AV.str { data := List.toArray (Prod.fst a) }, AV.sl 2 (Seq.map T.encS ((0 : Int), (0 : Int)) (Prod.fst (Prod.snd a))) Tip.none, AV.bool (Prod.snd (Prod.snd a))],
         AObj.cells [AV.str { data := List.toArray (Prod.fst b) }, AV.sl 2 (Seq.map T.encS ((0 : Int), (0 : Int)) (Prod.fst (Prod.snd b))) Tip.none, AV.bool (Prod.snd (Prod.snd b))]]) →
    ASpec Tryd.prog 17 [AV.agg (T.encT a), AV.agg (T.encT b)] [] Post := fun a b Post h => Go.Ab.ASpec.of_vc g17 Go.Proofs.Tryd.func17 (by kernel_rfl) (by kernel_rfl) (by kernel_rfl) (Go.Ab.kc (by kernel_rfl) h)

-- 25
noncomputable def l12 : Nat → List Nat
  | _ => []
noncomputable def u12 : Nat → Bool
  | _ => false
noncomputable def m12 : Nat → Bool
  | _ => false
noncomputable def g12 : Cfg := { N := 12, live := l12, cut := u12, mu := m12, ret := rets }
theorem s12 : ∀ (a : T.Term) (Post : AV → List AObj → Prop),
  condP (!Prod.snd (Prod.snd a))
      (Post (AV.bool ((↑(List.length (Prod.fst (Prod.snd a))) : Int) == (0 : Int)))
        [AObj.cells [AV.str { data := List.toArray (Prod.fst a) }, AV.sl 2 (Seq.map T.encS ((0 : Int), (0 : Int)) (Prod.fst (Prod.snd a))) Tip.none, AV.bool (Prod.snd (Prod.snd a))]])
      (Post (AV.bool false)
        [AObj.cells [AV.str { data := List.toArray (Prod.fst a) }, AV.sl 2 (Seq.map T.encS ((0 : Int), (0 : Int)) (Prod.fst (Prod.snd a))) Tip.none, AV.bool (Prod.snd (Prod.snd a))]]) →
    ASpec Tryd.prog 12 [AV.agg (T.encT a)] [] Post := fun a Post h => Go.Ab.ASpec.of_vc g12 Go.Proofs.Tryd.func12 (by kernel_rfl) (by kernel_rfl) (by kernel_rfl) (Go.Ab.kc (by kernel_rfl) h)

-- 9
noncomputable def l9 : Nat → List Nat
  | _ => []
noncomputable def u9 : Nat → Bool
  | _ => false
noncomputable def m9 : Nat → Bool
  | _ => false
noncomputable def g9 : Cfg := { N := 11, live := l9, cut := u9, mu := m9, ret := rets }
theorem s9 : ∀ (a : T.Term) (Post : AV → List AObj → Prop),
  (ASpec Tryd.prog 50 [AV.str { data := List.toArray (Prod.fst a) }]
      [AObj.cells [AV.str { data := List.toArray (Prod.fst a) }, AV.sl 2 (Seq.map T.encS ((0 : Int), (0 : Int)) (Prod.fst (Prod.snd a))) Tip.none, AV.bool (Prod.snd (Prod.snd a))]]
      fun (r : AV) (H' : List AObj) =>
      ∃ (x : Bool),
        r = AV.bool x ∧
         H' = [AObj.cells [AV.str { data := List.toArray (Prod.fst a) }, AV.sl 2 (Seq.map T.encS ((0 : Int), (0 : Int)) (Prod.fst (Prod.snd a))) Tip.none, AV.bool (Prod.snd (Prod.snd a))]] ∧
         condP x
         (ASpec Tryd.prog 51 [AV.sl 2 (Seq.map T.encS ((0 : Int), (0 : Int)) (Prod.fst (Prod.snd a))) Tip.none]
         [AObj.cells [AV.str { data := List.toArray (Prod.fst a) }, AV.sl 2 (Seq.map T.encS ((0 : Int), (0 : Int)) (Prod.fst (Prod.snd a))) Tip.none, AV.bool (Prod.snd (Prod.snd a))]]
         fun (r : AV) (H' : List AObj) =>
         ∃ (x : Bool),
         r = AV.bool x ∧
         H' =
         [AObj.cells
         [AV.str { data := List.toArray (Prod.fst a) }, AV.sl 2 (Seq.map T.encS ((0 : Int), (0 : Int)) (Prod.fst (Prod.snd a))) Tip.none, AV.bool (Prod.snd (Prod.snd a))]] ∧
         Post (AV.bool x)
         [AObj.cells
         [AV.str { data := List.toArray (Prod.fst a) }, AV.sl 2 (Seq.map T.encS ((0 : Int), (0 : Int)) (Prod.fst (Prod.snd a))) Tip.none, AV.bool (Prod.snd (Prod.snd a))]])
         (Post (AV.bool false)
         [AObj.cells
         [AV.str { data := List.toArray (Prod.fst a) }, AV.sl 2 (Seq.map T.encS ((0 : Int), (0 : Int)) (Prod.fst (Prod.snd a))) Tip.none, AV.bool (Prod.snd (Prod.snd a))]])) →
    ASpec Tryd.prog 9 [AV.agg (T.encT a)] [] Post := fun a Post h => Go.Ab.ASpec.of_vc g9 Go.Proofs.Tryd.func9 (by kernel_rfl) (by kernel_rfl) (by kernel_rfl) (Go.Ab.kc (by kernel_rfl) h)

-- 29
noncomputable def l8 : Nat → List Nat
  | _ => []
noncomputable def u8 : Nat → Bool
  | _ => false
noncomputable def m8 : Nat → Bool
  | _ => false
noncomputable def g8 : Cfg := { N := 13, live := l8, cut := u8, mu := m8, ret := rets }
theorem s8 : ∀ (a : T.Term) (Post : AV → List AObj → Prop),
  condP (decide ((↑(List.length (Prod.fst (Prod.snd a))) : Int) > (60 : Int)))
      (Post (AV.bool true)
        [AObj.cells [AV.str { data := List.toArray (Prod.fst a) }, AV.sl 2 (Seq.map T.encS ((0 : Int), (0 : Int)) (Prod.fst (Prod.snd a))) Tip.none, AV.bool (Prod.snd (Prod.snd a))]])
      (Post (AV.bool (decide ((↑(ByteArray.size { data := List.toArray (Prod.fst a) }) : Int) > (200 : Int))))
        [AObj.cells [AV.str { data := List.toArray (Prod.fst a) }, AV.sl 2 (Seq.map T.encS ((0 : Int), (0 : Int)) (Prod.fst (Prod.snd a))) Tip.none, AV.bool (Prod.snd (Prod.snd a))]]) →
    ASpec Tryd.prog 8 [AV.agg (T.encT a)] [] Post := fun a Post h => Go.Ab.ASpec.of_vc g8 Go.Proofs.Tryd.func8 (by kernel_rfl) (by kernel_rfl) (by kernel_rfl) (Go.Ab.kc (by kernel_rfl) h)

end
end Sg
end

section
/- Printed: what the code of functions 107, 115, 50, 152, 142, 114, 59 asks for, by the framework's own reading of it; each line is checked against the code. -/

set_option linter.unusedVariables false
set_option maxRecDepth 100000
set_option maxHeartbeats 4000000
open Go Go.Ab Go.Proofs
namespace S
noncomputable section

noncomputable def retS : List (Nat × Ret) := [
  (18032, ⟨Unit, fun _ _ _ => .bool true, fun _ H _ => H⟩),
  (18033, ⟨ByteArray × List UInt8 × Int, fun _ _ x => .tup [.str x.1, .sl 1 (.map encB 0 x.2.1) .none, .int .i64 x.2.2], fun _ H _ => H⟩),
  (9045, ⟨ByteArray × ByteArray × Int, fun _ _ x => .tup [.str x.1, .str x.2.1, .int .i64 x.2.2], fun _ H _ => H⟩),
  (9262, ⟨List UInt8, fun _ _ x => .sl 1 (.map encB 0 x) .none, fun _ H _ => H⟩),
  (9325, ⟨ByteArray, fun _ _ x => .str x, fun _ H _ => H⟩),
  (59, ⟨Bool, fun _ _ x => .bool x, fun _ H _ => H⟩),
  (18090, ⟨List UInt8 × Bool, fun _ _ x => .tup [.sl 1 (.map encB 0 x.1) .none, .bool x.2], fun _ H _ => H⟩),
  (50, ⟨Bool, fun _ _ x => .bool x, fun _ H _ => H⟩),
  (9170, ⟨ByteArray × Bool, fun _ _ x => .tup [.str x.1, .bool x.2], fun _ H _ => H⟩),
  (9323, ⟨List UInt8, fun _ _ x => .sl 1 (.map encB 0 x) .none, fun _ H _ => H⟩),
  (9263, ⟨ByteArray, fun _ _ x => .str x, fun _ H _ => H⟩),
  (114, ⟨List Int, fun _ _ x => .sl 1 (.map encI 0 x) .none, fun _ H _ => H⟩),
  (115, ⟨Int, fun _ _ x => .int .i64 x, fun _ H _ => H⟩),
  (9372, ⟨Int, fun _ _ x => .int .u32 x, fun _ H _ => H⟩),
  (107, ⟨Int, fun _ _ x => .int .i64 x, fun _ H _ => H⟩),
  (9324, ⟨Int, fun _ _ x => .int .i64 x, fun _ H _ => H⟩),
  (142, ⟨Int × Int, fun _ _ x => .tup [.int .i64 x.1, .int .i64 x.2], fun _ H _ => H⟩),
  (9393, ⟨Int, fun _ _ x => .int .u32 x, fun _ H _ => H⟩),
  (9373, ⟨Int, fun _ _ x => .int .i64 x, fun _ H _ => H⟩),
  (152, ⟨Int, fun _ _ x => .int .i64 x, fun _ H _ => H⟩)]
noncomputable def rets : FuncId → List Ret := lookupR (retS ++ V.retL)

-- 107
noncomputable def l107 : Nat → List Nat
  | _ => []
noncomputable def u107 : Nat → Bool
  | _ => false
noncomputable def m107 : Nat → Bool
  | _ => false
noncomputable def g107 : Cfg := { N := 27, live := l107, cut := u107, mu := m107, ret := rets }
theorem s107 : ∀ (c : Int) (Post : AV → List AObj → Prop),
  condP (decide (c ≥ (97 : Int)))
      (condP (decide (c ≤ (122 : Int))) (Post (AV.int IntKind.i64 (0 : Int)) [])
        (condP (decide (c ≥ (945 : Int)))
         (condP (decide (c ≤ (969 : Int))) (Post (AV.int IntKind.i64 (1 : Int)) [])
         (condP (decide (c ≥ (48 : Int)))
         (condP (decide (c ≤ (57 : Int))) (Post (AV.int IntKind.i64 (2 : Int)) []) (condP (c == (45 : Int)) (Post (AV.int IntKind.i64 (3 : Int)) []) (Post (AV.int IntKind.i64 (4 : Int)) [])))
         (condP (c == (45 : Int)) (Post (AV.int IntKind.i64 (3 : Int)) []) (Post (AV.int IntKind.i64 (4 : Int)) []))))
         (condP (decide (c ≥ (48 : Int)))
         (condP (decide (c ≤ (57 : Int))) (Post (AV.int IntKind.i64 (2 : Int)) []) (condP (c == (45 : Int)) (Post (AV.int IntKind.i64 (3 : Int)) []) (Post (AV.int IntKind.i64 (4 : Int)) [])))
         (condP (c == (45 : Int)) (Post (AV.int IntKind.i64 (3 : Int)) []) (Post (AV.int IntKind.i64 (4 : Int)) [])))))
      (condP (decide (c ≥ (945 : Int)))
        (condP (decide (c ≤ (969 : Int))) (Post (AV.int IntKind.i64 (1 : Int)) [])
         (condP (decide (c ≥ (48 : Int)))
         (condP (decide (c ≤ (57 : Int))) (Post (AV.int IntKind.i64 (2 : Int)) []) (condP (c == (45 : Int)) (Post (AV.int IntKind.i64 (3 : Int)) []) (Post (AV.int IntKind.i64 (4 : Int)) [])))
         (condP (c == (45 : Int)) (Post (AV.int IntKind.i64 (3 : Int)) []) (Post (AV.int IntKind.i64 (4 : Int)) []))))
        (condP (decide (c ≥ (48 : Int)))
         (condP (decide (c ≤ (57 : Int))) (Post (AV.int IntKind.i64 (2 : Int)) []) (condP (c == (45 : Int)) (Post (AV.int IntKind.i64 (3 : Int)) []) (Post (AV.int IntKind.i64 (4 : Int)) [])))
         (condP (c == (45 : Int)) (Post (AV.int IntKind.i64 (3 : Int)) []) (Post (AV.int IntKind.i64 (4 : Int)) [])))) →
    ASpec Tryd.prog 107 [AV.int IntKind.i32 c] [] Post := fun c Post h => Go.Ab.ASpec.of_vc g107 Go.Proofs.Tryd.func107 (by kernel_rfl) (by kernel_rfl) (by kernel_rfl) (Go.Ab.kc (by kernel_rfl) h)

-- 115
noncomputable def l50 : Nat → List Nat
  | 3 => [3, 8]
  | _ => []
noncomputable def u50 : Nat → Bool
  | _ => false
noncomputable def m50 : Nat → Bool
  | _ => false
noncomputable def g50 : Cfg := { N := 32, live := l50, cut := u50, mu := m50, ret := rets }
noncomputable def c50 : Go.Code := Go.Ab.bodyOf Go.Proofs.Tryd.f50
noncomputable def q50_0 : Nat → (AV → List AObj → Prop) → AQ := fun (n : Nat) (Post : AV → List AObj → Prop) => endQ Tryd.prog (resultsOf Tryd.f50) Post
noncomputable def q50_1 : Nat → (AV → List AObj → Prop) → AQ := fun (n : Nat) (Post : AV → List AObj → Prop) => seqQ (fun (s' : Slots) (H' : List AObj) => awp Tryd.prog g50 n (codeSnd (codeSnd (codeSnd c50))) s' H' (q50_0 n Post)) (q50_0 n Post)
noncomputable def q50_2 : Nat → (AV → List AObj → Prop) → AQ := fun (n : Nat) (Post : AV → List AObj → Prop) => blockQ 0 (q50_1 n Post)
noncomputable def c50_3 : Go.Code := codeFst (codeSnd (codeFst (codeSnd (codeSnd c50))))
theorem s50 : ∀ (s : ByteArray) (Post : AV → List AObj → Prop),
  AWP Tryd.prog 32 0 c50_3 [(3, AV.int IntKind.i64 (0 : Int)), (8, AV.ptr 0 0)] [AObj.siter s 0] (q50_2 0 Post) →
    ASpec Tryd.prog 50 [AV.str s] [] Post := fun s Post h => Go.Ab.ASpec.of_vc g50 Go.Proofs.Tryd.func50 (by kernel_rfl) (by kernel_rfl) (by kernel_rfl) (Go.Ab.kc (by kernel_rfl) h)
theorem v50_3 : ∀ (s : ByteArray) (pos : Nat) (n : Int) (n_1 : Nat) (Post : AV → List AObj → Prop),
  condP (decide (pos < ByteArray.size s))
      (ASpec Tryd.prog 107 [AV.int IntKind.i32 (↑(Prod.fst (Utf8.decode s pos)) : Int)] [AObj.siter s (pos + Prod.snd (Utf8.decode s pos))] fun (r : AV) (H' : List AObj) =>
        ∃ (x : Int),
         r = AV.int IntKind.i64 x ∧
         H' = [AObj.siter s (pos + Prod.snd (Utf8.decode s pos))] ∧
         condP (decide (x > (3 : Int))) (Post (AV.bool false) [AObj.siter s (pos + Prod.snd (Utf8.decode s pos))])
         (condP (n == (0 : Int))
         (condP (decide (x > (1 : Int))) (Post (AV.bool false) [AObj.siter s (pos + Prod.snd (Utf8.decode s pos))])
         (condP (n == (12 : Int)) (Post (AV.bool false) [AObj.siter s (pos + Prod.snd (Utf8.decode s pos))])
         (AWP Tryd.prog 32 n_1 c50_3 [(3, AV.int IntKind.i64 (IntKind.wrap IntKind.i64 (n + (1 : Int)))), (8, AV.ptr 0 0)]
         [AObj.siter s (pos + Prod.snd (Utf8.decode s pos))] (q50_2 n_1 Post))))
         (condP (n == (12 : Int)) (Post (AV.bool false) [AObj.siter s (pos + Prod.snd (Utf8.decode s pos))])
         (AWP Tryd.prog 32 n_1 c50_3 [(3, AV.int IntKind.i64 (IntKind.wrap IntKind.i64 (n + (1 : Int)))), (8, AV.ptr 0 0)]
         [AObj.siter s (pos + Prod.snd (Utf8.decode s pos))] (q50_2 n_1 Post)))))
      (Post (AV.bool (decide (n > (0 : Int)))) [AObj.siter s pos]) →
    AWP Tryd.prog 32 n_1 c50_3 [(3, AV.int IntKind.i64 n), (8, AV.ptr 0 0)] [AObj.siter s pos] (q50_2 n_1 Post) := fun s pos n n Post h => Go.Ab.AWP.loop' g50 (Cfg.live g50) c50_3 (by kernel_rfl) (by kernel_rfl) (Go.Ab.kc (by kernel_rfl) h)

-- 152
end
end S
end

section
/- The plain law of numbers as bytes. -/

namespace V

/-- the digits that go on -/
def lead (v : Nat) : List UInt8 := if _h : v = 0 then [] else lead (v / 128) ++ [UInt8.ofNat (128 + v % 128)]
  termination_by v
  decreasing_by omega

def enc (v : Nat) : List UInt8 := lead (v / 128) ++ [UInt8.ofNat (v % 128)]

/-- a number that is held -/
def held (x : Int) : Nat := (min (max x 0) 1099511627776).toNat

end V
end

section
/- vlq.Put: what it computes. -/

set_option linter.unusedVariables false
set_option linter.unusedSimpArgs false
open Go Go.Ab Go.Proofs
namespace V

def big : Nat := 140737488351232

end V
end

section
/- The reader of bytes: what its methods compute. -/

set_option linter.unusedVariables false
set_option linter.unusedSimpArgs false
open Go Go.Ab Go.Proofs
namespace V

end V
end

section
/- The document's numbers, texts and reader: what they compute. -/

set_option linter.unusedVariables false
set_option linter.unusedSimpArgs false
open Go Go.Ab Go.Proofs
namespace V

abbrev B (l : List UInt8) : ByteArray := ⟨l.toArray⟩

theorem B_size (l : List UInt8) : (B l).size = l.length := by simp [ByteArray.size]
theorem B_toList (l : List UInt8) : (B l).toList = l := by rw [ByteArray.toList_eq]
theorem B_beq (a b : List UInt8) : ((B a).toList == (B b).toList) = (a == b) := by rw [B_toList, B_toList]
/-! ### numbers -/

/-! ### the document's look -/

end V
end

section
/- Readers as objects, in any heap; the chapter's examples. -/

set_option linter.unusedVariables false
set_option linter.unusedSimpArgs false
open Go Go.Ab Go.Proofs
namespace V

end V
end

section
/- VlqOrder: the law's function returns true. -/

set_option linter.unusedVariables false
set_option linter.unusedSimpArgs false
open Go Go.Ab Go.Proofs
namespace V

end V
end

section
/- VlqBack: what was put is read: the law's function returns true. -/

set_option linter.unusedVariables false
set_option linter.unusedSimpArgs false
open Go Go.Ab Go.Proofs
namespace V

end V
end

section
/- The document's reader, and a reader that is none: what their methods compute, in any heap. -/

set_option linter.unusedVariables false
set_option linter.unusedSimpArgs false
open Go Go.Ab Go.Proofs
namespace V

/-! ### a reader that is none -/

/-! ### the reader and the document's -/

end V
end

section
/- Stamps: what the code and the document sum up, close and open. -/

set_option linter.unusedVariables false
set_option linter.unusedSimpArgs false
open Go Go.Ab Go.Proofs V
namespace Go.Ab

theorem Le.tup {l r : List AV} (h : Les l r) : Le (.tup l) (.tup r) := by
  intro M w loc v hv
  cases hv with
  | tup _ vs hs hr =>
    have hl := h.len
    exact .tup _ vs (by omega) fun i hi => h.get i (by omega) hi M w loc _ (hr i (by omega))

theorem Le.agg {l r : List AV} (h : Les l r) : Le (.agg l) (.agg r) := by
  intro M w loc v hv
  cases hv with
  | agg _ vs hs hr =>
    have hl := h.len
    exact .agg _ vs (by omega) fun i hi => h.get i (by omega) hi M w loc _ (hr i (by omega))

end Go.Ab
namespace S

def fnv : Nat → List UInt8 → Nat
  | n, [] => n
  | n, c :: l => fnv ((n ^^^ c.toNat) * 16777619 % 4294967296) l

abbrev sum (l : List UInt8) : Nat := fnv 2166136261 l
/-! ### xor, bit by bit -/

/-! ### sums -/

/-! ### sealing -/

/-! ### opening -/

end S
end

section
/- Labels: runes, kinds, and which names may be. -/

set_option linter.unusedVariables false
set_option linter.unusedSimpArgs false
set_option maxRecDepth 100000
open Go Go.Ab Go.Proofs V
namespace S

def kindM (c : Int) : Int := if 97 ≤ c ∧ c ≤ 122 then 0 else if 945 ≤ c ∧ c ≤ 969 then 1 else if 48 ≤ c ∧ c ≤ 57 then 2 else if c = 45 then 3 else 4

theorem kind_spec (c : Int) (H : List AObj) : ASpec Tryd.prog 107 [.int .i32 c] H (fun r H' => r = .int .i64 (kindM c) ∧ H' = H) := by
  have k : ASpec Tryd.prog 107 [.int .i32 c] [] (fun r H' => r = .int .i64 (kindM c) ∧ H' = []) := by
    refine s107 _ _ ?_
    repeat' (first | refine condD (fun _ => ?_) fun _ => ?_ | refine condE (fun _ => ?_) fun _ => ?_)
    all_goals (refine ⟨?_, rfl⟩; congr 1; unfold kindM; repeat' split)
    all_goals omega
  exact ASpec.pureH H k _ _ rfl rfl

/-! ### the rune at a place -/

/-- a byte behind a place -/
abbrev bt (l : List UInt8) (p k : Nat) : Nat := (l.getD (p + k) 0).toNat

theorem bt_lt (l : List UInt8) (p k : Nat) : bt l p k < 256 := (l.getD (p + k) 0).toNat_lt

theorem get_B (l : List UInt8) (j : Nat) : (B l).get! j = l.getD j 0 := by
  show l.toArray[j]! = _
  rw [getElem!_def]
  simp [List.getD]
  rfl

abbrev wideC (a b0 b1 b2 b3 : Nat) : Nat :=
  if 194 ≤ b0 ∧ b0 ≤ 223 then (if 2 ≤ a ∧ (128 ≤ b1 ∧ b1 ≤ 191) then 2 else 0)
  else if 224 ≤ b0 ∧ b0 ≤ 239 then (if 3 ≤ a ∧ (128 ≤ b1 ∧ b1 ≤ 191) ∧ (128 ≤ b2 ∧ b2 ≤ 191) ∧ ¬ (b0 = 224 ∧ b1 < 160) ∧ ¬ (b0 = 237 ∧ 159 < b1) then 3 else 0)
  else if 240 ≤ b0 ∧ b0 ≤ 244 then (if 4 ≤ a ∧ (128 ≤ b1 ∧ b1 ≤ 191) ∧ (128 ≤ b2 ∧ b2 ≤ 191) ∧ (128 ≤ b3 ∧ b3 ≤ 191) ∧ ¬ (b0 = 240 ∧ b1 < 144) ∧ ¬ (b0 = 244 ∧ 143 < b1) then 4 else 0)
  else 0

def wideM (l : List UInt8) (p : Nat) : Nat := wideC (l.length - p) (bt l p 0) (bt l p 1) (bt l p 2) (bt l p 3)

abbrev runeC (w b0 b1 b2 b3 : Nat) : Nat × Nat :=
  if b0 < 128 then (b0, 1) else if w = 0 then (65533, 1) else if w = 2 then (b0 % 32 * 64 + b1 % 64, 2)
  else if w = 3 then ((b0 % 16 * 64 + b1 % 64) * 64 + b2 % 64, 3) else (((b0 % 8 * 64 + b1 % 64) * 64 + b2 % 64) * 64 + b3 % 64, 4)

def runeM (l : List UInt8) (p : Nat) : Nat × Nat := runeC (wideM l p) (bt l p 0) (bt l p 1) (bt l p 2) (bt l p 3)

theorem decode_core (a b0 b1 b2 b3 : Nat) (h0 : b0 < 256) (h1 : b1 < 256) (h2 : b2 < 256) (h3 : b3 < 256) :
    (if b0 < 128 then (b0, 1)
     else if b0 / 32 = 6 ∧ (1 < a ∧ b1 / 64 = 2) then (if 128 ≤ b0 % 32 * 64 + b1 % 64 then (b0 % 32 * 64 + b1 % 64, 2) else (65533, 1))
     else if b0 / 16 = 14 ∧ (1 < a ∧ b1 / 64 = 2) ∧ (2 < a ∧ b2 / 64 = 2) then
       (if 2048 ≤ b0 % 16 * 4096 + b1 % 64 * 64 + b2 % 64 ∧ (b0 % 16 * 4096 + b1 % 64 * 64 + b2 % 64 < 55296 ∨ (57344 ≤ b0 % 16 * 4096 + b1 % 64 * 64 + b2 % 64 ∧ b0 % 16 * 4096 + b1 % 64 * 64 + b2 % 64 ≤ 1114111))
        then (b0 % 16 * 4096 + b1 % 64 * 64 + b2 % 64, 3) else (65533, 1))
     else if b0 / 8 = 30 ∧ (1 < a ∧ b1 / 64 = 2) ∧ (2 < a ∧ b2 / 64 = 2) ∧ (3 < a ∧ b3 / 64 = 2) then
       (if 65536 ≤ b0 % 8 * 262144 + b1 % 64 * 4096 + b2 % 64 * 64 + b3 % 64 ∧ (b0 % 8 * 262144 + b1 % 64 * 4096 + b2 % 64 * 64 + b3 % 64 < 55296 ∨ (57344 ≤ b0 % 8 * 262144 + b1 % 64 * 4096 + b2 % 64 * 64 + b3 % 64 ∧ b0 % 8 * 262144 + b1 % 64 * 4096 + b2 % 64 * 64 + b3 % 64 ≤ 1114111))
        then (b0 % 8 * 262144 + b1 % 64 * 4096 + b2 % 64 * 64 + b3 % 64, 4) else (65533, 1))
     else ((65533 : Nat), (1 : Nat))) = runeC (wideC a b0 b1 b2 b3) b0 b1 b2 b3 := by
  have e2 : ∀ w : Nat, w = 0 ∨ w = 2 ∨ w = 3 ∨ w = 4 ∨ 4 < w ∨ w = 1 := by omega
  by_cases c0 : b0 < 128
  · rw [if_pos c0]; unfold runeC; rw [if_pos c0]
  rw [if_neg c0]
  unfold runeC
  rw [if_neg c0]
  by_cases c1 : 194 ≤ b0 ∧ b0 ≤ 223
  · unfold wideC
    rw [if_pos c1]
    by_cases d : 1 < a ∧ b1 / 64 = 2
    · rw [if_pos ⟨by omega, d⟩, if_pos (by omega), if_pos (show 2 ≤ a ∧ (128 ≤ b1 ∧ b1 ≤ 191) by omega)]; rfl
    · rw [if_neg (fun h => d h.2), if_neg (fun h => d h.2.1), if_neg (fun h => d h.2.1), if_neg (show ¬ (2 ≤ a ∧ (128 ≤ b1 ∧ b1 ≤ 191)) by omega)]; rfl
  by_cases c2 : 224 ≤ b0 ∧ b0 ≤ 239
  · unfold wideC
    rw [if_neg c1, if_pos c2]
    rw [if_neg (show ¬ (b0 / 32 = 6 ∧ (1 < a ∧ b1 / 64 = 2)) by omega)]
    by_cases d : (1 < a ∧ b1 / 64 = 2) ∧ (2 < a ∧ b2 / 64 = 2)
    · rw [if_pos ⟨by omega, d⟩]
      by_cases f : ¬ (b0 = 224 ∧ b1 < 160) ∧ ¬ (b0 = 237 ∧ 159 < b1)
      · rw [if_pos (show 3 ≤ a ∧ (128 ≤ b1 ∧ b1 ≤ 191) ∧ (128 ≤ b2 ∧ b2 ≤ 191) ∧ ¬ (b0 = 224 ∧ b1 < 160) ∧ ¬ (b0 = 237 ∧ 159 < b1) by omega), if_pos (by omega)]
        simp only [if_neg (show ¬ (3 = 0) by omega), if_neg (show ¬ (3 = 2) by omega), if_true]
        rw [show b0 % 16 * 4096 + b1 % 64 * 64 + b2 % 64 = (b0 % 16 * 64 + b1 % 64) * 64 + b2 % 64 by omega]
      · rw [if_neg (show ¬ (3 ≤ a ∧ (128 ≤ b1 ∧ b1 ≤ 191) ∧ (128 ≤ b2 ∧ b2 ≤ 191) ∧ ¬ (b0 = 224 ∧ b1 < 160) ∧ ¬ (b0 = 237 ∧ 159 < b1)) by omega), if_neg (by omega)]; rfl
    · rw [if_neg (fun h => d h.2), if_neg (show ¬ (b0 / 8 = 30 ∧ (1 < a ∧ b1 / 64 = 2) ∧ (2 < a ∧ b2 / 64 = 2) ∧ (3 < a ∧ b3 / 64 = 2)) by omega),
        if_neg (show ¬ (3 ≤ a ∧ (128 ≤ b1 ∧ b1 ≤ 191) ∧ (128 ≤ b2 ∧ b2 ≤ 191) ∧ ¬ (b0 = 224 ∧ b1 < 160) ∧ ¬ (b0 = 237 ∧ 159 < b1)) by omega)]; rfl
  by_cases c3 : 240 ≤ b0 ∧ b0 ≤ 244
  · unfold wideC
    rw [if_neg c1, if_neg c2, if_pos c3]
    rw [if_neg (show ¬ (b0 / 32 = 6 ∧ (1 < a ∧ b1 / 64 = 2)) by omega), if_neg (show ¬ (b0 / 16 = 14 ∧ (1 < a ∧ b1 / 64 = 2) ∧ (2 < a ∧ b2 / 64 = 2)) by omega)]
    by_cases d : (1 < a ∧ b1 / 64 = 2) ∧ (2 < a ∧ b2 / 64 = 2) ∧ (3 < a ∧ b3 / 64 = 2)
    · rw [if_pos ⟨by omega, d⟩]
      by_cases f : ¬ (b0 = 240 ∧ b1 < 144) ∧ ¬ (b0 = 244 ∧ 143 < b1)
      · rw [if_pos (show 4 ≤ a ∧ (128 ≤ b1 ∧ b1 ≤ 191) ∧ (128 ≤ b2 ∧ b2 ≤ 191) ∧ (128 ≤ b3 ∧ b3 ≤ 191) ∧ ¬ (b0 = 240 ∧ b1 < 144) ∧ ¬ (b0 = 244 ∧ 143 < b1) by omega), if_pos (by omega)]
        simp only [if_neg (show ¬ (4 = 0) by omega), if_neg (show ¬ (4 = 2) by omega), if_neg (show ¬ (4 = 3) by omega)]
        rw [show b0 % 8 * 262144 + b1 % 64 * 4096 + b2 % 64 * 64 + b3 % 64 = ((b0 % 8 * 64 + b1 % 64) * 64 + b2 % 64) * 64 + b3 % 64 by omega]
      · rw [if_neg (show ¬ (4 ≤ a ∧ (128 ≤ b1 ∧ b1 ≤ 191) ∧ (128 ≤ b2 ∧ b2 ≤ 191) ∧ (128 ≤ b3 ∧ b3 ≤ 191) ∧ ¬ (b0 = 240 ∧ b1 < 144) ∧ ¬ (b0 = 244 ∧ 143 < b1)) by omega), if_neg (by omega)]; rfl
    · rw [if_neg (fun h => d h.2), if_neg (show ¬ (4 ≤ a ∧ (128 ≤ b1 ∧ b1 ≤ 191) ∧ (128 ≤ b2 ∧ b2 ≤ 191) ∧ (128 ≤ b3 ∧ b3 ≤ 191) ∧ ¬ (b0 = 240 ∧ b1 < 144) ∧ ¬ (b0 = 244 ∧ 143 < b1)) by omega)]; rfl
  · unfold wideC
    rw [if_neg c1, if_neg c2, if_neg c3]
    by_cases d : b0 / 32 = 6 ∧ (1 < a ∧ b1 / 64 = 2)
    · rw [if_pos d, if_neg (by omega)]; rfl
    rw [if_neg d, if_neg (show ¬ (b0 / 16 = 14 ∧ (1 < a ∧ b1 / 64 = 2) ∧ (2 < a ∧ b2 / 64 = 2)) by omega)]
    by_cases f : b0 / 8 = 30 ∧ (1 < a ∧ b1 / 64 = 2) ∧ (2 < a ∧ b2 / 64 = 2) ∧ (3 < a ∧ b3 / 64 = 2)
    · rw [if_pos f, if_neg (by omega)]; rfl
    · rw [if_neg f]; rfl

theorem validN (n : Nat) : Utf8.valid (n : Int) = (decide (n < 55296) || (decide (57344 ≤ n) && decide (n ≤ 1114111))) := by
  unfold Utf8.valid
  rw [Bool.eq_iff_iff]
  simp only [Bool.and_eq_true, Bool.or_eq_true, decide_eq_true_eq]
  omega

set_option maxRecDepth 100000 in
theorem decode_eq (l : List UInt8) (p : Nat) (hp : p < l.length) : Utf8.decode (B l) p = runeM l p := by
  unfold runeM wideM
  rw [← decode_core (l.length - p) _ _ _ _ (bt_lt l p 0) (bt_lt l p 1) (bt_lt l p 2) (bt_lt l p 3)]
  have hb : ∀ k, ((B l).get! (p + k)).toNat = bt l p k := fun k => by rw [get_B]
  have hc : ∀ k, decide (p + k < (B l).size) = decide (k < l.length - p) := fun k => by rw [B_size]; apply decide_eq_decide.2; omega
  unfold Utf8.decode
  simp only [hb, hc, validN]
  generalize bt l p 0 = b0
  generalize bt l p 1 = b1
  generalize bt l p 2 = b2
  generalize bt l p 3 = b3
  generalize l.length - p = a
  simp only [Utf8.runeError, Bool.and_eq_true, Bool.or_eq_true, decide_eq_true_eq, beq_iff_eq, ge_iff_le, and_assoc]

theorem runeM_width (l : List UInt8) (p : Nat) : 1 ≤ (runeM l p).2 ∧ (runeM l p).2 ≤ 4 := by
  unfold runeM runeC
  repeat' split
  all_goals simp

/-! ### the document's walk over a rune's bytes -/

section
variable {l : List UInt8} {p : Nat} {Post : AV → List AObj → Prop}

end
end S
end

section
/- Which names may be: the code's walk and the document's. -/

set_option linter.unusedVariables false
set_option linter.unusedSimpArgs false
set_option maxRecDepth 100000
open Go Go.Ab Go.Proofs V
namespace S
theorem condBn {b : Bool} {A C : Prop} (h1 : b = false → A) (h2 : b = true → C) : condP (!b) A C := by cases b <;> simp_all [condP]
section
variable {l : List UInt8} {p : Nat}

/-! ### all runes -/

def runesF : Nat → List UInt8 → Nat → List Int
  | 0, _, _ => []
  | f + 1, l, p => if p < l.length then ((runeM l p).1 : Int) :: runesF f l (p + (runeM l p).2) else []
def runesM (l : List UInt8) : List Int := runesF l.length l 0

/-! ### names -/

def fitF (n : Nat) : List Int → Bool
  | [] => decide (0 < n)
  | c :: r => if 3 < kindM c ∨ (n = 0 ∧ 1 < kindM c) ∨ n = 12 then false else fitF (n + 1) r

def fitM (l : List UInt8) : Bool := fitF 0 (runesM l)

theorem fit3 {Post : AV → List AObj → Prop} (hl : l.length ≤ 10 * big) : ∀ (f p n : Nat), l.length - p ≤ f → n ≤ 12 → (∀ q, Post (.bool (fitF n (runesF f l p))) [.siter (B l) q]) →
    AWP Tryd.prog 32 0 c50_3 [(3, .int .i64 n), (8, .ptr 0 0)] [.siter (B l) p] (q50_2 0 Post) := by
  intro f
  induction f with
  | zero =>
    intro p n hf hn h
    refine v50_3 _ _ _ _ _ (condD (fun hc => by rw [B_size] at hc; omega) fun _ => ?_)
    have := h p
    simp only [runesF, fitF] at this
    rw [show decide ((n : Int) > 0) = decide (0 < n) from decide_eq_decide.2 (by omega)]
    exact this
  | succ f ih =>
    intro p n hf hn h
    refine v50_3 _ _ _ _ _ (condD (fun hc => ?_) fun hc => ?_)
    · rw [B_size] at hc
      rw [decode_eq l p hc]
      have hw := runeM_width l p
      simp only [runesF, if_pos hc, fitF] at h
      refine ASpec.call (kind_spec _ _) (Les.refl _) ⟨_, rfl, rfl, ?_⟩
      generalize kindM ((runeM l p).1 : Nat) = k at h ⊢
      have no : (3 < k ∨ (n = 0 ∧ 1 < k) ∨ n = 12) → Post (.bool false) [.siter (B l) (p + (runeM l p).2)] := by
        intro hh
        have := h (p + (runeM l p).2)
        rw [if_pos hh] at this
        exact this
      have yes : ¬ (3 < k ∨ (n = 0 ∧ 1 < k) ∨ n = 12) → AWP Tryd.prog 32 0 c50_3 [(3, .int .i64 (IntKind.wrap .i64 ((n : Int) + 1))), (8, .ptr 0 0)] [.siter (B l) (p + (runeM l p).2)] (q50_2 0 Post) := by
        intro hh
        rw [show IntKind.wrap .i64 ((n : Int) + 1) = ((n + 1 : Nat) : Int) by rw [wrap64 (by omega) (by omega)]; simp]
        refine ih (p + (runeM l p).2) (n + 1) (by omega) (by omega) (fun q => ?_)
        have := h q
        rw [if_neg hh] at this
        exact this
      refine condD (fun h1 => no (.inl h1)) fun h1 => condE (fun h2 => condD (fun h3 => no (.inr (.inl ⟨by omega, h3⟩))) fun h3 => condE (fun h4 => no (.inr (.inr (by omega)))) fun h4 => yes (by omega)) fun h2 => condE (fun h4 => no (.inr (.inr (by omega)))) fun h4 => yes (by omega)
    · rw [B_size] at hc
      have := h p
      simp only [runesF, if_neg hc, fitF] at this
      rw [show decide ((n : Int) > 0) = decide (0 < n) from decide_eq_decide.2 (by omega)]
      exact this

theorem fit_spec (hl : l.length ≤ 10 * big) (H : List AObj) : ASpec Tryd.prog 50 [.str (B l)] H (fun r H' => r = .bool (fitM l) ∧ H' = H) := by
  have k : ASpec Tryd.prog 50 [.str (B l)] [] (fun r H' => r = .bool (fitM l) ∧ H' = []) := by
    refine ASpec.sel (s50 _ _ (fit3 hl l.length 0 0 (by omega) (by omega) (fun q => ⟨[], [], .bool (fitM l), Sel.none, Le.refl _, rfl, rfl⟩)))
  exact ASpec.pureH H k _ _ rfl rfl

end
end S
end

section
/- Which spans, needs and manifests may be: the code's walks and the document's. -/

set_option linter.unusedVariables false
set_option linter.unusedSimpArgs false
set_option maxRecDepth 100000
open Go Go.Ab Go.Proofs V S T
namespace C

/-- the answer c, whatever lies in the heap -/
abbrev PB (c : Bool) : AV → List AObj → Prop := fun r H' => ∃ l H2 r2, Sel 0 l H' H2 ∧ Le r (AV.ren (selR l H'.length) r2) ∧ (r2 = .bool c ∧ H2 = [])
theorem pb {b c : Bool} {H' : List AObj} (h : b = c) : PB c (.bool b) H' := ⟨[], [], .bool c, Sel.none, h ▸ Le.refl _, rfl, rfl⟩

theorem dropD {α : Type} (l : List α) (d : α) (i : Nat) (h : i < l.length) : l.drop i = l.getD i d :: l.drop (i + 1) := by
  rw [List.drop_eq_getElem_cons h]
  simp [List.getD, List.getElem?_eq_getElem h]

theorem memD {α : Type} (l : List α) (d : α) (i : Nat) (h : i < l.length) : l.getD i d ∈ l := by
  simp [List.getD, List.getElem?_eq_getElem h]

theorem succ64 {i : Nat} (h : i ≤ 10000000) : IntKind.wrap .i64 ((i : Int) + 1) = ((i + 1 : Nat) : Int) := by rw [wrap64 (by omega) (by omega)]; simp
abbrev lim : Nat := 1000000

/-! ### spans -/

def chkS (e : Int) : List Span → Bool
  | [] => true
  | x :: r => if x.1 ≤ e ∨ x.2 ≤ x.1 ∨ 1000000000 < x.2 then false else chkS x.2 r
def spanOk (l : List Span) : Bool := chkS (-1) l

theorem chk3 {l : List Span} {c : Bool} (hl : l.length ≤ lim) : ∀ (m i : Nat) (e : Int), m + i = l.length → chkS e (l.drop i) = c →
    AWP Tryd.prog 31 0 c51_3 [(3, .int .i64 e), (6, .sl 2 (.map encS (0, 0) l) .none), (7, .int .i64 l.length), (8, .int .i64 i)] [] (q51_2 0 (PB c)) := by
  intro m
  induction m with
  | zero =>
    intro i e hm h
    refine v51_3 _ _ _ _ _ _ (condD (fun hc => by omega) fun _ => pb ?_)
    rw [List.drop_eq_nil_of_le (by omega)] at h
    exact h
  | succ m ih =>
    intro i e hm h
    rw [dropD l (0, 0) i (by omega)] at h
    simp only [chkS] at h
    refine v51_3 _ _ _ _ _ _ (condD (fun hc => needJ ⟨by omega, by omega⟩ ?_) fun hc => by omega)
    rw [Int.toNat_natCast]
    generalize l.getD i (0, 0) = x at h ⊢
    refine condD (fun h1 => pb ?_) fun h1 => condD (fun h2 => pb ?_) fun h2 => condD (fun h3 => pb ?_) fun h3 => ?_
    · rw [if_pos (.inl h1)] at h; exact h
    · rw [if_pos (.inr (.inl h2))] at h; exact h
    · rw [if_pos (.inr (.inr h3))] at h; exact h
    · rw [if_neg (by omega)] at h
      rw [succ64 (by unfold lim at hl; omega)]
      exact AWP.shape [] [(3, .int .i64 x.2), (6, .sl 2 (.map encS (0, 0) l) .none), (7, .int .i64 l.length), (8, .int .i64 (i + 1 : Nat))] [] Sel.none ⟨rfl, Le.refl _, rfl, Le.refl _, rfl, Le.refl _, rfl, Le.refl _, trivial⟩ (ih (i + 1) x.2 (by omega) h)

theorem spanCheck_spec (l : List Span) (hl : l.length ≤ lim) (H : List AObj) : ASpec Tryd.prog 51 [.sl 2 (.map encS (0, 0) l) .none] H (fun r H' => r = .bool (spanOk l) ∧ H' = H) :=
  ASpec.pureH H (ASpec.sel (s51 _ _ (chk3 hl l.length 0 (-1) (by omega) rfl))) _ _ rfl rfl

/-! ### needs -/

/-! ### manifests -/

/-! ### are they large? -/

end C
end

section
/- Sets of places as spans: plain laws. -/

set_option linter.unusedVariables false
set_option linter.unusedSimpArgs false
open Go Go.Ab Go.Proofs V S T C
namespace Sp

def inS (s : Span) (p : Int) : Bool := decide (s.1 ≤ p ∧ p < s.2)
def hasS (l : List Span) (p : Int) : Bool := l.any (fun s => inS s p)

theorem hasS_nil (p : Int) : hasS [] p = false := rfl
theorem hasS_cons (x : Span) (l : List Span) (p : Int) : hasS (x :: l) p = (inS x p || hasS l p) := rfl
theorem hasS_append (a b : List Span) (p : Int) : hasS (a ++ b) p = (hasS a p || hasS b p) := by simp [hasS]
theorem inS_iff {s : Span} {p : Int} : inS s p = true ↔ s.1 ≤ p ∧ p < s.2 := by simp [inS]
theorem inS_false {s : Span} {p : Int} : inS s p = false ↔ ¬ (s.1 ≤ p ∧ p < s.2) := by simp [inS]

theorem chkS_cons {e : Int} {x : Span} {r : List Span} (h : chkS e (x :: r) = true) : e < x.1 ∧ x.1 < x.2 ∧ x.2 ≤ 1000000000 ∧ chkS x.2 r = true := by
  simp only [chkS] at h
  split at h
  · cases h
  · exact ⟨by omega, by omega, by omega, h⟩
theorem chkS_mk {e : Int} {x : Span} {r : List Span} (h1 : e < x.1) (h2 : x.1 < x.2) (h3 : x.2 ≤ 1000000000) (h4 : chkS x.2 r = true) : chkS e (x :: r) = true := by
  simp only [chkS]
  rw [if_neg (by omega)]; exact h4
theorem chkS_low : ∀ {e : Int} {l : List Span} {p : Int}, chkS e l = true → p ≤ e → hasS l p = false
  | _, [], _, _, _ => rfl
  | e, x :: r, p, h, hp => by
    obtain ⟨h1, h2, h3, h4⟩ := chkS_cons h
    rw [hasS_cons, chkS_low h4 (by omega), inS_false.2 (by omega)]; rfl
theorem chkS_top : ∀ {e : Int} {l : List Span} {p : Int}, chkS e l = true → 1000000000 ≤ p → hasS l p = false
  | _, [], _, _, _ => rfl
  | e, x :: r, p, h, hp => by
    obtain ⟨h1, h2, h3, h4⟩ := chkS_cons h
    rw [hasS_cons, chkS_top h4 hp, inS_false.2 (by omega)]; rfl
/-- sets that have the same places are one -/
theorem ext : ∀ {a b : List Span} {e e' : Int}, chkS e a = true → chkS e' b = true → (∀ p, hasS a p = hasS b p) → a = b
  | [], [], _, _, _, _, _ => rfl
  | [], y :: t, _, _, _, hb, h => by
    obtain ⟨h1, h2, h3, h4⟩ := chkS_cons hb
    have := h y.1
    rw [hasS_cons, inS_iff.2 (by omega)] at this
    cases this
  | x :: r, [], _, _, ha, _, h => by
    obtain ⟨h1, h2, h3, h4⟩ := chkS_cons ha
    have := h x.1
    rw [hasS_cons, inS_iff.2 (by omega)] at this
    cases this
  | x :: r, y :: t, e, e', ha, hb, h => by
    obtain ⟨a1, a2, a3, a4⟩ := chkS_cons ha
    obtain ⟨b1, b2, b3, b4⟩ := chkS_cons hb
    have key : ∀ p, p ≤ x.2 → p ≤ y.2 → inS x p = inS y p := by
      intro p h1 h2
      have := h p
      rw [hasS_cons, hasS_cons, chkS_low a4 h1, chkS_low b4 h2, Bool.or_false, Bool.or_false] at this
      exact this
    have f1 : x.1 = y.1 := by
      by_cases h1 : x.1 < y.1
      · have := key x.1 (by omega) (by omega)
        rw [inS_iff.2 (by omega), eq_comm, inS_iff] at this; omega
      · by_cases h2 : y.1 < x.1
        · have := key y.1 (by omega) (by omega)
          rw [eq_comm, inS_iff.2 (by omega), eq_comm, inS_iff] at this; omega
        · omega
    have f2 : x.2 = y.2 := by
      by_cases h1 : x.2 < y.2
      · have := key x.2 (by omega) (by omega)
        rw [eq_comm, inS_iff.2 (by omega), eq_comm, inS_iff] at this; omega
      · by_cases h2 : y.2 < x.2
        · have := key y.2 (by omega) (by omega)
          rw [inS_iff.2 (by omega), eq_comm, inS_iff] at this; omega
        · omega
    have hxy : x = y := Prod.ext f1 f2
    subst hxy
    rw [ext a4 b4 (fun p => ?_)]
    by_cases hp : p ≤ x.2
    · rw [chkS_low a4 hp, chkS_low b4 hp]
    · have := h p
      rw [hasS_cons, hasS_cons, inS_false.2 (by omega), Bool.false_or, Bool.false_or] at this
      exact this

/-! ### one more span behind -/

/-- the last span's end; 'e' of none -/
def lastS (e : Int) : List Span → Int
  | [] => e
  | x :: r => lastS x.2 r
theorem lastS_append (e : Int) (x : Span) : ∀ (l : List Span) (e : Int), lastS e (l ++ [x]) = x.2
  | [], e => rfl
  | y :: r, e => lastS_append e x r y.2
theorem chkS_append : ∀ {l : List Span} {e : Int} {x : Span}, chkS e l = true → lastS e l < x.1 → x.1 < x.2 → x.2 ≤ 1000000000 → chkS e (l ++ [x]) = true
  | [], e, x, _, h1, h2, h3 => chkS_mk h1 h2 h3 rfl
  | y :: r, e, x, h, h1, h2, h3 => by
    obtain ⟨a1, a2, a3, a4⟩ := chkS_cons h
    exact chkS_mk a1 a2 a3 (chkS_append a4 h1 h2 h3)
theorem chkS_front : ∀ {l : List Span} {e : Int} {x : Span}, chkS e (l ++ [x]) = true → chkS e l = true ∧ lastS e l < x.1 ∧ x.1 < x.2 ∧ x.2 ≤ 1000000000
  | [], e, x, h => by
    obtain ⟨a1, a2, a3, a4⟩ := chkS_cons h
    exact ⟨rfl, a1, a2, a3⟩
  | y :: r, e, x, h => by
    obtain ⟨a1, a2, a3, a4⟩ := chkS_cons h
    obtain ⟨b1, b2, b3, b4⟩ := chkS_front a4
    exact ⟨chkS_mk a1 a2 a3 b1, b2, b3, b4⟩

/-- what add does -/
def addS (l : List Span) (s : Span) : List Span :=
  if 0 < l.length ∧ s.1 ≤ (l.getD (l.length - 1) (0, 0)).2 then l.take (l.length - 1) ++ [((l.getD (l.length - 1) (0, 0)).1, max (l.getD (l.length - 1) (0, 0)).2 s.2)] else l ++ [s]

theorem split_last (l : List Span) (h : 0 < l.length) : l = l.take (l.length - 1) ++ [l.getD (l.length - 1) (0, 0)] := by
  have h1 := List.take_append_drop (l.length - 1) l
  rw [dropD l (0, 0) (l.length - 1) (by omega), List.drop_eq_nil_of_le (by omega)] at h1
  exact h1.symm

/-- a set that ends no later than a place, and one more span from there on -/
theorem addS_ok {l : List Span} {at_ to : Int} (h : chkS (-1) l = true) (he : lastS (-1) l ≤ at_) (h0 : 0 ≤ at_) (h1 : at_ < to) (h2 : to ≤ 1000000000) :
    chkS (-1) (addS l (at_, to)) = true ∧ lastS (-1) (addS l (at_, to)) = to ∧ ∀ p, hasS (addS l (at_, to)) p = (hasS l p || inS (at_, to) p) := by
  unfold addS
  split
  · rename_i hc
    have hl := split_last l hc.1
    generalize l.take (l.length - 1) = r at hl ⊢
    generalize l.getD (l.length - 1) (0, 0) = x at hl hc ⊢
    subst hl
    rw [lastS_append (-1)] at he
    obtain ⟨a1, a2, a3, a4⟩ := chkS_front h
    have hx : max x.2 to = to := by omega
    have hxa : x.2 = at_ := by have := hc.2; simp only at this; omega
    simp only [hx]
    refine ⟨chkS_append a1 a2 (by simp only; omega) h2, lastS_append (-1) _ _ _, fun p => ?_⟩
    rw [hasS_append, hasS_append, hasS_cons, hasS_cons, hasS_nil, Bool.or_false, Bool.or_false, Bool.or_assoc]
    congr 1
    rw [Bool.eq_iff_iff, Bool.or_eq_true, inS_iff, inS_iff, inS_iff]
    simp only; omega
  · rename_i hc
    refine ⟨chkS_append h ?_ h1 h2, lastS_append (-1) _ _ _, fun p => ?_⟩
    · cases hz : l with
      | nil => simp only [lastS]; omega
      | cons y t =>
        have hpos : 0 < l.length := by rw [hz]; simp
        have hl := split_last l hpos
        have : lastS (-1) l = (l.getD (l.length - 1) (0, 0)).2 := by
          conv => lhs; rw [hl]
          exact lastS_append (-1) _ _ _
        rw [← hz, this]
        simp only [hpos, true_and, Int.not_le] at hc
        exact hc
    · rw [hasS_append, hasS_cons, hasS_nil, Bool.or_false]

/-! ### where a set changes -/

/-- how many spans end at a place, or ahead of it -/
def aftS (p : Int) : List Span → Nat
  | [] => 0
  | x :: r => if x.2 ≤ p then aftS p r + 1 else 0
theorem aftS_le (p : Int) : ∀ l : List Span, aftS p l ≤ l.length
  | [] => Nat.le_refl _
  | x :: r => by
    simp only [aftS]
    split
    · have := aftS_le p r; simp; omega
    · simp
theorem aftS_lt (p : Int) : ∀ (l : List Span) (i : Nat), i < aftS p l → (l.getD i (0, 0)).2 ≤ p
  | [], i, h => by simp [aftS] at h
  | x :: r, i, h => by
    simp only [aftS] at h
    split at h
    · rename_i hx
      match i, h with
      | 0, _ => exact hx
      | i + 1, h => exact aftS_lt p r i (by omega)
    · omega
theorem chkS_rise : ∀ {l : List Span} {e : Int}, chkS e l = true → ∀ i, i < l.length → e < (l.getD i (0, 0)).1 ∧ (l.getD i (0, 0)).1 < (l.getD i (0, 0)).2 ∧ (l.getD i (0, 0)).2 ≤ 1000000000 ∧ ∀ j, j < i → (l.getD j (0, 0)).2 < (l.getD i (0, 0)).1
  | [], e, _, i, hi => by simp at hi
  | x :: r, e, h, i, hi => by
    obtain ⟨a1, a2, a3, a4⟩ := chkS_cons h
    match i, hi with
    | 0, _ => exact ⟨a1, a2, a3, fun j hj => by omega⟩
    | i + 1, hi =>
      obtain ⟨b1, b2, b3, b4⟩ := chkS_rise a4 i (by simpa using hi)
      simp only [List.getD_cons_succ]
      refine ⟨by omega, b2, b3, fun j hj => ?_⟩
      match j, hj with
      | 0, _ => exact b1
      | j + 1, hj => exact b4 j (by omega)
theorem aftS_at (p : Int) : ∀ (l : List Span), aftS p l < l.length → p < (l.getD (aftS p l) (0, 0)).2
  | [], h => by simp at h
  | x :: r, h => by
    simp only [aftS] at h ⊢
    split
    · rename_i hx
      rw [if_pos hx] at h
      exact aftS_at p r (by simpa using h)
    · rename_i hx
      simp only [List.getD_cons_zero]; omega
theorem aftS_ge {l : List Span} {e p : Int} (hs : chkS e l = true) {i : Nat} (h : aftS p l ≤ i) (hi : i < l.length) : p < (l.getD i (0, 0)).2 := by
  have h0 := aftS_at p l (by omega)
  rcases Nat.eq_or_lt_of_le h with e1 | e1
  · rw [← e1]; exact h0
  · obtain ⟨_, h2, _, h4⟩ := chkS_rise hs i hi
    have := h4 _ e1
    omega

theorem hasS_aft : ∀ {l : List Span} {e : Int} {p : Int}, chkS e l = true → (hasS l p = true ↔ aftS p l < l.length ∧ (l.getD (aftS p l) (0, 0)).1 ≤ p)
  | [], e, p, _ => by simp [hasS]
  | x :: r, e, p, h => by
    obtain ⟨a1, a2, a3, a4⟩ := chkS_cons h
    rw [hasS_cons, Bool.or_eq_true]
    by_cases hx : x.2 ≤ p
    · have e1 : aftS p (x :: r) = aftS p r + 1 := by simp only [aftS, if_pos hx]
      rw [e1, hasS_aft a4, inS_iff]
      simp only [List.length_cons, List.getD_cons_succ, Nat.add_lt_add_iff_right]
      constructor
      · rintro (h | h)
        · omega
        · exact h
      · exact .inr
    · have e1 : aftS p (x :: r) = 0 := by simp only [aftS, if_neg hx]
      rw [e1, inS_iff]
      simp only [List.length_cons, List.getD_cons_zero]
      constructor
      · rintro (h | h)
        · exact ⟨by omega, h.1⟩
        · by_cases h1 : x.1 ≤ p
          · exact ⟨by omega, h1⟩
          · rw [chkS_low a4 (by omega)] at h; cases h
      · rintro ⟨_, h1⟩; exact .inl ⟨h1, by omega⟩

/-- where the set changes next -/
def nextS (l : List Span) (p : Int) : Int :=
  if aftS p l = l.length then 1000000000 else if p < (l.getD (aftS p l) (0, 0)).1 then (l.getD (aftS p l) (0, 0)).1 else (l.getD (aftS p l) (0, 0)).2

theorem nextS_gt {l : List Span} {e p : Int} (hs : chkS e l = true) (hp : p < 1000000000) : p < nextS l p ∧ nextS l p ≤ 1000000000 := by
  unfold nextS
  split
  · exact ⟨hp, Int.le_refl _⟩
  · rename_i h
    have := aftS_le p l
    obtain ⟨h1, h2, h3, _⟩ := chkS_rise hs (aftS p l) (by omega)
    have h0 := aftS_at p l (by omega)
    split
    · omega
    · omega

theorem nextS_same : ∀ {l : List Span} {e p q : Int}, chkS e l = true → p ≤ q → q < nextS l p → hasS l q = hasS l p
  | [], e, p, q, _, _, _ => rfl
  | x :: r, e, p, q, h, h1, h2 => by
    obtain ⟨a1, a2, a3, a4⟩ := chkS_cons h
    rw [hasS_cons, hasS_cons]
    by_cases hx : x.2 ≤ p
    · have e2 : nextS (x :: r) p = nextS r p := by
        simp only [nextS, aftS, if_pos hx, List.length_cons, List.getD_cons_succ, Nat.add_right_cancel_iff]
      rw [e2] at h2
      rw [nextS_same a4 h1 h2, inS_false.2 (by omega), inS_false.2 (by omega)]
    · have e2 : nextS (x :: r) p = if p < x.1 then x.1 else x.2 := by
        simp only [nextS, aftS, if_neg hx, List.length_cons, List.getD_cons_zero]
        rw [if_neg (by omega)]
      rw [e2] at h2
      rw [chkS_low a4 (show p ≤ x.2 by omega)]
      split at h2
      · rw [chkS_low a4 (show q ≤ x.2 by omega), inS_false.2 (by omega), inS_false.2 (by omega)]
      · rw [chkS_low a4 (show q ≤ x.2 by omega), inS_iff.2 (by omega), inS_iff.2 (by omega)]

/-! ### the set of what a function keeps -/

/-- l has just what f keeps, below a place -/
def Kept (f : Int → Bool) (at_ : Int) (l : List Span) : Prop := chkS (-1) l = true ∧ lastS (-1) l ≤ at_ ∧ ∀ p, hasS l p = (decide (0 ≤ p ∧ p < at_) && f p)

theorem kept_nil (f : Int → Bool) : Kept f 0 [] := ⟨rfl, by simp [lastS], fun p => by
  rw [hasS_nil, decide_eq_false (by omega)]; rfl⟩

theorem kept_put {f : Int → Bool} {at_ to : Int} {l : List Span} (h : Kept f at_ l) (h0 : 0 ≤ at_) (h1 : at_ < to) (h2 : to ≤ 1000000000) (hf : ∀ q, at_ ≤ q → q < to → f q = true) : Kept f to (addS l (at_, to)) := by
  obtain ⟨a, b, c⟩ := h
  obtain ⟨x, y, z⟩ := addS_ok a b h0 h1 h2
  refine ⟨x, by omega, fun p => ?_⟩
  rw [z, c]
  by_cases hp : at_ ≤ p ∧ p < to
  · rw [inS_iff.2 hp, Bool.or_true, hf p hp.1 hp.2, decide_eq_true (by omega)]; rfl
  · rw [inS_false.2 hp, Bool.or_false]
    congr 1
    rw [Bool.eq_iff_iff, decide_eq_true_iff, decide_eq_true_iff]; omega
theorem kept_skip {f : Int → Bool} {at_ to : Int} {l : List Span} (h : Kept f at_ l) (h1 : at_ ≤ to) (hf : ∀ q, at_ ≤ q → q < to → f q = false) : Kept f to l := by
  obtain ⟨a, b, c⟩ := h
  refine ⟨a, by omega, fun p => ?_⟩
  rw [c]
  by_cases hp : at_ ≤ p ∧ p < to
  · rw [hf p hp.1 hp.2]; simp
  · congr 1
    rw [Bool.eq_iff_iff, decide_eq_true_iff, decide_eq_true_iff]; omega
theorem kept_one {f : Int → Bool} {l l' : List Span} (h : Kept f 1000000000 l) (h' : Kept f 1000000000 l') : l = l' := ext h.1 h'.1 (fun p => by rw [h.2.2, h'.2.2])
end Sp
end

section
/- Printed: what the code of functions  asks for, by the framework's own reading of it; each line is checked against the code. -/

set_option linter.unusedVariables false
set_option maxRecDepth 100000
set_option maxHeartbeats 4000000
open Go Go.Ab Go.Proofs
namespace W
noncomputable section

end
end W
end

section
/- Manifests as bytes: what the code puts, and the document. -/

set_option linter.unusedVariables false
set_option linter.unusedSimpArgs false
set_option maxRecDepth 100000
open Go Go.Ab Go.Proofs V S T C
namespace W

def text (s : List UInt8) : List UInt8 := enc (held s.length) ++ s
section
variable {Post : AV → List AObj → Prop}

noncomputable abbrev slS (l : List Span) : AV := .sl 2 (.map encS (0, 0) l) .none

/-! ### the document's -/

end
end W
end

section
/- Manifests out of bytes: what the code reads. -/

set_option linter.unusedVariables false
set_option linter.unusedSimpArgs false
set_option maxRecDepth 100000
open Go Go.Ab Go.Proofs V S T C
namespace W

/-! ### the model -/

/-! ### the walk -/

section
variable {bs : List UInt8} {p : Nat} {e : Int}

theorem leNone {α : Type} {en : α → List AV} {d : α} (hr : ∀ ρ x, renL ρ (en x) = en x) {acc : List α} {sz : Nat} {tip : Tip} {ρ : Nat → Nat} :
    Le (.sl sz (.map en d acc) tip) (AV.ren ρ (.sl sz (.map en d acc) .none)) :=
  Le.sl (s' := Seq.ren ρ (.map en d acc)) (by simp [Ab.Seq.toList, Seq.ren, hr]) (.inl rfl) (.inr rfl)

theorem renS (ρ : Nat → Nat) (x : Span) : renL ρ (encS x) = encS x := rfl
end

end W
end

section
/- WirePuts: the bytes of any manifest, and the manifest of any bytes, or what is wrong first, are the document's: the law's function returns true. -/

set_option linter.unusedVariables false
set_option linter.unusedSimpArgs false
set_option maxRecDepth 100000
open Go Go.Ab Go.Proofs V S T C
namespace W

/-! ### the document's model -/

/-! ### it is the code's -/

/-! ### the document's walk -/

section
variable {Post : AV → List AObj → Prop}

/-! ### are they alike? -/

theorem cons_dec {α : Type} [DecidableEq α] (x y : α) (a b : List α) : decide (x :: a = y :: b) = (decide (x = y) && decide (a = b)) := by
  rw [Bool.eq_iff_iff]; simp

/-! ### the law -/

end
end W
end

section
/- Sets of places: what the code and the document's code compute. -/

set_option linter.unusedVariables false
set_option linter.unusedSimpArgs false
set_option maxRecDepth 100000
open Go Go.Ab Go.Proofs V S T C
open W (slS leNone cons_dec renS)
open Sp
namespace Sg

abbrev PA (r0 : AV) : AV → List AObj → Prop := fun r H' => ∃ l H2 r2, Sel 0 l H' H2 ∧ Le r (AV.ren (selR l H'.length) r2) ∧ (r2 = r0 ∧ H2 = [])
theorem pa {r r0 : AV} {H' : List AObj} (h : Le r (AV.ren (selR [] H'.length) r0)) : PA r0 r H' := ⟨[], [], r0, Sel.none, h, rfl, rfl⟩
theorem condQ {a b : Bool} {A B : Prop} (h1 : a = b → A) (h2 : a ≠ b → B) : condP (a == b) A B := by
  by_cases h : a = b
  · rw [beq_iff_eq.2 h]; exact h1 h
  · rw [beq_eq_false_iff_ne.2 h]; exact h2 h

abbrev ok (l : List Span) : Prop := chkS (-1) l = true

theorem chkS_len : ∀ {l : List Span} {e : Int}, chkS e l = true → (l.length : Int) ≤ lastS e l - e
  | [], e, _ => by simp [lastS]
  | x :: r, e, h => by
    obtain ⟨h1, h2, h3, h4⟩ := chkS_cons h
    have := chkS_len h4
    simp only [lastS, List.length_cons]; omega
theorem lastS_top : ∀ {l : List Span} {e : Int}, chkS e l = true → e ≤ 1000000000 → lastS e l ≤ 1000000000
  | [], e, _, h => h
  | x :: r, e, h, _ => by
    obtain ⟨h1, h2, h3, h4⟩ := chkS_cons h
    simp only [lastS]
    exact lastS_top h4 h3
theorem ok_len {l : List Span} (h : ok l) : l.length ≤ 1000000001 := by
  have h1 := chkS_len h
  have h2 := lastS_top h (by omega)
  omega

theorem suc64 {i : Nat} (h : i ≤ 100000000000) : IntKind.wrap .i64 ((i : Int) + 1) = ((i + 1 : Nat) : Int) := by rw [wrap64 (by omega) (by omega)]; simp
theorem pre64 {i : Nat} (h : i ≤ 100000000000) (h1 : 0 < i) : IntKind.wrap .i64 ((i : Int) - 1) = ((i - 1 : Nat) : Int) := by rw [wrap64 (by omega) (by omega)]; omega
theorem mid64 {i j : Nat} (h : i + j ≤ 100000000000) : IntKind.wrap .i64 (Int.fdiv (IntKind.wrap .u64 (IntKind.wrap .i64 ((i : Int) + j))) 2) = (((i + j) / 2 : Nat) : Int) := by
  rw [wrap64 (x := (i : Int) + j) (by omega) (by omega)]
  have e : IntKind.wrap .u64 ((i : Int) + j) = ((i + j : Nat) : Int) := by
    simp only [IntKind.wrap, IntKind.bits, IntKind.signed]
    have e : (2 : Int) ^ 64 = 18446744073709551616 := by decide
    simp only [e, Bool.false_and]
    rw [if_neg (by simp)]
    omega
  rw [e, show Int.fdiv ((i + j : Nat) : Int) 2 = (((i + j) / 2 : Nat) : Int) by rw [Int.fdiv_eq_ediv_of_nonneg _ (by omega)]; omega]
  rw [wrap64 (by omega) (by omega)]

/-! ### where a place stands -/

theorem aftf_spec (x : Span) (p : Int) (H : List AObj) : ASpec Tryd.prog 141 [.agg (encS x), .int .i64 p] H (fun r H' => r = .int .i64 (if x.2 ≤ p then -1 else 1) ∧ H' = H) := by
  have k : ASpec Tryd.prog 141 [.agg (encS x), .int .i64 p] [] (fun r H' => r = .int .i64 (if x.2 ≤ p then -1 else 1) ∧ H' = []) :=
    ASpec.sel (s141 _ _ _ (condD (fun h => pa (by rw [if_pos h]; exact Le.refl _)) fun h => pa (by rw [if_neg h]; exact Le.refl _)))
  exact ASpec.pureH H k _ _ rfl rfl

theorem bsf3 {l : List Span} {p : Int} (hs : ok l) : ∀ (m i j : Nat), j - i ≤ m → i ≤ aftS p l → aftS p l ≤ j → j ≤ l.length →
    AWP Tryd.prog 49 0 c140_3 [(0, slS l), (1, .int .i64 p), (2, .fn 141 []), (8, .int .i64 l.length), (9, .int .i64 i), (10, .int .i64 j)] []
      (q140_2 0 (PA (.tup [.int .i64 (aftS p l : Nat), .bool false]))) := by
  have hl := ok_len hs
  have done : ∀ i : Nat, i = aftS p l → condP (decide ((i : Int) < (l.length : Int))) (needP (0 ≤ (i : Int) ∧ (i : Int) < (l.length : Int)) (ASpec Tryd.prog 141 [.agg (encS (l.getD (i : Int).toNat (0, 0))), .int .i64 p] []
      (fun r H' => ∃ x : Int, r = .int .i64 x ∧ H' = [] ∧ PA (.tup [.int .i64 (aftS p l : Nat), .bool false]) (.tup [.int .i64 i, .bool (x == 0)]) [])))
      (PA (.tup [.int .i64 (aftS p l : Nat), .bool false]) (.tup [.int .i64 i, .bool false]) []) := by
    rintro i rfl
    refine condD (fun h => needJ ⟨by omega, h⟩ ?_) fun h => pa (Le.refl _)
    refine ASpec.call (aftf_spec _ p _) (Les.refl _) ⟨_, rfl, rfl, pa ?_⟩
    have e : ((if (l.getD ((aftS p l : Nat) : Int).toNat (0, 0)).2 ≤ p then (-1 : Int) else 1) == 0) = false := by split <;> rfl
    rw [e]; exact Le.refl _
  intro m
  induction m with
  | zero =>
    intro i j h1 h2 h3 h4
    exact v140_3 _ _ _ _ _ _ _ (condD (fun hc => by omega) fun _ => done i (by omega))
  | succ m ih =>
    intro i j h1 h2 h3 h4
    refine v140_3 _ _ _ _ _ _ _ (condD (fun hc => needJ (by omega) ?_) fun _ => done i (by omega))
    rw [mid64 (by omega)]
    have hm1 : i ≤ (i + j) / 2 := by omega
    have hm2 : (i + j) / 2 < j := by omega
    refine needJ ⟨by omega, by omega⟩ ?_
    generalize (i + j) / 2 = h at hm1 hm2 ⊢
    rw [Int.toNat_natCast]
    refine ASpec.call (aftf_spec _ p _) (Les.refl _) ⟨_, rfl, rfl, ?_⟩
    by_cases hc : (l.getD h (0, 0)).2 ≤ p
    · rw [if_pos hc]
      refine condD (fun _ => ?_) fun hc => by omega
      rw [suc64 (by omega)]
      refine ih (h + 1) j (by omega) ?_ h3 h4
      rcases Nat.lt_or_ge h (aftS p l) with hk | hk
      · omega
      · have := aftS_ge hs hk (by omega); omega
    · rw [if_neg hc]
      refine condD (fun hc => by omega) fun _ => ?_
      refine ih i h (by omega) h2 ?_ (by omega)
      rcases Nat.lt_or_ge h (aftS p l) with hk | hk
      · exact (hc (aftS_lt p l h hk)).elim
      · exact hk

theorem after_spec (l : List Span) (p : Int) (hs : ok l) (H : List AObj) : ASpec Tryd.prog 113 [slS l, .int .i64 p] H (fun r H' => r = .int .i64 (aftS p l : Nat) ∧ H' = H) := by
  have k : ASpec Tryd.prog 113 [slS l, .int .i64 p] [] (fun r H' => r = .int .i64 (aftS p l : Nat) ∧ H' = []) := by
    have k2 : ASpec Tryd.prog 140 [slS l, .int .i64 p, .fn 141 []] [] (fun r H' => r = .tup [.int .i64 (aftS p l : Nat), .bool false] ∧ H' = []) :=
      ASpec.sel (s140 _ _ _ (bsf3 hs l.length 0 l.length (by omega) (by omega) (aftS_le p l) (by omega)))
    exact s113 _ _ _ (ASpec.call k2 (Les.refl _) ⟨(((aftS p l : Nat) : Int), false), rfl, rfl, rfl, rfl⟩)
  exact ASpec.pureH H k _ _ rfl rfl

theorem has_spec (l : List Span) (p : Int) (hs : ok l) (H : List AObj) : ASpec Tryd.prog 66 [slS l, .int .i64 p] H (fun r H' => r = .bool (hasS l p) ∧ H' = H) := by
  have k : ASpec Tryd.prog 66 [slS l, .int .i64 p] [] (fun r H' => r = .bool (hasS l p) ∧ H' = []) := by
    have e := hasS_aft (p := p) hs
    refine s66 _ _ _ (ASpec.call (after_spec l p hs _) (Les.refl _) ⟨_, rfl, rfl, condD (fun h => needJ ⟨by omega, h⟩ ⟨?_, rfl⟩) fun h => ⟨?_, rfl⟩⟩)
    · rw [Int.toNat_natCast]
      congr 1
      rw [Bool.eq_iff_iff, e, decide_eq_true_iff]
      exact ⟨fun h2 => ⟨by omega, h2⟩, fun h2 => h2.2⟩
    · congr 1
      symm
      cases hx : hasS l p with
      | false => rfl
      | true => have := (e.1 hx).1; omega
  exact ASpec.pureH H k _ _ rfl rfl

theorem next_spec (l : List Span) (p : Int) (hs : ok l) (H : List AObj) : ASpec Tryd.prog 138 [slS l, .int .i64 p] H (fun r H' => r = .int .i64 (nextS l p) ∧ H' = H) := by
  have k : ASpec Tryd.prog 138 [slS l, .int .i64 p] [] (fun r H' => r = .int .i64 (nextS l p) ∧ H' = []) := by
    have hle := aftS_le p l
    refine s138 _ _ _ (ASpec.call (after_spec l p hs _) (Les.refl _) ⟨_, rfl, rfl, condE (fun h => ⟨?_, rfl⟩) fun h => needJ ⟨by omega, by omega⟩ ?_⟩)
    · rw [nextS, if_pos (by omega)]
    · rw [Int.toNat_natCast]
      refine condD (fun h2 => needJ ⟨by omega, by omega⟩ ⟨?_, rfl⟩) fun h2 => needJ ⟨by omega, by omega⟩ ⟨?_, rfl⟩
      · rw [nextS, if_neg (by omega), if_pos (by omega)]
      · rw [nextS, if_neg (by omega), if_neg (by omega)]
  exact ASpec.pureH H k _ _ rfl rfl

/-! ### one more span -/

noncomputable abbrev arS (o : List Span) : AObj := .arr 2 (.map encS (0, 0) o)

theorem add_nil (s : Span) (H : List AObj) : ASpec Tryd.prog 139 [.sl 0 (.raw []) .nil, .agg (encS s)] H (fun r H' => r = .msl 2 H.length 0 1 ∧ H' = H ++ [arS [s]]) := by
  have k : ASpec Tryd.prog 139 [.sl 0 (.raw []) .nil, .agg (encS s)] [] (fun r H' => r = .msl 2 0 0 1 ∧ H' = [arS [s]]) := by
    refine ASpec.arrEnd (ASpec.sel (s139n _ _ (needJ (by omega) (needJ (by omega) ?_))))
    refine ⟨[1], [.arr 2 (.raw [encS s])], .msl 2 0 0 1, Sel.one 1 rfl rfl, Le.refl _, 0, 2, .raw [encS s], .map encS (0, 0) [s], rfl, rfl, rfl, rfl⟩
  exact ASpec.anyH H k _ _ _ rfl rfl rfl

theorem sel01 {a b : AObj} (h : AObj.ren (selR [0] 2) a = a := by rfl) : Sel 1 [0] [a, b] [a] := by
  refine ⟨by decide, rfl, Nat.le_refl _, fun i hi => ?_, fun i hi => .inl ?_⟩
  · match i, hi with
    | 0, _ => rfl
  · match i, hi with
    | 0, _ => simp [h]

theorem add_mem (o : List Span) (s : Span) (ho : o.length ≤ 2000000000) :
    ASpec Tryd.prog 139 [.msl 2 0 0 o.length, .agg (encS s)] [arS o] (fun r H' => (r = .msl 2 0 0 (addS o s).length ∧ H' = [arS (addS o s)] ∧ (addS o s).length = o.length) ∨ (r = .msl 2 1 0 (addS o s).length ∧ H' = [.gone, arS (addS o s)])) := by
  refine ASpec.sel (ASpec.arrEnd (s139m _ _ _ _ ?_))
  have app : ¬ (0 < o.length ∧ s.1 ≤ (o.getD (o.length - 1) (0, 0)).2) → ∃ id sz q q', ([.gone, .cells (encS s), .arr 2 (.app (.map encS (0, 0) o) (.raw [encS s]))] : List AObj)[id]? = some (.arr sz q) ∧ Seq.toList q' = q.toList ∧
      ∃ l H2 r2, Sel 1 l (([.gone, .cells (encS s), .arr 2 (.app (.map encS (0, 0) o) (.raw [encS s]))] : List AObj).set id (.arr sz q')) H2 ∧ Le (.msl 2 2 0 (o.length + 1)) (AV.ren (selR l (([.gone, .cells (encS s), .arr 2 (.app (.map encS (0, 0) o) (.raw [encS s]))] : List AObj).set id (.arr sz q')).length) r2) ∧
      ((r2 = .msl 2 0 0 (addS o s).length ∧ H2 = [arS (addS o s)] ∧ (addS o s).length = o.length) ∨ (r2 = .msl 2 1 0 (addS o s).length ∧ H2 = [.gone, arS (addS o s)])) := by
    intro hc
    have e : addS o s = o ++ [s] := by rw [addS, if_neg hc]
    refine ⟨2, 2, _, .map encS (0, 0) (o ++ [s]), rfl, by simp [Seq.toList], [0, 2], [.gone, arS (o ++ [s])], .msl 2 1 0 (o.length + 1), ?_, Le.refl _, .inr ⟨?_, ?_⟩⟩
    · refine ⟨by decide, rfl, by decide, fun i hi => ?_, fun i hi => ?_⟩
      · match i, hi with
        | 0, _ => rfl
      · match i, hi with
        | 0, _ => exact .inl rfl
        | 1, _ => exact .inl rfl
    · rw [e]; simp
    · rw [e]
  refine condD (fun h => ?_) fun h => ?_
  · by_cases hz : o.length = 0
    · rw [hz] at h
      have : IntKind.wrap .i64 (((0 : Nat) : Int) - 1) = -1 := by rw [wrap64 (by omega) (by omega)]; rfl
      rw [this] at h; omega
    rw [pre64 (by omega) (by omega), Int.toNat_natCast, Nat.zero_add]
    refine needJ ⟨by omega, by omega⟩ (needJ (by omega) (condD (fun h2 => needJ ⟨by omega, by omega⟩ (needJ (by omega) (needJ ⟨by omega, by omega⟩ (needJ (by omega) ?_)))) fun h2 => needJ ⟨rfl, by omega⟩ (app ?_)))
    · have e : addS o s = o.take (o.length - 1) ++ [((o.getD (o.length - 1) (0, 0)).1, max (o.getD (o.length - 1) (0, 0)).2 s.2)] := by rw [addS, if_pos ⟨by omega, h2⟩]
      have el : (addS o s).length = o.length := by rw [e]; simp; omega
      have em : (max (o.getD (o.length - 1) (0, 0)).2 s.2) = if s.2 > (o.getD (o.length - 1) (0, 0)).2 then s.2 else (o.getD (o.length - 1) (0, 0)).2 := by
        rw [Int.max_def]
        by_cases hx : s.2 > (o.getD (o.length - 1) (0, 0)).2
        · rw [if_pos hx, if_pos (by omega)]
        · rw [if_neg hx]
          by_cases hy : (o.getD (o.length - 1) (0, 0)).2 ≤ s.2
          · rw [if_pos hy]; omega
          · rw [if_neg hy]
      have es : o.set (o.length - 1) ((o.getD (o.length - 1) (0, 0)).1, max (o.getD (o.length - 1) (0, 0)).2 s.2) = addS o s := by
        rw [e, List.set_eq_take_append_cons_drop, if_pos (by omega), show o.length - 1 + 1 = o.length by omega, List.drop_length]
      refine ⟨0, 2, _, .map encS (0, 0) (addS o s), rfl, ?_, [0], [arS (addS o s)], .msl 2 0 0 o.length, sel01, Le.refl _, .inl ⟨by rw [el], rfl, el⟩⟩
      rw [← es, em]
      simp only [Seq.toList, List.map_set]
      rfl
    · rintro ⟨_, h3⟩; exact h2 h3
  · have hz : o.length = 0 := by
      by_cases hz : o.length = 0
      · exact hz
      · rw [pre64 (by omega) (by omega)] at h; omega
    exact needJ ⟨rfl, by omega⟩ (app (by omega))

/-! ### what two sets both have -/

abbrev andF (a b : List Span) (p : Int) : Bool := hasS a p && hasS b p

theorem and_next {a b : List Span} (ha : ok a) (hb : ok b) {p : Int} (hp : p < 1000000000) {to : Int} (ht : to = if nextS b p < nextS a p then nextS b p else nextS a p) :
    p < to ∧ to ≤ 1000000000 ∧ ∀ q, p ≤ q → q < to → andF a b q = andF a b p := by
  have h1 := nextS_gt ha hp
  have h2 := nextS_gt hb hp
  refine ⟨by rw [ht]; split <;> omega, by rw [ht]; split <;> omega, fun q hq1 hq2 => ?_⟩
  have hqa : q < nextS a p := by rw [ht] at hq2; split at hq2 <;> omega
  have hqb : q < nextS b p := by rw [ht] at hq2; split at hq2 <;> omega
  simp only [andF]
  rw [nextS_same ha hq1 hqa, nextS_same hb hq1 hqb]

theorem meet_ex {a b : List Span} (ha : ok a) (hb : ok b) : ∀ (m : Nat) (p : Int) (o : List Span), (1000000000 - p).toNat ≤ m → 0 ≤ p → p ≤ 1000000000 → Kept (andF a b) p o → ∃ o', Kept (andF a b) 1000000000 o'
  | 0, p, o, hm, h0, h1, hk => by
    have : p = 1000000000 := by omega
    subst this; exact ⟨o, hk⟩
  | m + 1, p, o, hm, h0, h1, hk => by
    by_cases hp : p < 1000000000
    · obtain ⟨n1, n2, n3⟩ := and_next ha hb hp rfl
      by_cases hf : andF a b p = true
      · exact meet_ex ha hb m _ _ (by omega) (by omega) n2 (kept_put hk h0 n1 n2 (fun q hq1 hq2 => by rw [n3 q hq1 hq2]; exact hf))
      · exact meet_ex ha hb m _ _ (by omega) (by omega) n2 (kept_skip hk (by omega) (fun q hq1 hq2 => by rw [n3 q hq1 hq2]; simpa using hf))
    · have : p = 1000000000 := by omega
      subst this; exact ⟨o, hk⟩

open Classical in
noncomputable def meetS (a b : List Span) : List Span := if h : ∃ o, Kept (andF a b) 1000000000 o then choose h else []
theorem meet_eq {a b o : List Span} (h : Kept (andF a b) 1000000000 o) : meetS a b = o := by
  have hex : ∃ o, Kept (andF a b) 1000000000 o := ⟨o, h⟩
  rw [meetS, dif_pos hex]
  exact kept_one (Classical.choose_spec hex) h
theorem meet_kept {a b : List Span} (ha : ok a) (hb : ok b) : Kept (andF a b) 1000000000 (meetS a b) := by
  obtain ⟨o, h⟩ := meet_ex ha hb 1000000000 0 [] (by omega) (by omega) (by omega) (kept_nil _)
  rw [meet_eq h]; exact h
theorem meet_ok {a b : List Span} (ha : ok a) (hb : ok b) : ok (meetS a b) := (meet_kept ha hb).1
theorem meet_has {a b : List Span} (ha : ok a) (hb : ok b) (p : Int) : hasS (meetS a b) p = (hasS a p && hasS b p) := by
  rw [(meet_kept ha hb).2.2]
  by_cases hp : 0 ≤ p ∧ p < 1000000000
  · rw [decide_eq_true hp]; rfl
  · rw [decide_eq_false hp, Bool.false_and]
    by_cases h0 : p ≤ -1
    · rw [chkS_low ha h0]; rfl
    · rw [chkS_top ha (by omega)]; rfl

theorem freezeS {n : Nat} {k : Nat} {o : List Span} (hn : n ≤ 1) : ReSt n [(k, .msl 2 0 0 o.length)] [arS o] [(k, slS o)] [.gone] := by
  refine ReSt.freeze (H := [arS o]) (id := 0) (sz := 2) (q := .map encS (0, 0) o) rfl hn (fun d => ?_)
  by_cases hd : d = k
  · subst hd
    refine .inr (.inr ⟨0, o.length, .map encS (0, 0) o, ?_, by simp [Seq.toList], ?_, by simp [Seq.toList, ← List.map_take]⟩)
    · simp [Ab.get]
    · simp [Ab.get]
  · left
    simp only [Ab.get]
    have e : Nat.beq k d = false := by
      cases hx : Nat.beq k d with
      | false => rfl
      | true => exact absurd (Nat.eq_of_beq_eq_true hx).symm hd
    rw [e]; rfl

theorem leS0 {ρ : Nat → Nat} : Le (.sl 0 (.raw []) .nil) (AV.ren ρ (slS [])) := Le.sl (s' := Seq.ren ρ (.map encS (0, 0) [])) rfl (.inr ⟨rfl, fun _ h => by cases h⟩) (.inr rfl)

theorem and_spec (x y : Bool) (H : List AObj) : ASpec Tryd.prog 110 [.bool x, .bool y] H (fun r H' => r = .bool (x && y) ∧ H' = H) :=
  ASpec.pureH (r0 := .bool (x && y)) H (s110 x y _ (condB (fun h => by rw [h]; exact ⟨rfl, rfl⟩) fun h => by rw [h]; exact ⟨rfl, rfl⟩)) _ _ rfl rfl

section
variable {a b : List Span} (ha : ok a) (hb : ok b)
include ha hb

theorem kept3m : ∀ (m : Nat) (p : Int) (o : List Span), (1000000000 - p).toNat ≤ m → 0 ≤ p → p ≤ 1000000000 → Kept (andF a b) p o →
    AWP Tryd.prog 34 0 c108_3 [(0, slS a), (1, slS b), (2, .fn 110 []), (7, .msl 2 0 0 o.length), (8, .int .i64 p)] [arS o] (q108_2 0 (PA (slS (meetS a b)))) := by
  have done : ∀ (p : Int) (o : List Span), ¬ p < 1000000000 → p ≤ 1000000000 → Kept (andF a b) p o → AWP Tryd.prog 34 0 c108_8 [(7, .msl 2 0 0 o.length)] [arS o] (q108_0 0 (PA (slS (meetS a b)))) := by
    intro p o h1 h2 hk
    have : p = 1000000000 := by omega
    subst this
    refine AWP.re (freezeS (by omega)) (AWP.shape [] [(7, slS o)] [] Sel.none ⟨rfl, Le.refl _, trivial⟩ (v108_8s _ _ _ (pa ?_)))
    rw [meet_eq hk]; exact Le.refl _
  intro m
  induction m with
  | zero =>
    intro p o hm h0 h1 hk
    exact v108_3m _ _ _ _ _ _ _ (condD (fun h => by omega) fun h => done p o h h1 hk)
  | succ m ih =>
    intro p o hm h0 h1 hk
    have hol := ok_len hk.1
    refine v108_3m _ _ _ _ _ _ _ (condD (fun hp => ?_) fun h => done p o h h1 hk)
    obtain ⟨n1, n2, n3⟩ := and_next ha hb hp rfl
    refine ASpec.call (next_spec a p ha _) (Les.refl _) ⟨_, rfl, rfl, ?_⟩
    refine ASpec.call (next_spec b p hb _) (Les.refl _) ⟨_, rfl, rfl, ?_⟩
    refine ASpec.call (has_spec a p ha _) (Les.refl _) ⟨_, rfl, rfl, ?_⟩
    refine ASpec.call (has_spec b p hb _) (Les.refl _) ⟨_, rfl, rfl, ?_⟩
    refine ASpec.call (and_spec _ _ _) (Les.refl _) ⟨_, rfl, rfl, ?_⟩
    generalize (if nextS b p < nextS a p then nextS b p else nextS a p) = to at n1 n2 n3 ⊢
    refine condB (fun hf => ?_) fun hf => ?_
    · have hk' := kept_put hk h0 n1 n2 (fun q hq1 hq2 => by rw [n3 q hq1 hq2]; exact hf)
      have nxt := ih to (addS o (p, to)) (by omega) (by omega) n2 hk'
      refine (add_mem o (p, to) (by omega)).mono fun r H' hh => .inr ?_
      rcases hh with ⟨e1, e2, e3⟩ | ⟨e1, e2⟩
      · subst e1 e2
        refine .inl ⟨addS o (p, to), by rw [e3], rfl, ?_⟩
        rw [e3] at nxt; exact nxt
      · subst e1 e2
        refine .inr ⟨addS o (p, to), rfl, rfl, ?_⟩
        exact AWP.shape [1] [(0, slS a), (1, slS b), (2, .fn 110 []), (7, .msl 2 0 0 (addS o (p, to)).length), (8, .int .i64 to)] [arS (addS o (p, to))] (Sel.one 1 rfl rfl)
          ⟨rfl, Le.refl _, rfl, Le.refl _, rfl, Le.refl _, rfl, Le.refl _, rfl, Le.refl _, trivial⟩ nxt
    · exact ih to o (by omega) (by omega) n2 (kept_skip hk (by omega) (fun q hq1 hq2 => by rw [n3 q hq1 hq2]; exact hf))

theorem kept3n : ∀ (m : Nat) (p : Int), (1000000000 - p).toNat ≤ m → 0 ≤ p → p ≤ 1000000000 → Kept (andF a b) p [] →
    AWP Tryd.prog 34 0 c108_3 [(0, slS a), (1, slS b), (2, .fn 110 []), (7, .sl 0 (.raw []) .nil), (8, .int .i64 p)] [] (q108_2 0 (PA (slS (meetS a b)))) := by
  have done : ∀ (p : Int), ¬ p < 1000000000 → p ≤ 1000000000 → Kept (andF a b) p [] → AWP Tryd.prog 34 0 c108_8 [(7, .sl 0 (.raw []) .nil)] [] (q108_0 0 (PA (slS (meetS a b)))) := by
    intro p h1 h2 hk
    have : p = 1000000000 := by omega
    subst this
    refine v108_8n _ _ (pa ?_)
    rw [meet_eq hk]; exact leS0
  intro m
  induction m with
  | zero =>
    intro p hm h0 h1 hk
    exact v108_3n _ _ _ _ _ (condD (fun h => by omega) fun h => done p h h1 hk)
  | succ m ih =>
    intro p hm h0 h1 hk
    refine v108_3n _ _ _ _ _ (condD (fun hp => ?_) fun h => done p h h1 hk)
    obtain ⟨n1, n2, n3⟩ := and_next ha hb hp rfl
    refine ASpec.call (next_spec a p ha _) (Les.refl _) ⟨_, rfl, rfl, ?_⟩
    refine ASpec.call (next_spec b p hb _) (Les.refl _) ⟨_, rfl, rfl, ?_⟩
    refine ASpec.call (has_spec a p ha _) (Les.refl _) ⟨_, rfl, rfl, ?_⟩
    refine ASpec.call (has_spec b p hb _) (Les.refl _) ⟨_, rfl, rfl, ?_⟩
    refine ASpec.call (and_spec _ _ _) (Les.refl _) ⟨_, rfl, rfl, ?_⟩
    generalize (if nextS b p < nextS a p then nextS b p else nextS a p) = to at n1 n2 n3 ⊢
    refine condB (fun hf => ?_) fun hf => ?_
    · have hk' := kept_put hk h0 n1 n2 (fun q hq1 hq2 => by rw [n3 q hq1 hq2]; exact hf)
      have nxt := kept3m ha hb m to (addS [] (p, to)) (by omega) (by omega) n2 hk'
      exact ASpec.call (add_nil (p, to) []) (Les.refl _) (.inl ⟨(p, to), rfl, rfl, nxt⟩)
    · exact ih to (by omega) (by omega) n2 (kept_skip hk (by omega) (fun q hq1 hq2 => by rw [n3 q hq1 hq2]; exact hf))

theorem meet_spec (H : List AObj) : ASpec Tryd.prog 54 [slS a, slS b] H (fun r H' => r = slS (meetS a b) ∧ H' = H) := by
  have k : ASpec Tryd.prog 54 [slS a, slS b] [] (fun r H' => r = slS (meetS a b) ∧ H' = []) := by
    have k2 : ASpec Tryd.prog 108 [slS a, slS b, .fn 110 []] [] (fun r H' => r = slS (meetS a b) ∧ H' = []) :=
      ASpec.sel (s108 _ _ _ (kept3n ha hb 1000000000 0 (by omega) (by omega) (by omega) (kept_nil _)))
    exact s54 _ _ _ (ASpec.call k2 (Les.refl _) ⟨_, rfl, rfl, rfl, rfl⟩)
  exact ASpec.pureH H k _ _ rfl rfl
end

/-! ### within -/

/-- has the second set all that the first one has? -/
def subS (a b : List Span) : Bool := a.all fun s => decide (aftS s.1 b < b.length ∧ (b.getD (aftS s.1 b) (0, 0)).1 ≤ s.1 ∧ s.2 ≤ (b.getD (aftS s.1 b) (0, 0)).2)

theorem within2 {a b : List Span} (hb : ok b) (hal : a.length ≤ 2000000000) {c : Bool} : ∀ (m i : Nat), m + i = a.length → subS (a.drop i) b = c →
    AWP Tryd.prog 43 0 c58_2 [(1, slS b), (8, slS a), (9, .int .i64 a.length), (10, .int .i64 i)] [] (q58_2 0 (PB c)) := by
  intro m
  induction m with
  | zero =>
    intro i hm h
    refine v58_2 _ _ _ _ _ _ (condD (fun hc => by omega) fun _ => pb ?_)
    rw [List.drop_eq_nil_of_le (by omega)] at h
    exact h
  | succ m ih =>
    intro i hm h
    rw [dropD a (0, 0) i (by omega)] at h
    refine v58_2 _ _ _ _ _ _ (condD (fun hc => needJ ⟨by omega, by omega⟩ ?_) fun hc => by omega)
    rw [Int.toNat_natCast]
    generalize a.getD i (0, 0) = x at h ⊢
    have hle := aftS_le x.1 b
    have no : ∀ {H' : List AObj}, ¬ (aftS x.1 b < b.length ∧ (b.getD (aftS x.1 b) (0, 0)).1 ≤ x.1 ∧ x.2 ≤ (b.getD (aftS x.1 b) (0, 0)).2) → PB c (.bool false) H' := by
      intro H' hh
      refine pb ?_
      rw [← h, subS, List.all_cons, decide_eq_false hh, Bool.false_and]
    refine ASpec.call (after_spec b x.1 hb _) (Les.refl _) ⟨_, rfl, rfl, condE (fun h1 => no (by omega)) fun h1 => needJ ⟨by omega, by omega⟩ ?_⟩
    rw [Int.toNat_natCast]
    refine condD (fun h2 => no (by omega)) fun h2 => needJ ⟨by omega, by omega⟩ (condD (fun h3 => no (by omega)) fun h3 => ?_)
    rw [suc64 (by omega)]
    refine AWP.shape [] [(1, slS b), (8, slS a), (9, .int .i64 a.length), (10, .int .i64 (i + 1 : Nat))] [] Sel.none ⟨rfl, Le.refl _, rfl, Le.refl _, rfl, Le.refl _, rfl, Le.refl _, trivial⟩ (ih (i + 1) (by omega) ?_)
    rw [← h, subS, subS, List.all_cons, decide_eq_true (⟨by omega, by omega, by omega⟩ : aftS x.1 b < b.length ∧ (b.getD (aftS x.1 b) (0, 0)).1 ≤ x.1 ∧ x.2 ≤ (b.getD (aftS x.1 b) (0, 0)).2), Bool.true_and]

theorem within_spec (a b : List Span) (ha : ok a) (hb : ok b) (H : List AObj) : ASpec Tryd.prog 58 [slS a, slS b] H (fun r H' => r = .bool (subS a b) ∧ H' = H) :=
  ASpec.pureH (r0 := .bool (subS a b)) H (ASpec.sel (s58 _ _ _ (within2 hb (by have := ok_len ha; omega) a.length 0 (by omega) rfl))) _ _ rfl rfl

/-- within: each place of the first set is one of the second -/
theorem subS_iff {a b : List Span} (ha : ok a) (hb : ok b) : subS a b = true ↔ ∀ p, hasS a p = true → hasS b p = true := by
  constructor
  · intro h p hp
    simp only [hasS, List.any_eq_true] at hp
    obtain ⟨s, hs, hsp⟩ := hp
    rw [inS_iff] at hsp
    have := List.all_eq_true.1 h s hs
    simp only [decide_eq_true_eq] at this
    obtain ⟨h1, h2, h3⟩ := this
    simp only [hasS, List.any_eq_true]
    exact ⟨_, memD b (0, 0) _ h1, inS_iff.2 ⟨by omega, by omega⟩⟩
  · intro h
    refine List.all_eq_true.2 fun s hs => ?_
    obtain ⟨i, hi, e⟩ := List.getElem_of_mem hs
    have hr := chkS_rise ha i hi
    rw [List.getD_eq_getElem?_getD, List.getElem?_eq_getElem hi] at hr
    simp only [Option.getD_some, e] at hr
    obtain ⟨r1, r2, r3, _⟩ := hr
    have hin : ∀ q, s.1 ≤ q → q < s.2 → hasS b q = true := fun q h1 h2 => h q (by simp only [hasS, List.any_eq_true]; exact ⟨s, hs, inS_iff.2 ⟨h1, h2⟩⟩)
    obtain ⟨k1, k2⟩ := (hasS_aft hb).1 (hin s.1 (by omega) r2)
    refine decide_eq_true ⟨k1, k2, ?_⟩
    have hat := aftS_at s.1 b k1
    by_cases hc : s.2 ≤ (b.getD (aftS s.1 b) (0, 0)).2
    · exact hc
    · exfalso
      have h1 := hin (b.getD (aftS s.1 b) (0, 0)).2 (by omega) (by omega)
      have hn : hasS b (b.getD (aftS s.1 b) (0, 0)).2 = false := by
        have key : ∀ {l : List Span} {e : Int}, chkS e l = true → ∀ i, i < l.length → hasS l (l.getD i (0, 0)).2 = false := by
          intro l
          induction l with
          | nil => intro e _ i hi; simp at hi
          | cons x r ih =>
            intro e hl i hi
            obtain ⟨a1, a2, a3, a4⟩ := chkS_cons hl
            match i, hi with
            | 0, _ =>
              simp only [List.getD_cons_zero]
              rw [hasS_cons, chkS_low a4 (Int.le_refl _), inS_false.2 (by omega)]; rfl
            | i + 1, hi =>
              simp only [List.getD_cons_succ]
              have hx := chkS_rise a4 i (by simpa using hi)
              rw [hasS_cons, ih a4 i (by simpa using hi), inS_false.2 (by omega)]; rfl
        exact key hb _ k1
      rw [hn] at h1; cases h1
end Sg
end

section
/- Sets of places: the document's code. -/

set_option linter.unusedVariables false
set_option linter.unusedSimpArgs false
set_option maxRecDepth 100000
open Go Go.Ab Go.Proofs V S T C
open W (slS leNone cons_dec renS)
open Sp
namespace Sg

/-! ### has -/

/-! ### cuts -/

/-- what the cuts are good for -/
structure Good (l : List Int) : Prop where
  rise : l.Pairwise (· < ·)
  low : ∀ q ∈ l, 0 ≤ q ∧ q ≤ 1000000000
  zero : (0 : Int) ∈ l
  top : (1000000000 : Int) ∈ l
def Ends (a : List Span) (l : List Int) : Prop := ∀ s ∈ a, s.1 ∈ l ∧ s.2 ∈ l

section
variable {op : Int} {a b : List Span} (ha : ok a) (hb : ok b) {l : List Int} (hg : Good l) (he : Ends a l ∧ Ends b l) (hl : l.length ≤ 10000000000)
include ha hb hg he hl

end

/-! ### are they alike? -/

end Sg
end

section
/- Terms: what the code and the document's code compute. -/

set_option linter.unusedVariables false
set_option linter.unusedSimpArgs false
set_option maxRecDepth 100000
open Go Go.Ab Go.Proofs V S T C
open W (slS leNone cons_dec renS)
open Sp
namespace Tm
open Sg (ok meetS meet_spec meet_ok meet_has subS subS_iff within_spec has_spec leS0 pa PA)
/-- a term that may be looked at -/
def okT (t : Term) : Prop := ok t.2.1
noncomputable abbrev agT (t : Term) : AV := .agg (encT t)
noncomputable def meetT (a b : Term) : Term := if a.1 = b.1 then (a.1, meetS a.2.1 b.2.1, a.2.2 && b.2.2) else noT
def emptyT (t : Term) : Bool := !t.2.2 && decide (t.2.1 = [])
noncomputable def withinT (a b : Term) : Bool := decide (a.1 = b.1) && ((!a.2.2 || b.2.2) && subS a.2.1 b.2.1)
theorem nameEq (a b : List UInt8) : ((B a).toList == (B b).toList) = decide (a = b) := by rw [B_beq, Bool.eq_iff_iff]; simp

theorem ok_noT : okT noT := rfl
theorem ok_meet {a b : Term} (ha : okT a) (hb : okT b) : okT (meetT a b) := by
  unfold meetT
  split
  · exact meet_ok ha hb
  · exact ok_noT

theorem all_spec (H : List AObj) : ASpec Tryd.prog 116 [] H (fun r H' => r = slS [(0, 1000000000)] ∧ H' = H) := by
  have k : ASpec Tryd.prog 116 [] [] (fun r H' => r = slS [(0, 1000000000)] ∧ H' = []) :=
    ASpec.sel (Sg.s116 _ (pa (Le.sl (s' := Seq.ren _ (.map encS (0, 0) [(0, 1000000000)])) rfl (.inl rfl) (.inr rfl))))
  exact ASpec.pureH H k _ _ rfl rfl

theorem emptyT_len (t : Term) : ((t.2.1.length : Int) == 0) = decide (t.2.1 = []) := by
  rw [Bool.eq_iff_iff]
  simp [List.length_eq_zero_iff]

theorem empty_spec (t : Term) (H : List AObj) : ASpec Tryd.prog 12 [agT t] H (fun r H' => r = .bool (emptyT t) ∧ H' = H) := by
  have k : ASpec Tryd.prog 12 [agT t] [] (fun r H' => r = .bool (emptyT t) ∧ H' = []) := by
    refine ASpec.sel (Sg.s12 _ _ (condBn (fun h => pa ?_) fun h => pa ?_))
    · rw [emptyT_len, emptyT, h, Bool.not_false, Bool.true_and]; exact Le.refl _
    · rw [emptyT, h, Bool.not_true, Bool.false_and]; exact Le.refl _
  exact ASpec.pureH H k _ _ rfl rfl

theorem within_specT (a b : Term) (ha : okT a) (hb : okT b) (H : List AObj) : ASpec Tryd.prog 17 [agT a, agT b] H (fun r H' => r = .bool (withinT a b) ∧ H' = H) := by
  have k : ASpec Tryd.prog 17 [agT a, agT b] [] (fun r H' => r = .bool (withinT a b) ∧ H' = []) := by
    refine ASpec.sel (Sg.s17 _ _ _ (condB (fun h => condBn (fun h1 => ?_) fun h1 => condB (fun h2 => ?_) fun h2 => pa ?_) fun h => pa ?_))
    · rw [nameEq] at h
      refine ASpec.call (within_spec _ _ ha hb _) (Les.refl _) ⟨_, rfl, rfl, pa ?_⟩
      rw [withinT, h, h1]; exact Le.refl _
    · rw [nameEq] at h
      refine ASpec.call (within_spec _ _ ha hb _) (Les.refl _) ⟨_, rfl, rfl, pa ?_⟩
      rw [withinT, h, h1, h2]; exact Le.refl _
    · rw [nameEq] at h
      rw [withinT, h, h1, h2]; exact Le.refl _
    · rw [nameEq] at h
      rw [withinT, h]; exact Le.refl _
  exact ASpec.pureH H k _ _ rfl rfl

/-- may a term be? -/
def chkT (t : Term) : Bool := fitM t.1 && spanOk t.2.1
theorem check_spec (t : Term) (h1 : t.1.length ≤ lim) (h2 : t.2.1.length ≤ lim) (H : List AObj) : ASpec Tryd.prog 9 [agT t] H (fun r H' => r = .bool (chkT t) ∧ H' = H) := by
  unfold lim at h1
  have k : ASpec Tryd.prog 9 [agT t] [] (fun r H' => r = .bool (chkT t) ∧ H' = []) := by
    refine ASpec.sel (Sg.s9 _ _ (ASpec.call (fit_spec (l := t.1) (by unfold big; omega) _) (Les.refl _) ⟨_, rfl, rfl, condB (fun h => ?_) fun h => pa ?_⟩))
    · refine ASpec.call (spanCheck_spec _ h2 _) (Les.refl _) ⟨_, rfl, rfl, pa ?_⟩
      rw [chkT, h, Bool.true_and]; exact Le.refl _
    · rw [chkT, h, Bool.false_and]; exact Le.refl _
  exact ASpec.pureH H k _ _ rfl rfl

/-- more than is looked at -/
def largeT (t : Term) : Bool := decide (60 < t.2.1.length) || decide (200 < t.1.length)
theorem large_spec (t : Term) (H : List AObj) : ASpec Tryd.prog 8 [agT t] H (fun r H' => r = .bool (largeT t) ∧ H' = H) := by
  have k : ASpec Tryd.prog 8 [agT t] [] (fun r H' => r = .bool (largeT t) ∧ H' = []) := by
    refine ASpec.sel (Sg.s8 _ _ (condD (fun h => pa ?_) fun h => pa ?_))
    · rw [largeT, decide_eq_true (by omega), Bool.true_or]; exact Le.refl _
    · rw [largeT, show decide (60 < t.2.1.length) = false from decide_eq_false (by omega), Bool.false_or, B_size]
      have e : decide ((t.1.length : Int) > 200) = decide (200 < t.1.length) := by rw [decide_eq_decide]; omega
      rw [e]; exact Le.refl _
  exact ASpec.pureH H k _ _ rfl rfl

end Tm
end

section
/- Entries, and what an index knows. -/

open Go Go.Ab Go.Proofs
namespace T
end T
end

section
/- Names as cells. -/

open Go Go.Ab Go.Proofs
namespace T
noncomputable def encL (x : List UInt8) : List AV := [.str ⟨x.toArray⟩]
end T
end

section
/- Printed: what the code of functions 109, 111, 108, 52, 56, 53, 13, 15, 11, 14, 16, 20, 55, 57, 112, 62, 117, 119, 63, 21, 22, 24, 18, 27, 28, 26, 64, 65, 69, 10, 3, 4 asks for, by the framework's own reading of it; each line is checked against the code. -/

set_option linter.unusedVariables false
set_option maxRecDepth 100000
set_option maxHeartbeats 4000000
open Go Go.Ab Go.Proofs
namespace Tq
noncomputable section

noncomputable def retTm : List (Nat × Ret) := [
  (109, ⟨Bool, fun _ _ x => .bool x, fun _ H _ => H⟩),
  (111, ⟨Bool, fun _ _ x => .bool x, fun _ H _ => H⟩),
  (14, ⟨Bool, fun _ _ x => .bool x, fun _ H _ => H⟩),
  (16, ⟨Bool, fun _ _ x => .bool x, fun _ H _ => H⟩),
  (57, ⟨Bool, fun _ _ x => .bool x, fun _ H _ => H⟩),
  (112, ⟨Bool, fun _ _ x => .bool x, fun _ H _ => H⟩),
  (22, ⟨Bool, fun _ _ x => .bool x, fun _ H _ => H⟩),
  (26, ⟨Bool, fun _ _ x => .bool x, fun _ H _ => H⟩),
  (18, ⟨Bool, fun _ _ x => .bool x, fun _ H _ => H⟩),
  (20, ⟨ByteArray, fun _ _ x => .str x, fun _ H _ => H⟩),
  (62, ⟨ByteArray, fun _ _ x => .str x, fun _ H _ => H⟩),
  (117, ⟨ByteArray, fun _ _ x => .str x, fun _ H _ => H⟩),
  (121, ⟨ByteArray, fun _ _ x => .str x, fun _ H _ => H⟩),
  (118, ⟨ByteArray, fun _ _ x => .str x, fun _ H _ => H⟩),
  (21, ⟨ByteArray, fun _ _ x => .str x, fun _ H _ => H⟩),
  (63, ⟨ByteArray, fun _ _ x => .str x, fun _ H _ => H⟩),
  (119, ⟨ByteArray, fun _ _ x => .str x, fun _ H _ => H⟩),
  (134, ⟨ByteArray, fun _ _ x => .str x, fun _ H _ => H⟩),
  (52, ⟨List T.Span, fun _ _ x => .sl 2 (.map T.encS (0, 0) x) .none, fun _ H _ => H⟩),
  (56, ⟨List T.Span, fun _ _ x => .sl 2 (.map T.encS (0, 0) x) .none, fun _ H _ => H⟩),
  (65, ⟨List T.Span, fun _ _ x => .sl 2 (.map T.encS (0, 0) x) .none, fun _ H _ => H⟩),
  (69, ⟨List T.Span, fun _ _ x => .sl 2 (.map T.encS (0, 0) x) .none, fun _ H _ => H⟩),
  (64, ⟨List T.Span, fun _ _ x => .sl 2 (.map T.encS (0, 0) x) .none, fun _ H _ => H⟩),
  (11, ⟨T.Term, fun _ _ x => .agg (T.encT x), fun _ H _ => H⟩),
  (13, ⟨T.Term, fun _ _ x => .agg (T.encT x), fun _ H _ => H⟩),
  (15, ⟨T.Term, fun _ _ x => .agg (T.encT x), fun _ H _ => H⟩),
  (53, ⟨T.Term, fun _ _ x => .agg (T.encT x), fun _ H _ => H⟩),
  (24, ⟨T.Term, fun _ _ x => .agg (T.encT x), fun _ H _ => H⟩),
  (27, ⟨T.Term, fun _ _ x => .agg (T.encT x), fun _ H _ => H⟩),
  (28, ⟨T.Term, fun _ _ x => .agg (T.encT x), fun _ H _ => H⟩),
  (55, ⟨Int, fun _ _ x => .int .i64 x, fun _ H _ => H⟩),
  (10, ⟨Unit, fun _ _ _ => .bool true, fun _ H _ => H⟩)]
noncomputable def rets : FuncId → List Ret := fun f => match lookupR retTm f with
  | [] => Sg.rets f
  | l => l

-- 109
noncomputable def l109 : Nat → List Nat
  | _ => []
noncomputable def u109 : Nat → Bool
  | _ => false
noncomputable def m109 : Nat → Bool
  | _ => false
noncomputable def g109 : Cfg := { N := 7, live := l109, cut := u109, mu := m109, ret := rets }
theorem s109 : ∀ (x y : Bool) (Post : AV → List AObj → Prop), Post (AV.bool !x) [] → ASpec Tryd.prog 109 [AV.bool x, AV.bool y] [] Post := fun x y Post h => Go.Ab.ASpec.of_vc g109 Go.Proofs.Tryd.func109 (by kernel_rfl) (by kernel_rfl) (by kernel_rfl) (Go.Ab.kc (by kernel_rfl) h)

-- 111
noncomputable def l111 : Nat → List Nat
  | _ => []
noncomputable def u111 : Nat → Bool
  | _ => false
noncomputable def m111 : Nat → Bool
  | _ => false
noncomputable def g111 : Cfg := { N := 9, live := l111, cut := u111, mu := m111, ret := rets }
theorem s111 : ∀ (x y : Bool) (Post : AV → List AObj → Prop), condP x (Post (AV.bool true) []) (Post (AV.bool y) []) → ASpec Tryd.prog 111 [AV.bool x, AV.bool y] [] Post := fun x y Post h => Go.Ab.ASpec.of_vc g111 Go.Proofs.Tryd.func111 (by kernel_rfl) (by kernel_rfl) (by kernel_rfl) (Go.Ab.kc (by kernel_rfl) h)

-- 108
noncomputable def l108 : Nat → List Nat
  | 3 => [0, 1, 2, 7, 8]
  | 8 => [7]
  | _ => []
noncomputable def u108 : Nat → Bool
  | 8 => true
  | _ => false
noncomputable def m108 : Nat → Bool
  | _ => false
noncomputable def g108 : Cfg := { N := 34, live := l108, cut := u108, mu := m108, ret := rets }
noncomputable def c108 : Go.Code := Go.Ab.bodyOf Go.Proofs.Tryd.f108
noncomputable def q108_0 : Nat → (AV → List AObj → Prop) → AQ := fun (n : Nat) (Post : AV → List AObj → Prop) => endQ Tryd.prog (resultsOf Tryd.f108) Post
noncomputable def c108_8 : Go.Code := codeSnd (codeSnd (codeSnd c108))
noncomputable def q108_1 : Nat → (AV → List AObj → Prop) → AQ := fun (n : Nat) (Post : AV → List AObj → Prop) => seqQ (fun (s' : Slots) (H' : List AObj) => AWP Tryd.prog (Cfg.N g108) n c108_8 (restrict s' (Cfg.live g108 8)) H' (q108_0 n Post)) (q108_0 n Post)
noncomputable def q108_2 : Nat → (AV → List AObj → Prop) → AQ := fun (n : Nat) (Post : AV → List AObj → Prop) => blockQ 0 (q108_1 n Post)
noncomputable def c108_3 : Go.Code := codeFst (codeSnd (codeFst (codeSnd (codeSnd c108))))
theorem s108u : ∀ (a b : List T.Span) (Post : AV → List AObj → Prop),
  AWP Tryd.prog 34 0 c108_3
      [(0, AV.sl 2 (Seq.map T.encS ((0 : Int), (0 : Int)) a) Tip.none), (1, AV.sl 2 (Seq.map T.encS ((0 : Int), (0 : Int)) b) Tip.none),
        (2, AV.fn (111 : FuncId) []), (7, AV.sl 0 (Seq.raw []) Tip.nil), (8, AV.int IntKind.i64 (0 : Int))]
      [] (q108_2 0 Post) →
    ASpec Tryd.prog 108 [AV.sl 2 (Seq.map T.encS ((0 : Int), (0 : Int)) a) Tip.none, AV.sl 2 (Seq.map T.encS ((0 : Int), (0 : Int)) b) Tip.none, AV.fn (111 : FuncId) []] []
      Post := fun a b Post h => Go.Ab.ASpec.of_vc g108 Go.Proofs.Tryd.func108 (by kernel_rfl) (by kernel_rfl) (by kernel_rfl) (Go.Ab.kc (by kernel_rfl) h)
theorem s108o : ∀ (a b : List T.Span) (Post : AV → List AObj → Prop),
  AWP Tryd.prog 34 0 c108_3
      [(0, AV.sl 2 (Seq.map T.encS ((0 : Int), (0 : Int)) a) Tip.none), (1, AV.sl 2 (Seq.map T.encS ((0 : Int), (0 : Int)) b) Tip.none),
        (2, AV.fn (109 : FuncId) []), (7, AV.sl 0 (Seq.raw []) Tip.nil), (8, AV.int IntKind.i64 (0 : Int))]
      [] (q108_2 0 Post) →
    ASpec Tryd.prog 108 [AV.sl 2 (Seq.map T.encS ((0 : Int), (0 : Int)) a) Tip.none, AV.sl 2 (Seq.map T.encS ((0 : Int), (0 : Int)) b) Tip.none, AV.fn (109 : FuncId) []] []
      Post := fun a b Post h => Go.Ab.ASpec.of_vc g108 Go.Proofs.Tryd.func108 (by kernel_rfl) (by kernel_rfl) (by kernel_rfl) (Go.Ab.kc (by kernel_rfl) h)
theorem v108_3nu : ∀ (a b : List T.Span) (p : Int) (n : Nat) (Post : AV → List AObj → Prop),
  condP (decide (p < (1000000000 : Int)))
      (ASpec Tryd.prog 138 [AV.sl 2 (Seq.map T.encS ((0 : Int), (0 : Int)) a) Tip.none, AV.int IntKind.i64 p] [] fun (r : AV) (H' : List AObj) =>
        ∃ (x : Int),
         r = AV.int IntKind.i64 x ∧
         H' = [] ∧
         ASpec Tryd.prog 138 [AV.sl 2 (Seq.map T.encS ((0 : Int), (0 : Int)) b) Tip.none, AV.int IntKind.i64 p] [] fun (r : AV) (H' : List AObj) =>
         ∃ (x_1 : Int),
         r = AV.int IntKind.i64 x_1 ∧
         H' = [] ∧
         ASpec Tryd.prog 66 [AV.sl 2 (Seq.map T.encS ((0 : Int), (0 : Int)) a) Tip.none, AV.int IntKind.i64 p] [] fun (r : AV) (H' : List AObj) =>
         ∃ (x_2 : Bool),
         r = AV.bool x_2 ∧
         H' = [] ∧
         ASpec Tryd.prog 66 [AV.sl 2 (Seq.map T.encS ((0 : Int), (0 : Int)) b) Tip.none, AV.int IntKind.i64 p] [] fun (r : AV) (H' : List AObj) =>
         ∃ (x_3 : Bool),
         r = AV.bool x_3 ∧
         H' = [] ∧
         ASpec Tryd.prog 111 [AV.bool x_2, AV.bool x_3] [] fun (r : AV) (H' : List AObj) =>
         ∃ (x_4 : Bool),
         r = AV.bool x_4 ∧
         H' = [] ∧
         condP x_4
         (ASpec Tryd.prog 139 [AV.sl 0 (Seq.raw []) Tip.nil, AV.agg [AV.int IntKind.i64 p, AV.int IntKind.i64 (if x_1 < x then x_1 else x)]] []
         fun (r : AV) (H' : List AObj) =>
         (∃ (x_5 : Int × Int),
         r = AV.msl 2 0 0 1 ∧
         H' = [AObj.arr 2 (Seq.map T.encS ((0 : Int), (0 : Int)) [x_5])] ∧
         AWP Tryd.prog 34 n c108_3
         [(0, AV.sl 2 (Seq.map T.encS ((0 : Int), (0 : Int)) a) Tip.none),
         (1, AV.sl 2 (Seq.map T.encS ((0 : Int), (0 : Int)) b) Tip.none), (2, AV.fn (111 : FuncId) []),
         (7, AV.msl 2 0 0 1), (8, AV.int IntKind.i64 (if x_1 < x then x_1 else x))]
         [AObj.arr 2 (Seq.map T.encS ((0 : Int), (0 : Int)) [x_5])] (q108_2 n Post)) ∨
         (∃ (x_5 : List T.Span),
         r = AV.sl 0 (Seq.raw []) Tip.nil ∧
         H' = [] ∧
         AWP Tryd.prog 34 n c108_3
         [(0, AV.sl 2 (Seq.map T.encS ((0 : Int), (0 : Int)) a) Tip.none),
         (1, AV.sl 2 (Seq.map T.encS ((0 : Int), (0 : Int)) b) Tip.none), (2, AV.fn (111 : FuncId) []),
         (7, AV.sl 0 (Seq.raw []) Tip.nil), (8, AV.int IntKind.i64 (if x_1 < x then x_1 else x))]
         [] (q108_2 n Post)) ∨
         ∃ (x_5 : List T.Span),
         r = AV.msl 2 0 0 (List.length x_5) ∧
         H' = [] ∧
         AWP Tryd.prog 34 n c108_3
         [(0, AV.sl 2 (Seq.map T.encS ((0 : Int), (0 : Int)) a) Tip.none),
         (1, AV.sl 2 (Seq.map T.encS ((0 : Int), (0 : Int)) b) Tip.none), (2, AV.fn (111 : FuncId) []),
         (7, AV.msl 2 0 0 (List.length x_5)), (8, AV.int IntKind.i64 (if x_1 < x then x_1 else x))]
         [] (q108_2 n Post))
         (AWP Tryd.prog 34 n c108_3
         [(0, AV.sl 2 (Seq.map T.encS ((0 : Int), (0 : Int)) a) Tip.none),
         (1, AV.sl 2 (Seq.map T.encS ((0 : Int), (0 : Int)) b) Tip.none), (2, AV.fn (111 : FuncId) []),
         (7, AV.sl 0 (Seq.raw []) Tip.nil), (8, AV.int IntKind.i64 (if x_1 < x then x_1 else x))]
         [] (q108_2 n Post)))
      (AWP Tryd.prog 34 n c108_8 [(7, AV.sl 0 (Seq.raw []) Tip.nil)] [] (q108_0 n Post)) →
    AWP Tryd.prog 34 n c108_3
      [(0, AV.sl 2 (Seq.map T.encS ((0 : Int), (0 : Int)) a) Tip.none), (1, AV.sl 2 (Seq.map T.encS ((0 : Int), (0 : Int)) b) Tip.none),
        (2, AV.fn (111 : FuncId) []), (7, AV.sl 0 (Seq.raw []) Tip.nil), (8, AV.int IntKind.i64 p)]
      [] (q108_2 n Post) := fun a b p n Post h => Go.Ab.AWP.loop' g108 (Cfg.live g108) c108_3 (by kernel_rfl) (by kernel_rfl) (Go.Ab.kc (by kernel_rfl) h)
theorem v108_3mu : ∀ (a b o : List T.Span) (k : Nat) (p : Int) (n : Nat) (Post : AV → List AObj → Prop),
  condP (decide (p < (1000000000 : Int)))
      (ASpec Tryd.prog 138 [AV.sl 2 (Seq.map T.encS ((0 : Int), (0 : Int)) a) Tip.none, AV.int IntKind.i64 p] [AObj.arr 2 (Seq.map T.encS ((0 : Int), (0 : Int)) o)]
        fun (r : AV) (H' : List AObj) =>
        ∃ (x : Int),
         r = AV.int IntKind.i64 x ∧
         H' = [AObj.arr 2 (Seq.map T.encS ((0 : Int), (0 : Int)) o)] ∧
         ASpec Tryd.prog 138 [AV.sl 2 (Seq.map T.encS ((0 : Int), (0 : Int)) b) Tip.none, AV.int IntKind.i64 p] [AObj.arr 2 (Seq.map T.encS ((0 : Int), (0 : Int)) o)]
         fun (r : AV) (H' : List AObj) =>
         ∃ (x_1 : Int),
         r = AV.int IntKind.i64 x_1 ∧
         H' = [AObj.arr 2 (Seq.map T.encS ((0 : Int), (0 : Int)) o)] ∧
         ASpec Tryd.prog 66 [AV.sl 2 (Seq.map T.encS ((0 : Int), (0 : Int)) a) Tip.none, AV.int IntKind.i64 p]
         [AObj.arr 2 (Seq.map T.encS ((0 : Int), (0 : Int)) o)] fun (r : AV) (H' : List AObj) =>
         ∃ (x_2 : Bool),
         r = AV.bool x_2 ∧
         H' = [AObj.arr 2 (Seq.map T.encS ((0 : Int), (0 : Int)) o)] ∧
         ASpec Tryd.prog 66 [AV.sl 2 (Seq.map T.encS ((0 : Int), (0 : Int)) b) Tip.none, AV.int IntKind.i64 p]
         [AObj.arr 2 (Seq.map T.encS ((0 : Int), (0 : Int)) o)] fun (r : AV) (H' : List AObj) =>
         ∃ (x_3 : Bool),
         r = AV.bool x_3 ∧
         H' = [AObj.arr 2 (Seq.map T.encS ((0 : Int), (0 : Int)) o)] ∧
         ASpec Tryd.prog 111 [AV.bool x_2, AV.bool x_3] [AObj.arr 2 (Seq.map T.encS ((0 : Int), (0 : Int)) o)] fun (r : AV) (H' : List AObj) =>
         ∃ (x_4 : Bool),
         r = AV.bool x_4 ∧
         H' = [AObj.arr 2 (Seq.map T.encS ((0 : Int), (0 : Int)) o)] ∧
         condP x_4
         (ASpec Tryd.prog 139 [AV.msl 2 0 0 k, AV.agg [AV.int IntKind.i64 p, AV.int IntKind.i64 (if x_1 < x then x_1 else x)]]
         [AObj.arr 2 (Seq.map T.encS ((0 : Int), (0 : Int)) o)] fun (r : AV) (H' : List AObj) =>
         (∃ (x_5 : Int × Int),
         r = AV.msl 2 1 0 1 ∧
         H' = [AObj.arr 2 (Seq.map T.encS ((0 : Int), (0 : Int)) o), AObj.arr 2 (Seq.map T.encS ((0 : Int), (0 : Int)) [x_5])] ∧
         AWP Tryd.prog 34 n c108_3
         [(0, AV.sl 2 (Seq.map T.encS ((0 : Int), (0 : Int)) a) Tip.none),
         (1, AV.sl 2 (Seq.map T.encS ((0 : Int), (0 : Int)) b) Tip.none), (2, AV.fn (111 : FuncId) []),
         (7, AV.msl 2 1 0 1), (8, AV.int IntKind.i64 (if x_1 < x then x_1 else x))]
         [AObj.arr 2 (Seq.map T.encS ((0 : Int), (0 : Int)) o), AObj.arr 2 (Seq.map T.encS ((0 : Int), (0 : Int)) [x_5])]
         (q108_2 n Post)) ∨
         (∃ (x_5 : List T.Span),
         r = AV.msl 2 0 0 k ∧
         H' = [AObj.arr 2 (Seq.map T.encS ((0 : Int), (0 : Int)) x_5)] ∧
         AWP Tryd.prog 34 n c108_3
         [(0, AV.sl 2 (Seq.map T.encS ((0 : Int), (0 : Int)) a) Tip.none),
         (1, AV.sl 2 (Seq.map T.encS ((0 : Int), (0 : Int)) b) Tip.none), (2, AV.fn (111 : FuncId) []),
         (7, AV.msl 2 0 0 k), (8, AV.int IntKind.i64 (if x_1 < x then x_1 else x))]
         [AObj.arr 2 (Seq.map T.encS ((0 : Int), (0 : Int)) x_5)] (q108_2 n Post)) ∨
         ∃ (x_5 : List T.Span),
         r = AV.msl 2 1 0 (List.length x_5) ∧
         H' = [AObj.gone, AObj.arr 2 (Seq.map T.encS ((0 : Int), (0 : Int)) x_5)] ∧
         AWP Tryd.prog 34 n c108_3
         [(0, AV.sl 2 (Seq.map T.encS ((0 : Int), (0 : Int)) a) Tip.none),
         (1, AV.sl 2 (Seq.map T.encS ((0 : Int), (0 : Int)) b) Tip.none), (2, AV.fn (111 : FuncId) []),
         (7, AV.msl 2 1 0 (List.length x_5)), (8, AV.int IntKind.i64 (if x_1 < x then x_1 else x))]
         [AObj.gone, AObj.arr 2 (Seq.map T.encS ((0 : Int), (0 : Int)) x_5)] (q108_2 n Post))
         (AWP Tryd.prog 34 n c108_3
         [(0, AV.sl 2 (Seq.map T.encS ((0 : Int), (0 : Int)) a) Tip.none),
         (1, AV.sl 2 (Seq.map T.encS ((0 : Int), (0 : Int)) b) Tip.none), (2, AV.fn (111 : FuncId) []),
         (7, AV.msl 2 0 0 k), (8, AV.int IntKind.i64 (if x_1 < x then x_1 else x))]
         [AObj.arr 2 (Seq.map T.encS ((0 : Int), (0 : Int)) o)] (q108_2 n Post)))
      (AWP Tryd.prog 34 n c108_8 [(7, AV.msl 2 0 0 k)] [AObj.arr 2 (Seq.map T.encS ((0 : Int), (0 : Int)) o)] (q108_0 n Post)) →
    AWP Tryd.prog 34 n c108_3
      [(0, AV.sl 2 (Seq.map T.encS ((0 : Int), (0 : Int)) a) Tip.none), (1, AV.sl 2 (Seq.map T.encS ((0 : Int), (0 : Int)) b) Tip.none),
        (2, AV.fn (111 : FuncId) []), (7, AV.msl 2 0 0 k), (8, AV.int IntKind.i64 p)]
      [AObj.arr 2 (Seq.map T.encS ((0 : Int), (0 : Int)) o)] (q108_2 n Post) := fun a b o k p n Post h => Go.Ab.AWP.loop' g108 (Cfg.live g108) c108_3 (by kernel_rfl) (by kernel_rfl) (Go.Ab.kc (by kernel_rfl) h)
theorem v108_3no : ∀ (a b : List T.Span) (p : Int) (n : Nat) (Post : AV → List AObj → Prop),
  condP (decide (p < (1000000000 : Int)))
      (ASpec Tryd.prog 138 [AV.sl 2 (Seq.map T.encS ((0 : Int), (0 : Int)) a) Tip.none, AV.int IntKind.i64 p] [] fun (r : AV) (H' : List AObj) =>
        ∃ (x : Int),
         r = AV.int IntKind.i64 x ∧
         H' = [] ∧
         ASpec Tryd.prog 138 [AV.sl 2 (Seq.map T.encS ((0 : Int), (0 : Int)) b) Tip.none, AV.int IntKind.i64 p] [] fun (r : AV) (H' : List AObj) =>
         ∃ (x_1 : Int),
         r = AV.int IntKind.i64 x_1 ∧
         H' = [] ∧
         ASpec Tryd.prog 66 [AV.sl 2 (Seq.map T.encS ((0 : Int), (0 : Int)) a) Tip.none, AV.int IntKind.i64 p] [] fun (r : AV) (H' : List AObj) =>
         ∃ (x_2 : Bool),
         r = AV.bool x_2 ∧
         H' = [] ∧
         ASpec Tryd.prog 66 [AV.sl 2 (Seq.map T.encS ((0 : Int), (0 : Int)) b) Tip.none, AV.int IntKind.i64 p] [] fun (r : AV) (H' : List AObj) =>
         ∃ (x_3 : Bool),
         r = AV.bool x_3 ∧
         H' = [] ∧
         ASpec Tryd.prog 109 [AV.bool x_2, AV.bool x_3] [] fun (r : AV) (H' : List AObj) =>
         ∃ (x_4 : Bool),
         r = AV.bool x_4 ∧
         H' = [] ∧
         condP x_4
         (ASpec Tryd.prog 139 [AV.sl 0 (Seq.raw []) Tip.nil, AV.agg [AV.int IntKind.i64 p, AV.int IntKind.i64 (if x_1 < x then x_1 else x)]] []
         fun (r : AV) (H' : List AObj) =>
         (∃ (x_5 : Int × Int),
         r = AV.msl 2 0 0 1 ∧
         H' = [AObj.arr 2 (Seq.map T.encS ((0 : Int), (0 : Int)) [x_5])] ∧
         AWP Tryd.prog 34 n c108_3
         [(0, AV.sl 2 (Seq.map T.encS ((0 : Int), (0 : Int)) a) Tip.none),
         (1, AV.sl 2 (Seq.map T.encS ((0 : Int), (0 : Int)) b) Tip.none), (2, AV.fn (109 : FuncId) []),
         (7, AV.msl 2 0 0 1), (8, AV.int IntKind.i64 (if x_1 < x then x_1 else x))]
         [AObj.arr 2 (Seq.map T.encS ((0 : Int), (0 : Int)) [x_5])] (q108_2 n Post)) ∨
         (∃ (x_5 : List T.Span),
         r = AV.sl 0 (Seq.raw []) Tip.nil ∧
         H' = [] ∧
         AWP Tryd.prog 34 n c108_3
         [(0, AV.sl 2 (Seq.map T.encS ((0 : Int), (0 : Int)) a) Tip.none),
         (1, AV.sl 2 (Seq.map T.encS ((0 : Int), (0 : Int)) b) Tip.none), (2, AV.fn (109 : FuncId) []),
         (7, AV.sl 0 (Seq.raw []) Tip.nil), (8, AV.int IntKind.i64 (if x_1 < x then x_1 else x))]
         [] (q108_2 n Post)) ∨
         ∃ (x_5 : List T.Span),
         r = AV.msl 2 0 0 (List.length x_5) ∧
         H' = [] ∧
         AWP Tryd.prog 34 n c108_3
         [(0, AV.sl 2 (Seq.map T.encS ((0 : Int), (0 : Int)) a) Tip.none),
         (1, AV.sl 2 (Seq.map T.encS ((0 : Int), (0 : Int)) b) Tip.none), (2, AV.fn (109 : FuncId) []),
         (7, AV.msl 2 0 0 (List.length x_5)), (8, AV.int IntKind.i64 (if x_1 < x then x_1 else x))]
         [] (q108_2 n Post))
         (AWP Tryd.prog 34 n c108_3
         [(0, AV.sl 2 (Seq.map T.encS ((0 : Int), (0 : Int)) a) Tip.none),
         (1, AV.sl 2 (Seq.map T.encS ((0 : Int), (0 : Int)) b) Tip.none), (2, AV.fn (109 : FuncId) []),
         (7, AV.sl 0 (Seq.raw []) Tip.nil), (8, AV.int IntKind.i64 (if x_1 < x then x_1 else x))]
         [] (q108_2 n Post)))
      (AWP Tryd.prog 34 n c108_8 [(7, AV.sl 0 (Seq.raw []) Tip.nil)] [] (q108_0 n Post)) →
    AWP Tryd.prog 34 n c108_3
      [(0, AV.sl 2 (Seq.map T.encS ((0 : Int), (0 : Int)) a) Tip.none), (1, AV.sl 2 (Seq.map T.encS ((0 : Int), (0 : Int)) b) Tip.none),
        (2, AV.fn (109 : FuncId) []), (7, AV.sl 0 (Seq.raw []) Tip.nil), (8, AV.int IntKind.i64 p)]
      [] (q108_2 n Post) := fun a b p n Post h => Go.Ab.AWP.loop' g108 (Cfg.live g108) c108_3 (by kernel_rfl) (by kernel_rfl) (Go.Ab.kc (by kernel_rfl) h)
theorem v108_3mo : ∀ (a b o : List T.Span) (k : Nat) (p : Int) (n : Nat) (Post : AV → List AObj → Prop),
  condP (decide (p < (1000000000 : Int)))
      (ASpec Tryd.prog 138 [AV.sl 2 (Seq.map T.encS ((0 : Int), (0 : Int)) a) Tip.none, AV.int IntKind.i64 p] [AObj.arr 2 (Seq.map T.encS ((0 : Int), (0 : Int)) o)]
        fun (r : AV) (H' : List AObj) =>
        ∃ (x : Int),
         r = AV.int IntKind.i64 x ∧
         H' = [AObj.arr 2 (Seq.map T.encS ((0 : Int), (0 : Int)) o)] ∧
         ASpec Tryd.prog 138 [AV.sl 2 (Seq.map T.encS ((0 : Int), (0 : Int)) b) Tip.none, AV.int IntKind.i64 p] [AObj.arr 2 (Seq.map T.encS ((0 : Int), (0 : Int)) o)]
         fun (r : AV) (H' : List AObj) =>
         ∃ (x_1 : Int),
         r = AV.int IntKind.i64 x_1 ∧
         H' = [AObj.arr 2 (Seq.map T.encS ((0 : Int), (0 : Int)) o)] ∧
         ASpec Tryd.prog 66 [AV.sl 2 (Seq.map T.encS ((0 : Int), (0 : Int)) a) Tip.none, AV.int IntKind.i64 p]
         [AObj.arr 2 (Seq.map T.encS ((0 : Int), (0 : Int)) o)] fun (r : AV) (H' : List AObj) =>
         ∃ (x_2 : Bool),
         r = AV.bool x_2 ∧
         H' = [AObj.arr 2 (Seq.map T.encS ((0 : Int), (0 : Int)) o)] ∧
         ASpec Tryd.prog 66 [AV.sl 2 (Seq.map T.encS ((0 : Int), (0 : Int)) b) Tip.none, AV.int IntKind.i64 p]
         [AObj.arr 2 (Seq.map T.encS ((0 : Int), (0 : Int)) o)] fun (r : AV) (H' : List AObj) =>
         ∃ (x_3 : Bool),
         r = AV.bool x_3 ∧
         H' = [AObj.arr 2 (Seq.map T.encS ((0 : Int), (0 : Int)) o)] ∧
         ASpec Tryd.prog 109 [AV.bool x_2, AV.bool x_3] [AObj.arr 2 (Seq.map T.encS ((0 : Int), (0 : Int)) o)] fun (r : AV) (H' : List AObj) =>
         ∃ (x_4 : Bool),
         r = AV.bool x_4 ∧
         H' = [AObj.arr 2 (Seq.map T.encS ((0 : Int), (0 : Int)) o)] ∧
         condP x_4
         (ASpec Tryd.prog 139 [AV.msl 2 0 0 k, AV.agg [AV.int IntKind.i64 p, AV.int IntKind.i64 (if x_1 < x then x_1 else x)]]
         [AObj.arr 2 (Seq.map T.encS ((0 : Int), (0 : Int)) o)] fun (r : AV) (H' : List AObj) =>
         (∃ (x_5 : Int × Int),
         r = AV.msl 2 1 0 1 ∧
         H' = [AObj.arr 2 (Seq.map T.encS ((0 : Int), (0 : Int)) o), AObj.arr 2 (Seq.map T.encS ((0 : Int), (0 : Int)) [x_5])] ∧
         AWP Tryd.prog 34 n c108_3
         [(0, AV.sl 2 (Seq.map T.encS ((0 : Int), (0 : Int)) a) Tip.none),
         (1, AV.sl 2 (Seq.map T.encS ((0 : Int), (0 : Int)) b) Tip.none), (2, AV.fn (109 : FuncId) []),
         (7, AV.msl 2 1 0 1), (8, AV.int IntKind.i64 (if x_1 < x then x_1 else x))]
         [AObj.arr 2 (Seq.map T.encS ((0 : Int), (0 : Int)) o), AObj.arr 2 (Seq.map T.encS ((0 : Int), (0 : Int)) [x_5])]
         (q108_2 n Post)) ∨
         (∃ (x_5 : List T.Span),
         r = AV.msl 2 0 0 k ∧
         H' = [AObj.arr 2 (Seq.map T.encS ((0 : Int), (0 : Int)) x_5)] ∧
         AWP Tryd.prog 34 n c108_3
         [(0, AV.sl 2 (Seq.map T.encS ((0 : Int), (0 : Int)) a) Tip.none),
         (1, AV.sl 2 (Seq.map T.encS ((0 : Int), (0 : Int)) b) Tip.none), (2, AV.fn (109 : FuncId) []),
         (7, AV.msl 2 0 0 k), (8, AV.int IntKind.i64 (if x_1 < x then x_1 else x))]
         [AObj.arr 2 (Seq.map T.encS ((0 : Int), (0 : Int)) x_5)] (q108_2 n Post)) ∨
         ∃ (x_5 : List T.Span),
         r = AV.msl 2 1 0 (List.length x_5) ∧
         H' = [AObj.gone, AObj.arr 2 (Seq.map T.encS ((0 : Int), (0 : Int)) x_5)] ∧
         AWP Tryd.prog 34 n c108_3
         [(0, AV.sl 2 (Seq.map T.encS ((0 : Int), (0 : Int)) a) Tip.none),
         (1, AV.sl 2 (Seq.map T.encS ((0 : Int), (0 : Int)) b) Tip.none), (2, AV.fn (109 : FuncId) []),
         (7, AV.msl 2 1 0 (List.length x_5)), (8, AV.int IntKind.i64 (if x_1 < x then x_1 else x))]
         [AObj.gone, AObj.arr 2 (Seq.map T.encS ((0 : Int), (0 : Int)) x_5)] (q108_2 n Post))
         (AWP Tryd.prog 34 n c108_3
         [(0, AV.sl 2 (Seq.map T.encS ((0 : Int), (0 : Int)) a) Tip.none),
         (1, AV.sl 2 (Seq.map T.encS ((0 : Int), (0 : Int)) b) Tip.none), (2, AV.fn (109 : FuncId) []),
         (7, AV.msl 2 0 0 k), (8, AV.int IntKind.i64 (if x_1 < x then x_1 else x))]
         [AObj.arr 2 (Seq.map T.encS ((0 : Int), (0 : Int)) o)] (q108_2 n Post)))
      (AWP Tryd.prog 34 n c108_8 [(7, AV.msl 2 0 0 k)] [AObj.arr 2 (Seq.map T.encS ((0 : Int), (0 : Int)) o)] (q108_0 n Post)) →
    AWP Tryd.prog 34 n c108_3
      [(0, AV.sl 2 (Seq.map T.encS ((0 : Int), (0 : Int)) a) Tip.none), (1, AV.sl 2 (Seq.map T.encS ((0 : Int), (0 : Int)) b) Tip.none),
        (2, AV.fn (109 : FuncId) []), (7, AV.msl 2 0 0 k), (8, AV.int IntKind.i64 p)]
      [AObj.arr 2 (Seq.map T.encS ((0 : Int), (0 : Int)) o)] (q108_2 n Post) := fun a b o k p n Post h => Go.Ab.AWP.loop' g108 (Cfg.live g108) c108_3 (by kernel_rfl) (by kernel_rfl) (Go.Ab.kc (by kernel_rfl) h)
theorem v108_8n : ∀ (n : Nat) (Post : AV → List AObj → Prop), Post (AV.sl 0 (Seq.raw []) Tip.nil) [] → AWP Tryd.prog 34 n c108_8 [(7, AV.sl 0 (Seq.raw []) Tip.nil)] [] (q108_0 n Post) := fun n Post h => Go.Ab.awp_sound g108 n _ _ _ _ (Go.Ab.kc (by kernel_rfl) h)
theorem v108_8s : ∀ (o : List T.Span) (n : Nat) (Post : AV → List AObj → Prop),
  Post (AV.sl 2 (Seq.map T.encS ((0 : Int), (0 : Int)) o) Tip.none) [] →
    AWP Tryd.prog 34 n c108_8 [(7, AV.sl 2 (Seq.map T.encS ((0 : Int), (0 : Int)) o) Tip.none)] [] (q108_0 n Post) := fun o n Post h => Go.Ab.awp_sound g108 n _ _ _ _ (Go.Ab.kc (by kernel_rfl) h)

-- 52
noncomputable def l52 : Nat → List Nat
  | _ => []
noncomputable def u52 : Nat → Bool
  | _ => false
noncomputable def m52 : Nat → Bool
  | _ => false
noncomputable def g52 : Cfg := { N := 5, live := l52, cut := u52, mu := m52, ret := rets }
theorem s52 : ∀ (l : List T.Span) (Post : AV → List AObj → Prop),
  (ASpec Tryd.prog 108 [AV.sl 2 (Seq.map T.encS ((0 : Int), (0 : Int)) l) Tip.none, AV.sl 0 (Seq.raw []) Tip.nil, AV.fn 109 []] [] fun (r : AV) (H' : List AObj) =>
      ∃ (x : List T.Span), r = AV.sl 2 (Seq.map T.encS ((0 : Int), (0 : Int)) x) Tip.none ∧ H' = [] ∧ Post (AV.sl 2 (Seq.map T.encS ((0 : Int), (0 : Int)) x) Tip.none) []) →
    ASpec Tryd.prog 52 [AV.sl 2 (Seq.map T.encS ((0 : Int), (0 : Int)) l) Tip.none] [] Post := fun l Post h => Go.Ab.ASpec.of_vc g52 Go.Proofs.Tryd.func52 (by kernel_rfl) (by kernel_rfl) (by kernel_rfl) (Go.Ab.kc (by kernel_rfl) h)

-- 56
noncomputable def l56 : Nat → List Nat
  | _ => []
noncomputable def u56 : Nat → Bool
  | _ => false
noncomputable def m56 : Nat → Bool
  | _ => false
noncomputable def g56 : Cfg := { N := 8, live := l56, cut := u56, mu := m56, ret := rets }
theorem s56 : ∀ (a b : List T.Span) (Post : AV → List AObj → Prop),
  (ASpec Tryd.prog 108 [AV.sl 2 (Seq.map T.encS ((0 : Int), (0 : Int)) a) Tip.none, AV.sl 2 (Seq.map T.encS ((0 : Int), (0 : Int)) b) Tip.none, AV.fn 111 []] []
      fun (r : AV) (H' : List AObj) =>
      ∃ (x : List T.Span), r = AV.sl 2 (Seq.map T.encS ((0 : Int), (0 : Int)) x) Tip.none ∧ H' = [] ∧ Post (AV.sl 2 (Seq.map T.encS ((0 : Int), (0 : Int)) x) Tip.none) []) →
    ASpec Tryd.prog 56 [AV.sl 2 (Seq.map T.encS ((0 : Int), (0 : Int)) a) Tip.none, AV.sl 2 (Seq.map T.encS ((0 : Int), (0 : Int)) b) Tip.none] [] Post := fun a b Post h => Go.Ab.ASpec.of_vc g56 Go.Proofs.Tryd.func56 (by kernel_rfl) (by kernel_rfl) (by kernel_rfl) (Go.Ab.kc (by kernel_rfl) h)

-- 53
noncomputable def l53 : Nat → List Nat
  | _ => []
noncomputable def u53 : Nat → Bool
  | _ => false
noncomputable def m53 : Nat → Bool
  | _ => false
noncomputable def g53 : Cfg := { N := 25, live := l53, cut := u53, mu := m53, ret := rets }
theorem s53m : ∀ (a b : T.Term) (n : Bool) (Post : AV → List AObj → Prop),
  condP (!ByteArray.toList { data := List.toArray (Prod.fst a) } == ByteArray.toList { data := List.toArray (Prod.fst b) })
      (Post (AV.agg [AV.str { data := #[] }, AV.sl 0 (Seq.raw []) Tip.nil, AV.bool false])
        [AObj.cells [AV.str { data := List.toArray (Prod.fst a) }, AV.sl 2 (Seq.map T.encS ((0 : Int), (0 : Int)) (Prod.fst (Prod.snd a))) Tip.none, AV.bool (Prod.snd (Prod.snd a))],
         AObj.cells [AV.str { data := List.toArray (Prod.fst b) }, AV.sl 2 (Seq.map T.encS ((0 : Int), (0 : Int)) (Prod.fst (Prod.snd b))) Tip.none, AV.bool (Prod.snd (Prod.snd b))],
         AObj.cells [AV.str { data := #[] }, AV.sl 0 (Seq.raw []) Tip.nil, AV.bool false]])
      (ASpec Tryd.prog 54
        [AV.sl 2 (Seq.map T.encS ((0 : Int), (0 : Int)) (Prod.fst (Prod.snd a))) Tip.none, AV.sl 2 (Seq.map T.encS ((0 : Int), (0 : Int)) (Prod.fst (Prod.snd b))) Tip.none]
        [AObj.cells [AV.str { data := List.toArray (Prod.fst a) }, AV.sl 2 (Seq.map T.encS ((0 : Int), (0 : Int)) (Prod.fst (Prod.snd a))) Tip.none, AV.bool (Prod.snd (Prod.snd a))],
         AObj.cells [AV.str { data := List.toArray (Prod.fst b) }, AV.sl 2 (Seq.map T.encS ((0 : Int), (0 : Int)) (Prod.fst (Prod.snd b))) Tip.none, AV.bool (Prod.snd (Prod.snd b))],
         AObj.cells [AV.str { data := #[] }, AV.sl 0 (Seq.raw []) Tip.nil, AV.bool false]]
        fun (r : AV) (H' : List AObj) =>
        ∃ (x : List T.Span),
         r = AV.sl 2 (Seq.map T.encS ((0 : Int), (0 : Int)) x) Tip.none ∧
         H' =
         [AObj.cells [AV.str { data := List.toArray (Prod.fst a) }, AV.sl 2 (Seq.map T.encS ((0 : Int), (0 : Int)) (Prod.fst (Prod.snd a))) Tip.none, AV.bool (Prod.snd (Prod.snd a))],
         AObj.cells [AV.str { data := List.toArray (Prod.fst b) }, AV.sl 2 (Seq.map T.encS ((0 : Int), (0 : Int)) (Prod.fst (Prod.snd b))) Tip.none, AV.bool (Prod.snd (Prod.snd b))],
         AObj.cells [AV.str { data := #[] }, AV.sl 0 (Seq.raw []) Tip.nil, AV.bool false]] ∧
         (AV.str { data := List.toArray (Prod.fst a) } = AV.str { data := List.toArray (Prod.fst a) } ∧
         [AObj.cells [AV.str { data := List.toArray (Prod.fst a) }, AV.sl 2 (Seq.map T.encS ((0 : Int), (0 : Int)) (Prod.fst (Prod.snd a))) Tip.none, AV.bool (Prod.snd (Prod.snd a))],
         AObj.cells
         [AV.str { data := List.toArray (Prod.fst b) }, AV.sl 2 (Seq.map T.encS ((0 : Int), (0 : Int)) (Prod.fst (Prod.snd b))) Tip.none, AV.bool (Prod.snd (Prod.snd b))],
         AObj.cells [AV.str { data := #[] }, AV.sl 0 (Seq.raw []) Tip.nil, AV.bool false]] =
         [AObj.cells
         [AV.str { data := List.toArray (Prod.fst a) }, AV.sl 2 (Seq.map T.encS ((0 : Int), (0 : Int)) (Prod.fst (Prod.snd a))) Tip.none, AV.bool (Prod.snd (Prod.snd a))],
         AObj.cells
         [AV.str { data := List.toArray (Prod.fst b) }, AV.sl 2 (Seq.map T.encS ((0 : Int), (0 : Int)) (Prod.fst (Prod.snd b))) Tip.none, AV.bool (Prod.snd (Prod.snd b))],
         AObj.cells [AV.str { data := #[] }, AV.sl 0 (Seq.raw []) Tip.nil, AV.bool false]]) ∧
         Post (AV.agg [AV.str { data := List.toArray (Prod.fst a) }, AV.sl 2 (Seq.map T.encS ((0 : Int), (0 : Int)) x) Tip.none, AV.bool n])
         [AObj.cells [AV.str { data := List.toArray (Prod.fst a) }, AV.sl 2 (Seq.map T.encS ((0 : Int), (0 : Int)) (Prod.fst (Prod.snd a))) Tip.none, AV.bool (Prod.snd (Prod.snd a))],
         AObj.cells
         [AV.str { data := List.toArray (Prod.fst b) }, AV.sl 2 (Seq.map T.encS ((0 : Int), (0 : Int)) (Prod.fst (Prod.snd b))) Tip.none, AV.bool (Prod.snd (Prod.snd b))],
         AObj.cells [AV.str { data := List.toArray (Prod.fst a) }, AV.sl 2 (Seq.map T.encS ((0 : Int), (0 : Int)) x) Tip.none, AV.bool n]]) →
    ASpec Tryd.prog 53 [AV.agg (T.encT a), AV.agg (T.encT b), AV.fn (54 : FuncId) [], AV.bool n] [] Post := fun a b n Post h => Go.Ab.ASpec.of_vc g53 Go.Proofs.Tryd.func53 (by kernel_rfl) (by kernel_rfl) (by kernel_rfl) (Go.Ab.kc (by kernel_rfl) h)
theorem s53j : ∀ (a b : T.Term) (n : Bool) (Post : AV → List AObj → Prop),
  condP (!ByteArray.toList { data := List.toArray (Prod.fst a) } == ByteArray.toList { data := List.toArray (Prod.fst b) })
      (Post (AV.agg [AV.str { data := #[] }, AV.sl 0 (Seq.raw []) Tip.nil, AV.bool false])
        [AObj.cells [AV.str { data := List.toArray (Prod.fst a) }, AV.sl 2 (Seq.map T.encS ((0 : Int), (0 : Int)) (Prod.fst (Prod.snd a))) Tip.none, AV.bool (Prod.snd (Prod.snd a))],
         AObj.cells [AV.str { data := List.toArray (Prod.fst b) }, AV.sl 2 (Seq.map T.encS ((0 : Int), (0 : Int)) (Prod.fst (Prod.snd b))) Tip.none, AV.bool (Prod.snd (Prod.snd b))],
         AObj.cells [AV.str { data := #[] }, AV.sl 0 (Seq.raw []) Tip.nil, AV.bool false]])
      (ASpec Tryd.prog 56
        [AV.sl 2 (Seq.map T.encS ((0 : Int), (0 : Int)) (Prod.fst (Prod.snd a))) Tip.none, AV.sl 2 (Seq.map T.encS ((0 : Int), (0 : Int)) (Prod.fst (Prod.snd b))) Tip.none]
        [AObj.cells [AV.str { data := List.toArray (Prod.fst a) }, AV.sl 2 (Seq.map T.encS ((0 : Int), (0 : Int)) (Prod.fst (Prod.snd a))) Tip.none, AV.bool (Prod.snd (Prod.snd a))],
         AObj.cells [AV.str { data := List.toArray (Prod.fst b) }, AV.sl 2 (Seq.map T.encS ((0 : Int), (0 : Int)) (Prod.fst (Prod.snd b))) Tip.none, AV.bool (Prod.snd (Prod.snd b))],
         AObj.cells [AV.str { data := #[] }, AV.sl 0 (Seq.raw []) Tip.nil, AV.bool false]]
        fun (r : AV) (H' : List AObj) =>
        ∃ (x : List T.Span),
         r = AV.sl 2 (Seq.map T.encS ((0 : Int), (0 : Int)) x) Tip.none ∧
         H' =
         [AObj.cells [AV.str { data := List.toArray (Prod.fst a) }, AV.sl 2 (Seq.map T.encS ((0 : Int), (0 : Int)) (Prod.fst (Prod.snd a))) Tip.none, AV.bool (Prod.snd (Prod.snd a))],
         AObj.cells [AV.str { data := List.toArray (Prod.fst b) }, AV.sl 2 (Seq.map T.encS ((0 : Int), (0 : Int)) (Prod.fst (Prod.snd b))) Tip.none, AV.bool (Prod.snd (Prod.snd b))],
         AObj.cells [AV.str { data := #[] }, AV.sl 0 (Seq.raw []) Tip.nil, AV.bool false]] ∧
         (AV.str { data := List.toArray (Prod.fst a) } = AV.str { data := List.toArray (Prod.fst a) } ∧
         [AObj.cells [AV.str { data := List.toArray (Prod.fst a) }, AV.sl 2 (Seq.map T.encS ((0 : Int), (0 : Int)) (Prod.fst (Prod.snd a))) Tip.none, AV.bool (Prod.snd (Prod.snd a))],
         AObj.cells
         [AV.str { data := List.toArray (Prod.fst b) }, AV.sl 2 (Seq.map T.encS ((0 : Int), (0 : Int)) (Prod.fst (Prod.snd b))) Tip.none, AV.bool (Prod.snd (Prod.snd b))],
         AObj.cells [AV.str { data := #[] }, AV.sl 0 (Seq.raw []) Tip.nil, AV.bool false]] =
         [AObj.cells
         [AV.str { data := List.toArray (Prod.fst a) }, AV.sl 2 (Seq.map T.encS ((0 : Int), (0 : Int)) (Prod.fst (Prod.snd a))) Tip.none, AV.bool (Prod.snd (Prod.snd a))],
         AObj.cells
         [AV.str { data := List.toArray (Prod.fst b) }, AV.sl 2 (Seq.map T.encS ((0 : Int), (0 : Int)) (Prod.fst (Prod.snd b))) Tip.none, AV.bool (Prod.snd (Prod.snd b))],
         AObj.cells [AV.str { data := #[] }, AV.sl 0 (Seq.raw []) Tip.nil, AV.bool false]]) ∧
         Post (AV.agg [AV.str { data := List.toArray (Prod.fst a) }, AV.sl 2 (Seq.map T.encS ((0 : Int), (0 : Int)) x) Tip.none, AV.bool n])
         [AObj.cells [AV.str { data := List.toArray (Prod.fst a) }, AV.sl 2 (Seq.map T.encS ((0 : Int), (0 : Int)) (Prod.fst (Prod.snd a))) Tip.none, AV.bool (Prod.snd (Prod.snd a))],
         AObj.cells
         [AV.str { data := List.toArray (Prod.fst b) }, AV.sl 2 (Seq.map T.encS ((0 : Int), (0 : Int)) (Prod.fst (Prod.snd b))) Tip.none, AV.bool (Prod.snd (Prod.snd b))],
         AObj.cells [AV.str { data := List.toArray (Prod.fst a) }, AV.sl 2 (Seq.map T.encS ((0 : Int), (0 : Int)) x) Tip.none, AV.bool n]]) →
    ASpec Tryd.prog 53 [AV.agg (T.encT a), AV.agg (T.encT b), AV.fn (56 : FuncId) [], AV.bool n] [] Post := fun a b n Post h => Go.Ab.ASpec.of_vc g53 Go.Proofs.Tryd.func53 (by kernel_rfl) (by kernel_rfl) (by kernel_rfl) (Go.Ab.kc (by kernel_rfl) h)

-- 13
noncomputable def l13 : Nat → List Nat
  | _ => []
noncomputable def u13 : Nat → Bool
  | _ => false
noncomputable def m13 : Nat → Bool
  | _ => false
noncomputable def g13 : Cfg := { N := 14, live := l13, cut := u13, mu := m13, ret := rets }
theorem s13 : ∀ (a b : T.Term) (Post : AV → List AObj → Prop),
  condP (Prod.snd (Prod.snd a))
      (ASpec Tryd.prog 53
        [AV.agg [AV.str { data := List.toArray (Prod.fst a) }, AV.sl 2 (Seq.map T.encS ((0 : Int), (0 : Int)) (Prod.fst (Prod.snd a))) Tip.none, AV.bool (Prod.snd (Prod.snd a))],
         AV.agg [AV.str { data := List.toArray (Prod.fst b) }, AV.sl 2 (Seq.map T.encS ((0 : Int), (0 : Int)) (Prod.fst (Prod.snd b))) Tip.none, AV.bool (Prod.snd (Prod.snd b))],
         AV.fn 54 [], AV.bool (Prod.snd (Prod.snd b))]
        [AObj.cells [AV.str { data := List.toArray (Prod.fst a) }, AV.sl 2 (Seq.map T.encS ((0 : Int), (0 : Int)) (Prod.fst (Prod.snd a))) Tip.none, AV.bool (Prod.snd (Prod.snd a))],
         AObj.cells [AV.str { data := List.toArray (Prod.fst b) }, AV.sl 2 (Seq.map T.encS ((0 : Int), (0 : Int)) (Prod.fst (Prod.snd b))) Tip.none, AV.bool (Prod.snd (Prod.snd b))],
         AObj.cells [AV.str { data := #[] }, AV.sl 0 (Seq.raw []) Tip.nil, AV.bool false]]
        fun (r : AV) (H' : List AObj) =>
        ∃ (x : List UInt8 × List T.Span × Bool),
         r = AV.agg [AV.str { data := List.toArray (Prod.fst x) }, AV.sl 2 (Seq.map T.encS ((0 : Int), (0 : Int)) (Prod.fst (Prod.snd x))) Tip.none, AV.bool (Prod.snd (Prod.snd x))] ∧
         H' =
         [AObj.cells [AV.str { data := List.toArray (Prod.fst a) }, AV.sl 2 (Seq.map T.encS ((0 : Int), (0 : Int)) (Prod.fst (Prod.snd a))) Tip.none, AV.bool (Prod.snd (Prod.snd a))],
         AObj.cells [AV.str { data := List.toArray (Prod.fst b) }, AV.sl 2 (Seq.map T.encS ((0 : Int), (0 : Int)) (Prod.fst (Prod.snd b))) Tip.none, AV.bool (Prod.snd (Prod.snd b))],
         AObj.cells [AV.str { data := #[] }, AV.sl 0 (Seq.raw []) Tip.nil, AV.bool false]] ∧
         Post (AV.agg [AV.str { data := List.toArray (Prod.fst x) }, AV.sl 2 (Seq.map T.encS ((0 : Int), (0 : Int)) (Prod.fst (Prod.snd x))) Tip.none, AV.bool (Prod.snd (Prod.snd x))])
         [AObj.cells [AV.str { data := List.toArray (Prod.fst a) }, AV.sl 2 (Seq.map T.encS ((0 : Int), (0 : Int)) (Prod.fst (Prod.snd a))) Tip.none, AV.bool (Prod.snd (Prod.snd a))],
         AObj.cells [AV.str { data := List.toArray (Prod.fst b) }, AV.sl 2 (Seq.map T.encS ((0 : Int), (0 : Int)) (Prod.fst (Prod.snd b))) Tip.none, AV.bool (Prod.snd (Prod.snd b))],
         AObj.cells [AV.str { data := List.toArray (Prod.fst x) }, AV.sl 2 (Seq.map T.encS ((0 : Int), (0 : Int)) (Prod.fst (Prod.snd x))) Tip.none, AV.bool (Prod.snd (Prod.snd x))]])
      (ASpec Tryd.prog 53
        [AV.agg [AV.str { data := List.toArray (Prod.fst a) }, AV.sl 2 (Seq.map T.encS ((0 : Int), (0 : Int)) (Prod.fst (Prod.snd a))) Tip.none, AV.bool (Prod.snd (Prod.snd a))],
         AV.agg [AV.str { data := List.toArray (Prod.fst b) }, AV.sl 2 (Seq.map T.encS ((0 : Int), (0 : Int)) (Prod.fst (Prod.snd b))) Tip.none, AV.bool (Prod.snd (Prod.snd b))],
         AV.fn 54 [], AV.bool false]
        [AObj.cells [AV.str { data := List.toArray (Prod.fst a) }, AV.sl 2 (Seq.map T.encS ((0 : Int), (0 : Int)) (Prod.fst (Prod.snd a))) Tip.none, AV.bool (Prod.snd (Prod.snd a))],
         AObj.cells [AV.str { data := List.toArray (Prod.fst b) }, AV.sl 2 (Seq.map T.encS ((0 : Int), (0 : Int)) (Prod.fst (Prod.snd b))) Tip.none, AV.bool (Prod.snd (Prod.snd b))],
         AObj.cells [AV.str { data := #[] }, AV.sl 0 (Seq.raw []) Tip.nil, AV.bool false]]
        fun (r : AV) (H' : List AObj) =>
        ∃ (x : List UInt8 × List T.Span × Bool),
         r = AV.agg [AV.str { data := List.toArray (Prod.fst x) }, AV.sl 2 (Seq.map T.encS ((0 : Int), (0 : Int)) (Prod.fst (Prod.snd x))) Tip.none, AV.bool (Prod.snd (Prod.snd x))] ∧
         H' =
         [AObj.cells [AV.str { data := List.toArray (Prod.fst a) }, AV.sl 2 (Seq.map T.encS ((0 : Int), (0 : Int)) (Prod.fst (Prod.snd a))) Tip.none, AV.bool (Prod.snd (Prod.snd a))],
         AObj.cells [AV.str { data := List.toArray (Prod.fst b) }, AV.sl 2 (Seq.map T.encS ((0 : Int), (0 : Int)) (Prod.fst (Prod.snd b))) Tip.none, AV.bool (Prod.snd (Prod.snd b))],
         AObj.cells [AV.str { data := #[] }, AV.sl 0 (Seq.raw []) Tip.nil, AV.bool false]] ∧
         Post (AV.agg [AV.str { data := List.toArray (Prod.fst x) }, AV.sl 2 (Seq.map T.encS ((0 : Int), (0 : Int)) (Prod.fst (Prod.snd x))) Tip.none, AV.bool (Prod.snd (Prod.snd x))])
         [AObj.cells [AV.str { data := List.toArray (Prod.fst a) }, AV.sl 2 (Seq.map T.encS ((0 : Int), (0 : Int)) (Prod.fst (Prod.snd a))) Tip.none, AV.bool (Prod.snd (Prod.snd a))],
         AObj.cells [AV.str { data := List.toArray (Prod.fst b) }, AV.sl 2 (Seq.map T.encS ((0 : Int), (0 : Int)) (Prod.fst (Prod.snd b))) Tip.none, AV.bool (Prod.snd (Prod.snd b))],
         AObj.cells
         [AV.str { data := List.toArray (Prod.fst x) }, AV.sl 2 (Seq.map T.encS ((0 : Int), (0 : Int)) (Prod.fst (Prod.snd x))) Tip.none, AV.bool (Prod.snd (Prod.snd x))]]) →
    ASpec Tryd.prog 13 [AV.agg (T.encT a), AV.agg (T.encT b)] [] Post := fun a b Post h => Go.Ab.ASpec.of_vc g13 Go.Proofs.Tryd.func13 (by kernel_rfl) (by kernel_rfl) (by kernel_rfl) (Go.Ab.kc (by kernel_rfl) h)

-- 15
noncomputable def l15 : Nat → List Nat
  | _ => []
noncomputable def u15 : Nat → Bool
  | _ => false
noncomputable def m15 : Nat → Bool
  | _ => false
noncomputable def g15 : Cfg := { N := 14, live := l15, cut := u15, mu := m15, ret := rets }
theorem s15 : ∀ (a b : T.Term) (Post : AV → List AObj → Prop),
  condP (Prod.snd (Prod.snd a))
      (ASpec Tryd.prog 53
        [AV.agg [AV.str { data := List.toArray (Prod.fst a) }, AV.sl 2 (Seq.map T.encS ((0 : Int), (0 : Int)) (Prod.fst (Prod.snd a))) Tip.none, AV.bool (Prod.snd (Prod.snd a))],
         AV.agg [AV.str { data := List.toArray (Prod.fst b) }, AV.sl 2 (Seq.map T.encS ((0 : Int), (0 : Int)) (Prod.fst (Prod.snd b))) Tip.none, AV.bool (Prod.snd (Prod.snd b))],
         AV.fn 56 [], AV.bool true]
        [AObj.cells [AV.str { data := List.toArray (Prod.fst a) }, AV.sl 2 (Seq.map T.encS ((0 : Int), (0 : Int)) (Prod.fst (Prod.snd a))) Tip.none, AV.bool (Prod.snd (Prod.snd a))],
         AObj.cells [AV.str { data := List.toArray (Prod.fst b) }, AV.sl 2 (Seq.map T.encS ((0 : Int), (0 : Int)) (Prod.fst (Prod.snd b))) Tip.none, AV.bool (Prod.snd (Prod.snd b))],
         AObj.cells [AV.str { data := #[] }, AV.sl 0 (Seq.raw []) Tip.nil, AV.bool false]]
        fun (r : AV) (H' : List AObj) =>
        ∃ (x : List UInt8 × List T.Span × Bool),
         r = AV.agg [AV.str { data := List.toArray (Prod.fst x) }, AV.sl 2 (Seq.map T.encS ((0 : Int), (0 : Int)) (Prod.fst (Prod.snd x))) Tip.none, AV.bool (Prod.snd (Prod.snd x))] ∧
         H' =
         [AObj.cells [AV.str { data := List.toArray (Prod.fst a) }, AV.sl 2 (Seq.map T.encS ((0 : Int), (0 : Int)) (Prod.fst (Prod.snd a))) Tip.none, AV.bool (Prod.snd (Prod.snd a))],
         AObj.cells [AV.str { data := List.toArray (Prod.fst b) }, AV.sl 2 (Seq.map T.encS ((0 : Int), (0 : Int)) (Prod.fst (Prod.snd b))) Tip.none, AV.bool (Prod.snd (Prod.snd b))],
         AObj.cells [AV.str { data := #[] }, AV.sl 0 (Seq.raw []) Tip.nil, AV.bool false]] ∧
         Post (AV.agg [AV.str { data := List.toArray (Prod.fst x) }, AV.sl 2 (Seq.map T.encS ((0 : Int), (0 : Int)) (Prod.fst (Prod.snd x))) Tip.none, AV.bool (Prod.snd (Prod.snd x))])
         [AObj.cells [AV.str { data := List.toArray (Prod.fst a) }, AV.sl 2 (Seq.map T.encS ((0 : Int), (0 : Int)) (Prod.fst (Prod.snd a))) Tip.none, AV.bool (Prod.snd (Prod.snd a))],
         AObj.cells [AV.str { data := List.toArray (Prod.fst b) }, AV.sl 2 (Seq.map T.encS ((0 : Int), (0 : Int)) (Prod.fst (Prod.snd b))) Tip.none, AV.bool (Prod.snd (Prod.snd b))],
         AObj.cells [AV.str { data := List.toArray (Prod.fst x) }, AV.sl 2 (Seq.map T.encS ((0 : Int), (0 : Int)) (Prod.fst (Prod.snd x))) Tip.none, AV.bool (Prod.snd (Prod.snd x))]])
      (ASpec Tryd.prog 53
        [AV.agg [AV.str { data := List.toArray (Prod.fst a) }, AV.sl 2 (Seq.map T.encS ((0 : Int), (0 : Int)) (Prod.fst (Prod.snd a))) Tip.none, AV.bool (Prod.snd (Prod.snd a))],
         AV.agg [AV.str { data := List.toArray (Prod.fst b) }, AV.sl 2 (Seq.map T.encS ((0 : Int), (0 : Int)) (Prod.fst (Prod.snd b))) Tip.none, AV.bool (Prod.snd (Prod.snd b))],
         AV.fn 56 [], AV.bool (Prod.snd (Prod.snd b))]
        [AObj.cells [AV.str { data := List.toArray (Prod.fst a) }, AV.sl 2 (Seq.map T.encS ((0 : Int), (0 : Int)) (Prod.fst (Prod.snd a))) Tip.none, AV.bool (Prod.snd (Prod.snd a))],
         AObj.cells [AV.str { data := List.toArray (Prod.fst b) }, AV.sl 2 (Seq.map T.encS ((0 : Int), (0 : Int)) (Prod.fst (Prod.snd b))) Tip.none, AV.bool (Prod.snd (Prod.snd b))],
         AObj.cells [AV.str { data := #[] }, AV.sl 0 (Seq.raw []) Tip.nil, AV.bool false]]
        fun (r : AV) (H' : List AObj) =>
        ∃ (x : List UInt8 × List T.Span × Bool),
         r = AV.agg [AV.str { data := List.toArray (Prod.fst x) }, AV.sl 2 (Seq.map T.encS ((0 : Int), (0 : Int)) (Prod.fst (Prod.snd x))) Tip.none, AV.bool (Prod.snd (Prod.snd x))] ∧
         H' =
         [AObj.cells [AV.str { data := List.toArray (Prod.fst a) }, AV.sl 2 (Seq.map T.encS ((0 : Int), (0 : Int)) (Prod.fst (Prod.snd a))) Tip.none, AV.bool (Prod.snd (Prod.snd a))],
         AObj.cells [AV.str { data := List.toArray (Prod.fst b) }, AV.sl 2 (Seq.map T.encS ((0 : Int), (0 : Int)) (Prod.fst (Prod.snd b))) Tip.none, AV.bool (Prod.snd (Prod.snd b))],
         AObj.cells [AV.str { data := #[] }, AV.sl 0 (Seq.raw []) Tip.nil, AV.bool false]] ∧
         Post (AV.agg [AV.str { data := List.toArray (Prod.fst x) }, AV.sl 2 (Seq.map T.encS ((0 : Int), (0 : Int)) (Prod.fst (Prod.snd x))) Tip.none, AV.bool (Prod.snd (Prod.snd x))])
         [AObj.cells [AV.str { data := List.toArray (Prod.fst a) }, AV.sl 2 (Seq.map T.encS ((0 : Int), (0 : Int)) (Prod.fst (Prod.snd a))) Tip.none, AV.bool (Prod.snd (Prod.snd a))],
         AObj.cells [AV.str { data := List.toArray (Prod.fst b) }, AV.sl 2 (Seq.map T.encS ((0 : Int), (0 : Int)) (Prod.fst (Prod.snd b))) Tip.none, AV.bool (Prod.snd (Prod.snd b))],
         AObj.cells
         [AV.str { data := List.toArray (Prod.fst x) }, AV.sl 2 (Seq.map T.encS ((0 : Int), (0 : Int)) (Prod.fst (Prod.snd x))) Tip.none, AV.bool (Prod.snd (Prod.snd x))]]) →
    ASpec Tryd.prog 15 [AV.agg (T.encT a), AV.agg (T.encT b)] [] Post := fun a b Post h => Go.Ab.ASpec.of_vc g15 Go.Proofs.Tryd.func15 (by kernel_rfl) (by kernel_rfl) (by kernel_rfl) (Go.Ab.kc (by kernel_rfl) h)

-- 11
noncomputable def l11 : Nat → List Nat
  | _ => []
noncomputable def u11 : Nat → Bool
  | _ => false
noncomputable def m11 : Nat → Bool
  | _ => false
noncomputable def g11 : Cfg := { N := 12, live := l11, cut := u11, mu := m11, ret := rets }
theorem s11 : ∀ (a : T.Term) (Post : AV → List AObj → Prop),
  (ASpec Tryd.prog 52 [AV.sl 2 (Seq.map T.encS ((0 : Int), (0 : Int)) (Prod.fst (Prod.snd a))) Tip.none]
      [AObj.cells [AV.str { data := List.toArray (Prod.fst a) }, AV.sl 2 (Seq.map T.encS ((0 : Int), (0 : Int)) (Prod.fst (Prod.snd a))) Tip.none, AV.bool (Prod.snd (Prod.snd a))],
        AObj.cells [AV.str { data := #[] }, AV.sl 0 (Seq.raw []) Tip.nil, AV.bool false]]
      fun (r : AV) (H' : List AObj) =>
      ∃ (x : List T.Span),
        r = AV.sl 2 (Seq.map T.encS ((0 : Int), (0 : Int)) x) Tip.none ∧
         H' =
         [AObj.cells [AV.str { data := List.toArray (Prod.fst a) }, AV.sl 2 (Seq.map T.encS ((0 : Int), (0 : Int)) (Prod.fst (Prod.snd a))) Tip.none, AV.bool (Prod.snd (Prod.snd a))],
         AObj.cells [AV.str { data := #[] }, AV.sl 0 (Seq.raw []) Tip.nil, AV.bool false]] ∧
         (AV.bool (Prod.snd (Prod.snd a)) = AV.bool (Prod.snd (Prod.snd a)) ∧
         [AObj.cells [AV.str { data := List.toArray (Prod.fst a) }, AV.sl 2 (Seq.map T.encS ((0 : Int), (0 : Int)) (Prod.fst (Prod.snd a))) Tip.none, AV.bool (Prod.snd (Prod.snd a))],
         AObj.cells [AV.str { data := #[] }, AV.sl 0 (Seq.raw []) Tip.nil, AV.bool false]] =
         [AObj.cells [AV.str { data := List.toArray (Prod.fst a) }, AV.sl 2 (Seq.map T.encS ((0 : Int), (0 : Int)) (Prod.fst (Prod.snd a))) Tip.none, AV.bool (Prod.snd (Prod.snd a))],
         AObj.cells [AV.str { data := #[] }, AV.sl 0 (Seq.raw []) Tip.nil, AV.bool false]]) ∧
         (AV.str { data := List.toArray (Prod.fst a) } = AV.str { data := List.toArray (Prod.fst a) } ∧
         [AObj.cells [AV.str { data := List.toArray (Prod.fst a) }, AV.sl 2 (Seq.map T.encS ((0 : Int), (0 : Int)) (Prod.fst (Prod.snd a))) Tip.none, AV.bool (Prod.snd (Prod.snd a))],
         AObj.cells [AV.str { data := #[] }, AV.sl 0 (Seq.raw []) Tip.nil, AV.bool false]] =
         [AObj.cells
         [AV.str { data := List.toArray (Prod.fst a) }, AV.sl 2 (Seq.map T.encS ((0 : Int), (0 : Int)) (Prod.fst (Prod.snd a))) Tip.none, AV.bool (Prod.snd (Prod.snd a))],
         AObj.cells [AV.str { data := #[] }, AV.sl 0 (Seq.raw []) Tip.nil, AV.bool false]]) ∧
         Post (AV.agg [AV.str { data := List.toArray (Prod.fst a) }, AV.sl 2 (Seq.map T.encS ((0 : Int), (0 : Int)) x) Tip.none, AV.bool !Prod.snd (Prod.snd a)])
         [AObj.cells [AV.str { data := List.toArray (Prod.fst a) }, AV.sl 2 (Seq.map T.encS ((0 : Int), (0 : Int)) (Prod.fst (Prod.snd a))) Tip.none, AV.bool (Prod.snd (Prod.snd a))],
         AObj.cells [AV.str { data := List.toArray (Prod.fst a) }, AV.sl 2 (Seq.map T.encS ((0 : Int), (0 : Int)) x) Tip.none, AV.bool !Prod.snd (Prod.snd a)]]) →
    ASpec Tryd.prog 11 [AV.agg (T.encT a)] [] Post := fun a Post h => Go.Ab.ASpec.of_vc g11 Go.Proofs.Tryd.func11 (by kernel_rfl) (by kernel_rfl) (by kernel_rfl) (Go.Ab.kc (by kernel_rfl) h)

-- 14
noncomputable def l14 : Nat → List Nat
  | _ => []
noncomputable def u14 : Nat → Bool
  | _ => false
noncomputable def m14 : Nat → Bool
  | _ => false
noncomputable def g14 : Cfg := { N := 11, live := l14, cut := u14, mu := m14, ret := rets }
theorem s14 : ∀ (a : T.Term) (Post : AV → List AObj → Prop),
  condP (Prod.snd (Prod.snd a))
      (ASpec Tryd.prog 55 [AV.sl 2 (Seq.map T.encS ((0 : Int), (0 : Int)) (Prod.fst (Prod.snd a))) Tip.none]
        [AObj.cells [AV.str { data := List.toArray (Prod.fst a) }, AV.sl 2 (Seq.map T.encS ((0 : Int), (0 : Int)) (Prod.fst (Prod.snd a))) Tip.none, AV.bool (Prod.snd (Prod.snd a))]]
        fun (r : AV) (H' : List AObj) =>
        ∃ (x : Int),
         r = AV.int IntKind.i64 x ∧
         H' =
         [AObj.cells [AV.str { data := List.toArray (Prod.fst a) }, AV.sl 2 (Seq.map T.encS ((0 : Int), (0 : Int)) (Prod.fst (Prod.snd a))) Tip.none, AV.bool (Prod.snd (Prod.snd a))]] ∧
         Post (AV.bool (x == (1000000000 : Int)))
         [AObj.cells [AV.str { data := List.toArray (Prod.fst a) }, AV.sl 2 (Seq.map T.encS ((0 : Int), (0 : Int)) (Prod.fst (Prod.snd a))) Tip.none, AV.bool (Prod.snd (Prod.snd a))]])
      (Post (AV.bool false)
        [AObj.cells [AV.str { data := List.toArray (Prod.fst a) }, AV.sl 2 (Seq.map T.encS ((0 : Int), (0 : Int)) (Prod.fst (Prod.snd a))) Tip.none, AV.bool (Prod.snd (Prod.snd a))]]) →
    ASpec Tryd.prog 14 [AV.agg (T.encT a)] [] Post := fun a Post h => Go.Ab.ASpec.of_vc g14 Go.Proofs.Tryd.func14 (by kernel_rfl) (by kernel_rfl) (by kernel_rfl) (Go.Ab.kc (by kernel_rfl) h)

-- 16
noncomputable def l16 : Nat → List Nat
  | _ => []
noncomputable def u16 : Nat → Bool
  | _ => false
noncomputable def m16 : Nat → Bool
  | _ => false
noncomputable def g16 : Cfg := { N := 24, live := l16, cut := u16, mu := m16, ret := rets }
theorem s16 : ∀ (a b : T.Term) (Post : AV → List AObj → Prop),
  condP (ByteArray.toList { data := List.toArray (Prod.fst a) } == ByteArray.toList { data := List.toArray (Prod.fst b) })
      (condP (Prod.snd (Prod.snd a) == Prod.snd (Prod.snd b))
        (ASpec Tryd.prog 57
         [AV.sl 2 (Seq.map T.encS ((0 : Int), (0 : Int)) (Prod.fst (Prod.snd a))) Tip.none, AV.sl 2 (Seq.map T.encS ((0 : Int), (0 : Int)) (Prod.fst (Prod.snd b))) Tip.none]
         [AObj.cells [AV.str { data := List.toArray (Prod.fst a) }, AV.sl 2 (Seq.map T.encS ((0 : Int), (0 : Int)) (Prod.fst (Prod.snd a))) Tip.none, AV.bool (Prod.snd (Prod.snd a))],
         AObj.cells [AV.str { data := List.toArray (Prod.fst b) }, AV.sl 2 (Seq.map T.encS ((0 : Int), (0 : Int)) (Prod.fst (Prod.snd b))) Tip.none, AV.bool (Prod.snd (Prod.snd b))]]
         fun (r : AV) (H' : List AObj) =>
         ∃ (x : Bool),
         r = AV.bool x ∧
         H' =
         [AObj.cells [AV.str { data := List.toArray (Prod.fst a) }, AV.sl 2 (Seq.map T.encS ((0 : Int), (0 : Int)) (Prod.fst (Prod.snd a))) Tip.none, AV.bool (Prod.snd (Prod.snd a))],
         AObj.cells
         [AV.str { data := List.toArray (Prod.fst b) }, AV.sl 2 (Seq.map T.encS ((0 : Int), (0 : Int)) (Prod.fst (Prod.snd b))) Tip.none, AV.bool (Prod.snd (Prod.snd b))]] ∧
         Post (AV.bool x)
         [AObj.cells [AV.str { data := List.toArray (Prod.fst a) }, AV.sl 2 (Seq.map T.encS ((0 : Int), (0 : Int)) (Prod.fst (Prod.snd a))) Tip.none, AV.bool (Prod.snd (Prod.snd a))],
         AObj.cells
         [AV.str { data := List.toArray (Prod.fst b) }, AV.sl 2 (Seq.map T.encS ((0 : Int), (0 : Int)) (Prod.fst (Prod.snd b))) Tip.none, AV.bool (Prod.snd (Prod.snd b))]])
        (Post (AV.bool false)
         [AObj.cells [AV.str { data := List.toArray (Prod.fst a) }, AV.sl 2 (Seq.map T.encS ((0 : Int), (0 : Int)) (Prod.fst (Prod.snd a))) Tip.none, AV.bool (Prod.snd (Prod.snd a))],
         AObj.cells [AV.str { data := List.toArray (Prod.fst b) }, AV.sl 2 (Seq.map T.encS ((0 : Int), (0 : Int)) (Prod.fst (Prod.snd b))) Tip.none, AV.bool (Prod.snd (Prod.snd b))]]))
      (Post (AV.bool false)
        [AObj.cells [AV.str { data := List.toArray (Prod.fst a) }, AV.sl 2 (Seq.map T.encS ((0 : Int), (0 : Int)) (Prod.fst (Prod.snd a))) Tip.none, AV.bool (Prod.snd (Prod.snd a))],
         AObj.cells [AV.str { data := List.toArray (Prod.fst b) }, AV.sl 2 (Seq.map T.encS ((0 : Int), (0 : Int)) (Prod.fst (Prod.snd b))) Tip.none, AV.bool (Prod.snd (Prod.snd b))]]) →
    ASpec Tryd.prog 16 [AV.agg (T.encT a), AV.agg (T.encT b)] [] Post := fun a b Post h => Go.Ab.ASpec.of_vc g16 Go.Proofs.Tryd.func16 (by kernel_rfl) (by kernel_rfl) (by kernel_rfl) (Go.Ab.kc (by kernel_rfl) h)

-- 20
noncomputable def l20 : Nat → List Nat
  | _ => []
noncomputable def u20 : Nat → Bool
  | _ => false
noncomputable def m20 : Nat → Bool
  | _ => false
noncomputable def g20 : Cfg := { N := 45, live := l20, cut := u20, mu := m20, ret := rets }
theorem s20 : ∀ (a : T.Term) (Post : AV → List AObj → Prop),
  (ASpec Tryd.prog 9
      [AV.agg [AV.str { data := List.toArray (Prod.fst a) }, AV.sl 2 (Seq.map T.encS ((0 : Int), (0 : Int)) (Prod.fst (Prod.snd a))) Tip.none, AV.bool (Prod.snd (Prod.snd a))]]
      [AObj.cells [AV.str { data := List.toArray (Prod.fst a) }, AV.sl 2 (Seq.map T.encS ((0 : Int), (0 : Int)) (Prod.fst (Prod.snd a))) Tip.none, AV.bool (Prod.snd (Prod.snd a))]]
      fun (r : AV) (H' : List AObj) =>
      ∃ (x : Bool),
        r = AV.bool x ∧
         H' = [AObj.cells [AV.str { data := List.toArray (Prod.fst a) }, AV.sl 2 (Seq.map T.encS ((0 : Int), (0 : Int)) (Prod.fst (Prod.snd a))) Tip.none, AV.bool (Prod.snd (Prod.snd a))]] ∧
         condP (!x)
         (Post (AV.str { data := #[] })
         [AObj.cells [AV.str { data := List.toArray (Prod.fst a) }, AV.sl 2 (Seq.map T.encS ((0 : Int), (0 : Int)) (Prod.fst (Prod.snd a))) Tip.none, AV.bool (Prod.snd (Prod.snd a))]])
         (ASpec Tryd.prog 14
         [AV.agg [AV.str { data := List.toArray (Prod.fst a) }, AV.sl 2 (Seq.map T.encS ((0 : Int), (0 : Int)) (Prod.fst (Prod.snd a))) Tip.none, AV.bool (Prod.snd (Prod.snd a))]]
         [AObj.cells [AV.str { data := List.toArray (Prod.fst a) }, AV.sl 2 (Seq.map T.encS ((0 : Int), (0 : Int)) (Prod.fst (Prod.snd a))) Tip.none, AV.bool (Prod.snd (Prod.snd a))]]
         fun (r : AV) (H' : List AObj) =>
         ∃ (x : Bool),
         r = AV.bool x ∧
         H' =
         [AObj.cells
         [AV.str { data := List.toArray (Prod.fst a) }, AV.sl 2 (Seq.map T.encS ((0 : Int), (0 : Int)) (Prod.fst (Prod.snd a))) Tip.none, AV.bool (Prod.snd (Prod.snd a))]] ∧
         condP x
         (needP ((↑(ByteArray.size { data := List.toArray (Prod.fst a) } + 9) : Int) ≤ (9223372036854775807 : Int))
         (Post
         (AV.str
         ({ data := List.toArray (Prod.fst a) } ++
         { data := #[(32 : UInt8), (119 : UInt8), (104 : UInt8), (97 : UInt8), (116 : UInt8), (101 : UInt8), (118 : UInt8), (101 : UInt8), (114 : UInt8)] }))
         [AObj.cells
         [AV.str { data := List.toArray (Prod.fst a) }, AV.sl 2 (Seq.map T.encS ((0 : Int), (0 : Int)) (Prod.fst (Prod.snd a))) Tip.none,
         AV.bool (Prod.snd (Prod.snd a))]]))
         (ASpec Tryd.prog 12
         [AV.agg
         [AV.str { data := List.toArray (Prod.fst a) }, AV.sl 2 (Seq.map T.encS ((0 : Int), (0 : Int)) (Prod.fst (Prod.snd a))) Tip.none, AV.bool (Prod.snd (Prod.snd a))]]
         [AObj.cells
         [AV.str { data := List.toArray (Prod.fst a) }, AV.sl 2 (Seq.map T.encS ((0 : Int), (0 : Int)) (Prod.fst (Prod.snd a))) Tip.none, AV.bool (Prod.snd (Prod.snd a))]]
         fun (r : AV) (H' : List AObj) =>
         ∃ (x : Bool),
         r = AV.bool x ∧
         H' =
         [AObj.cells
         [AV.str { data := List.toArray (Prod.fst a) }, AV.sl 2 (Seq.map T.encS ((0 : Int), (0 : Int)) (Prod.fst (Prod.snd a))) Tip.none,
         AV.bool (Prod.snd (Prod.snd a))]] ∧
         condP x
         (needP ((↑(ByteArray.size { data := List.toArray (Prod.fst a) } + 8) : Int) ≤ (9223372036854775807 : Int))
         (Post
         (AV.str
         ({ data := List.toArray (Prod.fst a) } ++
         { data := #[(32 : UInt8), (110 : UInt8), (111 : UInt8), (119 : UInt8), (104 : UInt8), (101 : UInt8), (114 : UInt8), (101 : UInt8)] }))
         [AObj.cells
         [AV.str { data := List.toArray (Prod.fst a) }, AV.sl 2 (Seq.map T.encS ((0 : Int), (0 : Int)) (Prod.fst (Prod.snd a))) Tip.none,
         AV.bool (Prod.snd (Prod.snd a))]]))
         (condP ((↑(List.length (Prod.fst (Prod.snd a))) : Int) == (0 : Int))
         (needP ((↑(ByteArray.size { data := List.toArray (Prod.fst a) } + 7) : Int) ≤ (9223372036854775807 : Int))
         (Post
         (AV.str
         ({ data := List.toArray (Prod.fst a) } ++
         { data := #[(32 : UInt8), (97 : UInt8), (98 : UInt8), (115 : UInt8), (101 : UInt8), (110 : UInt8), (116 : UInt8)] }))
         [AObj.cells
         [AV.str { data := List.toArray (Prod.fst a) }, AV.sl 2 (Seq.map T.encS ((0 : Int), (0 : Int)) (Prod.fst (Prod.snd a))) Tip.none,
         AV.bool (Prod.snd (Prod.snd a))]]))
         (condP (Prod.snd (Prod.snd a))
         (needP ((↑(ByteArray.size { data := List.toArray (Prod.fst a) } + 1) : Int) ≤ (9223372036854775807 : Int))
         (ASpec Tryd.prog 62 [AV.sl 2 (Seq.map T.encS ((0 : Int), (0 : Int)) (Prod.fst (Prod.snd a))) Tip.none]
         [AObj.cells
         [AV.str { data := List.toArray (Prod.fst a) }, AV.sl 2 (Seq.map T.encS ((0 : Int), (0 : Int)) (Prod.fst (Prod.snd a))) Tip.none,
         AV.bool (Prod.snd (Prod.snd a))]]
         fun (r : AV) (H' : List AObj) =>
         ∃ (x : ByteArray),
         r = AV.str x ∧
         H' =
         [AObj.cells
         [AV.str { data := List.toArray (Prod.fst a) }, AV.sl 2 (Seq.map T.encS ((0 : Int), (0 : Int)) (Prod.fst (Prod.snd a))) Tip.none,
         AV.bool (Prod.snd (Prod.snd a))]] ∧
         (AV.str { data := List.toArray (Prod.fst a) } = AV.str { data := List.toArray (Prod.fst a) } ∧
         [AObj.cells
         [AV.str { data := List.toArray (Prod.fst a) }, AV.sl 2 (Seq.map T.encS ((0 : Int), (0 : Int)) (Prod.fst (Prod.snd a))) Tip.none,
         AV.bool (Prod.snd (Prod.snd a))]] =
         [AObj.cells
         [AV.str { data := List.toArray (Prod.fst a) }, AV.sl 2 (Seq.map T.encS ((0 : Int), (0 : Int)) (Prod.fst (Prod.snd a))) Tip.none,
         AV.bool (Prod.snd (Prod.snd a))]]) ∧
         needP
         ((↑(ByteArray.size ({ data := List.toArray (Prod.fst a) } ++ { data := #[(32 : UInt8)] }) + ByteArray.size x) : Int) ≤ (9223372036854775807 : Int))
         (needP
         ((↑(ByteArray.size ({ data := List.toArray (Prod.fst a) } ++ { data := #[(32 : UInt8)] } ++ x) + 10) : Int) ≤ (9223372036854775807 : Int))
         (Post
         (AV.str
         ({ data := List.toArray (Prod.fst a) } ++ { data := #[(32 : UInt8)] } ++ x ++
         {
         data :=
         #[(32 : UInt8), (111 : UInt8), (114 : UInt8), (32 : UInt8), (97 : UInt8), (98 : UInt8), (115 : UInt8), (101 : UInt8), (110 : UInt8),
         (116 : UInt8)] }))
         [AObj.cells
         [AV.str { data := List.toArray (Prod.fst a) }, AV.sl 2 (Seq.map T.encS ((0 : Int), (0 : Int)) (Prod.fst (Prod.snd a))) Tip.none,
         AV.bool (Prod.snd (Prod.snd a))]]))))
         (needP ((↑(ByteArray.size { data := List.toArray (Prod.fst a) } + 1) : Int) ≤ (9223372036854775807 : Int))
         (ASpec Tryd.prog 62 [AV.sl 2 (Seq.map T.encS ((0 : Int), (0 : Int)) (Prod.fst (Prod.snd a))) Tip.none]
         [AObj.cells
         [AV.str { data := List.toArray (Prod.fst a) }, AV.sl 2 (Seq.map T.encS ((0 : Int), (0 : Int)) (Prod.fst (Prod.snd a))) Tip.none,
         AV.bool (Prod.snd (Prod.snd a))]]
         fun (r : AV) (H' : List AObj) =>
         ∃ (x : ByteArray),
         r = AV.str x ∧
         H' =
         [AObj.cells
         [AV.str { data := List.toArray (Prod.fst a) }, AV.sl 2 (Seq.map T.encS ((0 : Int), (0 : Int)) (Prod.fst (Prod.snd a))) Tip.none,
         AV.bool (Prod.snd (Prod.snd a))]] ∧
         (AV.str { data := List.toArray (Prod.fst a) } = AV.str { data := List.toArray (Prod.fst a) } ∧
         [AObj.cells
         [AV.str { data := List.toArray (Prod.fst a) }, AV.sl 2 (Seq.map T.encS ((0 : Int), (0 : Int)) (Prod.fst (Prod.snd a))) Tip.none,
         AV.bool (Prod.snd (Prod.snd a))]] =
         [AObj.cells
         [AV.str { data := List.toArray (Prod.fst a) }, AV.sl 2 (Seq.map T.encS ((0 : Int), (0 : Int)) (Prod.fst (Prod.snd a))) Tip.none,
         AV.bool (Prod.snd (Prod.snd a))]]) ∧
         needP
         ((↑(ByteArray.size ({ data := List.toArray (Prod.fst a) } ++ { data := #[(32 : UInt8)] }) + ByteArray.size x) : Int) ≤ (9223372036854775807 : Int))
         (Post (AV.str ({ data := List.toArray (Prod.fst a) } ++ { data := #[(32 : UInt8)] } ++ x))
         [AObj.cells
         [AV.str { data := List.toArray (Prod.fst a) }, AV.sl 2 (Seq.map T.encS ((0 : Int), (0 : Int)) (Prod.fst (Prod.snd a))) Tip.none,
         AV.bool (Prod.snd (Prod.snd a))]])))))))) →
    ASpec Tryd.prog 20 [AV.agg (T.encT a)] [] Post := fun a Post h => Go.Ab.ASpec.of_vc g20 Go.Proofs.Tryd.func20 (by kernel_rfl) (by kernel_rfl) (by kernel_rfl) (Go.Ab.kc (by kernel_rfl) h)

-- 55
noncomputable def l55 : Nat → List Nat
  | 3 => [3, 6, 7, 8]
  | _ => []
noncomputable def u55 : Nat → Bool
  | _ => false
noncomputable def m55 : Nat → Bool
  | _ => false
noncomputable def g55 : Cfg := { N := 21, live := l55, cut := u55, mu := m55, ret := rets }
noncomputable def c55 : Go.Code := Go.Ab.bodyOf Go.Proofs.Tryd.f55
noncomputable def q55_0 : Nat → (AV → List AObj → Prop) → AQ := fun (n : Nat) (Post : AV → List AObj → Prop) => endQ Tryd.prog (resultsOf Tryd.f55) Post
noncomputable def q55_1 : Nat → (AV → List AObj → Prop) → AQ := fun (n : Nat) (Post : AV → List AObj → Prop) => seqQ (fun (s' : Slots) (H' : List AObj) => awp Tryd.prog g55 n (codeSnd (codeSnd (codeSnd c55))) s' H' (q55_0 n Post)) (q55_0 n Post)
noncomputable def q55_2 : Nat → (AV → List AObj → Prop) → AQ := fun (n : Nat) (Post : AV → List AObj → Prop) => blockQ 0 (q55_1 n Post)
noncomputable def c55_3 : Go.Code := codeFst (codeSnd (codeFst (codeSnd (codeSnd c55))))
theorem s55 : ∀ (l : List T.Span) (Post : AV → List AObj → Prop),
  AWP Tryd.prog 21 0 c55_3
      [(3, AV.int IntKind.i64 (0 : Int)), (6, AV.sl 2 (Seq.map T.encS ((0 : Int), (0 : Int)) l) Tip.none), (7, AV.int IntKind.i64 (↑(List.length l) : Int)),
        (8, AV.int IntKind.i64 (0 : Int))]
      [] (q55_2 0 Post) →
    ASpec Tryd.prog 55 [AV.sl 2 (Seq.map T.encS ((0 : Int), (0 : Int)) l) Tip.none] [] Post := fun l Post h => Go.Ab.ASpec.of_vc g55 Go.Proofs.Tryd.func55 (by kernel_rfl) (by kernel_rfl) (by kernel_rfl) (Go.Ab.kc (by kernel_rfl) h)
theorem v55_3 : ∀ (l : List T.Span) (c n i : Int) (n_1 : Nat) (Post : AV → List AObj → Prop),
  condP (decide (i < n))
      (needP ((0 : Int) ≤ i ∧ i < (↑(List.length l) : Int))
        (AWP Tryd.prog 21 n_1 c55_3
         [(3,
         AV.int IntKind.i64
         (IntKind.wrap IntKind.i64 (c + IntKind.wrap IntKind.i64 (Prod.snd (List.getD l (Int.toNat i) ((0 : Int), (0 : Int))) - Prod.fst (List.getD l (Int.toNat i) ((0 : Int), (0 : Int))))))),
         (6, AV.sl 2 (Seq.map T.encS ((0 : Int), (0 : Int)) l) Tip.none), (7, AV.int IntKind.i64 n),
         (8, AV.int IntKind.i64 (IntKind.wrap IntKind.i64 (i + (1 : Int))))]
         [AObj.cells [AV.int IntKind.i64 (Prod.fst (List.getD l (Int.toNat i) ((0 : Int), (0 : Int)))), AV.int IntKind.i64 (Prod.snd (List.getD l (Int.toNat i) ((0 : Int), (0 : Int))))]]
         (q55_2 n_1 Post)))
      (Post (AV.int IntKind.i64 c) []) →
    AWP Tryd.prog 21 n_1 c55_3
      [(3, AV.int IntKind.i64 c), (6, AV.sl 2 (Seq.map T.encS ((0 : Int), (0 : Int)) l) Tip.none), (7, AV.int IntKind.i64 n), (8, AV.int IntKind.i64 i)] []
      (q55_2 n_1 Post) := fun l c n i n Post h => Go.Ab.AWP.loop' g55 (Cfg.live g55) c55_3 (by kernel_rfl) (by kernel_rfl) (Go.Ab.kc (by kernel_rfl) h)

-- 57
noncomputable def l57 : Nat → List Nat
  | _ => []
noncomputable def u57 : Nat → Bool
  | _ => false
noncomputable def m57 : Nat → Bool
  | _ => false
noncomputable def g57 : Cfg := { N := 8, live := l57, cut := u57, mu := m57, ret := rets }
theorem s57 : ∀ (a b : List T.Span) (Post : AV → List AObj → Prop),
  (ASpec Tryd.prog 112 [AV.sl 2 (Seq.map T.encS ((0 : Int), (0 : Int)) a) Tip.none, AV.sl 2 (Seq.map T.encS ((0 : Int), (0 : Int)) b) Tip.none] []
      fun (r : AV) (H' : List AObj) => ∃ (x : Bool), r = AV.bool x ∧ H' = [] ∧ Post (AV.bool x) []) →
    ASpec Tryd.prog 57 [AV.sl 2 (Seq.map T.encS ((0 : Int), (0 : Int)) a) Tip.none, AV.sl 2 (Seq.map T.encS ((0 : Int), (0 : Int)) b) Tip.none] [] Post := fun a b Post h => Go.Ab.ASpec.of_vc g57 Go.Proofs.Tryd.func57 (by kernel_rfl) (by kernel_rfl) (by kernel_rfl) (Go.Ab.kc (by kernel_rfl) h)

-- 112
noncomputable def l112 : Nat → List Nat
  | 4 => [0, 1, 12, 13]
  | _ => []
noncomputable def u112 : Nat → Bool
  | _ => false
noncomputable def m112 : Nat → Bool
  | _ => false
noncomputable def g112 : Cfg := { N := 26, live := l112, cut := u112, mu := m112, ret := rets }
noncomputable def c112 : Go.Code := Go.Ab.bodyOf Go.Proofs.Tryd.f112
noncomputable def q112_0 : Nat → (AV → List AObj → Prop) → AQ := fun (n : Nat) (Post : AV → List AObj → Prop) => endQ Tryd.prog (resultsOf Tryd.f112) Post
noncomputable def q112_1 : Nat → (AV → List AObj → Prop) → AQ := fun (n : Nat) (Post : AV → List AObj → Prop) => seqQ (fun (s' : Slots) (H' : List AObj) => awp Tryd.prog g112 n (codeSnd (codeSnd (codeSnd c112))) s' H' (q112_0 n Post)) (q112_0 n Post)
noncomputable def q112_2 : Nat → (AV → List AObj → Prop) → AQ := fun (n : Nat) (Post : AV → List AObj → Prop) => blockQ 0 (q112_1 n Post)
noncomputable def c112_4 : Go.Code := codeFst (codeSnd (codeFst (codeSnd (codeSnd c112))))
theorem s112 : ∀ (a b : List T.Span) (Post : AV → List AObj → Prop),
  condP ((↑(List.length a) : Int) != (↑(List.length b) : Int)) (Post (AV.bool false) [])
      (AWP Tryd.prog 26 0 c112_4
        [(0, AV.sl 2 (Seq.map T.encS ((0 : Int), (0 : Int)) a) Tip.none), (1, AV.sl 2 (Seq.map T.encS ((0 : Int), (0 : Int)) b) Tip.none),
         (12, AV.int IntKind.i64 (↑(List.length a) : Int)), (13, AV.int IntKind.i64 (0 : Int))]
        [] (q112_2 0 Post)) →
    ASpec Tryd.prog 112 [AV.sl 2 (Seq.map T.encS ((0 : Int), (0 : Int)) a) Tip.none, AV.sl 2 (Seq.map T.encS ((0 : Int), (0 : Int)) b) Tip.none] [] Post := fun a b Post h => Go.Ab.ASpec.of_vc g112 Go.Proofs.Tryd.func112 (by kernel_rfl) (by kernel_rfl) (by kernel_rfl) (Go.Ab.kc (by kernel_rfl) h)
theorem v112_4 : ∀ (a b : List T.Span) (n i : Int) (n_1 : Nat) (Post : AV → List AObj → Prop),
  condP (decide (i < n))
      (needP ((0 : Int) ≤ i ∧ i < (↑(List.length a) : Int))
        (needP ((0 : Int) ≤ i ∧ i < (↑(List.length b) : Int))
         (condP
         (!(Prod.fst (List.getD a (Int.toNat i) ((0 : Int), (0 : Int))) == Prod.fst (List.getD b (Int.toNat i) ((0 : Int), (0 : Int))) &&
         (Prod.snd (List.getD a (Int.toNat i) ((0 : Int), (0 : Int))) == Prod.snd (List.getD b (Int.toNat i) ((0 : Int), (0 : Int))) && true)))
         (Post (AV.bool false) [])
         (AWP Tryd.prog 26 n_1 c112_4
         [(0, AV.sl 2 (Seq.map T.encS ((0 : Int), (0 : Int)) a) Tip.none), (1, AV.sl 2 (Seq.map T.encS ((0 : Int), (0 : Int)) b) Tip.none),
         (12, AV.int IntKind.i64 n), (13, AV.int IntKind.i64 (IntKind.wrap IntKind.i64 (i + (1 : Int))))]
         [] (q112_2 n_1 Post)))))
      (Post (AV.bool true) []) →
    AWP Tryd.prog 26 n_1 c112_4
      [(0, AV.sl 2 (Seq.map T.encS ((0 : Int), (0 : Int)) a) Tip.none), (1, AV.sl 2 (Seq.map T.encS ((0 : Int), (0 : Int)) b) Tip.none),
        (12, AV.int IntKind.i64 n), (13, AV.int IntKind.i64 i)]
      [] (q112_2 n_1 Post) := fun a b n i n Post h => Go.Ab.AWP.loop' g112 (Cfg.live g112) c112_4 (by kernel_rfl) (by kernel_rfl) (Go.Ab.kc (by kernel_rfl) h)

-- 62
noncomputable def l62 : Nat → List Nat
  | 7 => [0]
  | 9 => [3, 18, 19, 20]
  | _ => []
noncomputable def u62 : Nat → Bool
  | 7 => true
  | _ => false
noncomputable def m62 : Nat → Bool
  | _ => false
noncomputable def g62 : Cfg := { N := 32, live := l62, cut := u62, mu := m62, ret := rets }
noncomputable def c62 : Go.Code := Go.Ab.bodyOf Go.Proofs.Tryd.f62
noncomputable def q62_0 : Nat → (AV → List AObj → Prop) → AQ := fun (n : Nat) (Post : AV → List AObj → Prop) => endQ Tryd.prog (resultsOf Tryd.f62) Post
noncomputable def c62_7 : Go.Code := codeSnd (codeSnd c62)
theorem s62 : ∀ (l : List T.Span) (Post : AV → List AObj → Prop),
  (ASpec Tryd.prog 51 [AV.sl 2 (Seq.map T.encS ((0 : Int), (0 : Int)) l) Tip.none] [] fun (r : AV) (H' : List AObj) =>
      ∃ (x : Bool),
        r = AV.bool x ∧
         H' = [] ∧
         condP (!x) (Post (AV.str { data := #[] }) [])
         (condP ((↑(List.length l) : Int) == (0 : Int)) (Post (AV.str { data := #[(110 : UInt8), (111 : UInt8), (110 : UInt8), (101 : UInt8)] }) [])
         (ASpec Tryd.prog 116 [] [] fun (r : AV) (H' : List AObj) =>
         ∃ (x : List T.Span),
         r = AV.sl 2 (Seq.map T.encS ((0 : Int), (0 : Int)) x) Tip.none ∧
         H' = [] ∧
         ASpec Tryd.prog 112 [AV.sl 2 (Seq.map T.encS ((0 : Int), (0 : Int)) l) Tip.none, AV.sl 2 (Seq.map T.encS ((0 : Int), (0 : Int)) x) Tip.none] []
         fun (r : AV) (H' : List AObj) =>
         ∃ (x : Bool),
         r = AV.bool x ∧
         H' = [] ∧
         condP x (Post (AV.str { data := #[(97 : UInt8), (110 : UInt8), (121 : UInt8)] }) [])
         (AWP Tryd.prog 32 0 c62_7 [(0, AV.sl 2 (Seq.map T.encS ((0 : Int), (0 : Int)) l) Tip.none)] [] (q62_0 0 Post))))) →
    ASpec Tryd.prog 62 [AV.sl 2 (Seq.map T.encS ((0 : Int), (0 : Int)) l) Tip.none] [] Post := fun l Post h => Go.Ab.ASpec.of_vc g62 Go.Proofs.Tryd.func62 (by kernel_rfl) (by kernel_rfl) (by kernel_rfl) (Go.Ab.kc (by kernel_rfl) h)
noncomputable def q62_1 : Nat → (AV → List AObj → Prop) → AQ := fun (n : Nat) (Post : AV → List AObj → Prop) => seqQ (fun (s' : Slots) (H' : List AObj) => awp Tryd.prog g62 n (codeSnd (codeSnd c62_7)) s' H' (q62_0 n Post)) (q62_0 n Post)
noncomputable def q62_2 : Nat → (AV → List AObj → Prop) → AQ := fun (n : Nat) (Post : AV → List AObj → Prop) => blockQ 1 (q62_1 n Post)
noncomputable def c62_9 : Go.Code := codeFst (codeSnd (codeFst (codeSnd c62_7)))
theorem v62_7 : ∀ (l : List T.Span) (n : Nat) (Post : AV → List AObj → Prop),
  AWP Tryd.prog 32 n c62_9
      [(3, AV.sl 0 (Seq.raw []) Tip.nil), (18, AV.sl 2 (Seq.map T.encS ((0 : Int), (0 : Int)) l) Tip.none), (19, AV.int IntKind.i64 (↑(List.length l) : Int)),
        (20, AV.int IntKind.i64 (0 : Int))]
      [] (q62_2 n Post) →
    AWP Tryd.prog 32 n c62_7 [(0, AV.sl 2 (Seq.map T.encS ((0 : Int), (0 : Int)) l) Tip.none)] [] (q62_0 n Post) := fun l n Post h => Go.Ab.awp_sound g62 n _ _ _ _ (Go.Ab.kc (by kernel_rfl) h)
theorem v62_9 : ∀ (l : List T.Span) (o : List (List UInt8)) (n i : Int) (n_1 : Nat) (Post : AV → List AObj → Prop),
  condP (decide (i < n))
      (needP ((0 : Int) ≤ i ∧ i < (↑(List.length l) : Int))
        (ASpec Tryd.prog 117
         [AV.agg [AV.int IntKind.i64 (Prod.fst (List.getD l (Int.toNat i) ((0 : Int), (0 : Int)))), AV.int IntKind.i64 (Prod.snd (List.getD l (Int.toNat i) ((0 : Int), (0 : Int))))]]
         [AObj.tok, AObj.cells [AV.int IntKind.i64 (Prod.fst (List.getD l (Int.toNat i) ((0 : Int), (0 : Int)))), AV.int IntKind.i64 (Prod.snd (List.getD l (Int.toNat i) ((0 : Int), (0 : Int))))]]
         fun (r : AV) (H' : List AObj) =>
         ∃ (x : ByteArray),
         r = AV.str x ∧
         H' =
         [AObj.tok,
         AObj.cells [AV.int IntKind.i64 (Prod.fst (List.getD l (Int.toNat i) ((0 : Int), (0 : Int)))), AV.int IntKind.i64 (Prod.snd (List.getD l (Int.toNat i) ((0 : Int), (0 : Int))))]] ∧
         needP ((List.length o + 1) * 16 ≤ 140737488351232)
         (AWP Tryd.prog 32 n_1 c62_9
         [(3, AV.sl 1 (Seq.app (Seq.map T.encL [] o) (Seq.raw [[AV.str x]])) (Tip.tok 2)),
         (18, AV.sl 2 (Seq.map T.encS ((0 : Int), (0 : Int)) l) Tip.none), (19, AV.int IntKind.i64 n),
         (20, AV.int IntKind.i64 (IntKind.wrap IntKind.i64 (i + (1 : Int))))]
         [AObj.gone,
         AObj.cells [AV.int IntKind.i64 (Prod.fst (List.getD l (Int.toNat i) ((0 : Int), (0 : Int)))), AV.int IntKind.i64 (Prod.snd (List.getD l (Int.toNat i) ((0 : Int), (0 : Int))))],
         AObj.tok]
         (q62_2 n_1 Post))))
      (ASpec Tryd.prog 118 [AV.sl 1 (Seq.map T.encL [] o) (Tip.tok 0), AV.str { data := #[(32 : UInt8), (124 : UInt8), (32 : UInt8)] }] [AObj.tok]
        fun (r : AV) (H' : List AObj) => ∃ (x : ByteArray), r = AV.str x ∧ H' = [AObj.tok] ∧ Post (AV.str x) [AObj.tok]) →
    AWP Tryd.prog 32 n_1 c62_9
      [(3, AV.sl 1 (Seq.map T.encL [] o) (Tip.tok 0)), (18, AV.sl 2 (Seq.map T.encS ((0 : Int), (0 : Int)) l) Tip.none), (19, AV.int IntKind.i64 n),
        (20, AV.int IntKind.i64 i)]
      [AObj.tok] (q62_2 n_1 Post) := fun l o n i n Post h => Go.Ab.AWP.loop' g62 (Cfg.live g62) c62_9 (by kernel_rfl) (by kernel_rfl) (Go.Ab.kc (by kernel_rfl) h)

-- 117
noncomputable def l117 : Nat → List Nat
  | _ => []
noncomputable def u117 : Nat → Bool
  | _ => false
noncomputable def m117 : Nat → Bool
  | _ => false
noncomputable def g117 : Cfg := { N := 39, live := l117, cut := u117, mu := m117, ret := rets }
theorem s117 : ∀ (x : T.Span) (Post : AV → List AObj → Prop),
  condP (IntKind.wrap IntKind.i64 (Prod.snd x - Prod.fst x) == (1 : Int))
      (ASpec Tryd.prog 121 [AV.int IntKind.i64 (Prod.fst x)] [AObj.cells [AV.int IntKind.i64 (Prod.fst x), AV.int IntKind.i64 (Prod.snd x)]] fun (r : AV) (H' : List AObj) =>
        ∃ (x_1 : ByteArray),
         r = AV.str x_1 ∧
         H' = [AObj.cells [AV.int IntKind.i64 (Prod.fst x), AV.int IntKind.i64 (Prod.snd x)]] ∧
         needP ((↑(1 + ByteArray.size x_1) : Int) ≤ (9223372036854775807 : Int))
         (Post (AV.str ({ data := #[(61 : UInt8)] } ++ x_1)) [AObj.cells [AV.int IntKind.i64 (Prod.fst x), AV.int IntKind.i64 (Prod.snd x)]]))
      (condP (Prod.fst x == (0 : Int))
        (ASpec Tryd.prog 121 [AV.int IntKind.i64 (Prod.snd x)] [AObj.cells [AV.int IntKind.i64 (Prod.fst x), AV.int IntKind.i64 (Prod.snd x)]] fun (r : AV) (H' : List AObj) =>
         ∃ (x_1 : ByteArray),
         r = AV.str x_1 ∧
         H' = [AObj.cells [AV.int IntKind.i64 (Prod.fst x), AV.int IntKind.i64 (Prod.snd x)]] ∧
         needP ((↑(1 + ByteArray.size x_1) : Int) ≤ (9223372036854775807 : Int))
         (Post (AV.str ({ data := #[(60 : UInt8)] } ++ x_1)) [AObj.cells [AV.int IntKind.i64 (Prod.fst x), AV.int IntKind.i64 (Prod.snd x)]]))
        (condP (Prod.snd x == (1000000000 : Int))
         (ASpec Tryd.prog 121 [AV.int IntKind.i64 (Prod.fst x)] [AObj.cells [AV.int IntKind.i64 (Prod.fst x), AV.int IntKind.i64 (Prod.snd x)]] fun (r : AV) (H' : List AObj) =>
         ∃ (x_1 : ByteArray),
         r = AV.str x_1 ∧
         H' = [AObj.cells [AV.int IntKind.i64 (Prod.fst x), AV.int IntKind.i64 (Prod.snd x)]] ∧
         needP ((↑(2 + ByteArray.size x_1) : Int) ≤ (9223372036854775807 : Int))
         (Post (AV.str ({ data := #[(62 : UInt8), (61 : UInt8)] } ++ x_1)) [AObj.cells [AV.int IntKind.i64 (Prod.fst x), AV.int IntKind.i64 (Prod.snd x)]]))
         (ASpec Tryd.prog 121 [AV.int IntKind.i64 (Prod.fst x)] [AObj.cells [AV.int IntKind.i64 (Prod.fst x), AV.int IntKind.i64 (Prod.snd x)]] fun (r : AV) (H' : List AObj) =>
         ∃ (x_1 : ByteArray),
         r = AV.str x_1 ∧
         H' = [AObj.cells [AV.int IntKind.i64 (Prod.fst x), AV.int IntKind.i64 (Prod.snd x)]] ∧
         (AV.int IntKind.i64 (Prod.snd x) = AV.int IntKind.i64 (Prod.snd x) ∧
         [AObj.cells [AV.int IntKind.i64 (Prod.fst x), AV.int IntKind.i64 (Prod.snd x)]] = [AObj.cells [AV.int IntKind.i64 (Prod.fst x), AV.int IntKind.i64 (Prod.snd x)]]) ∧
         needP ((↑(2 + ByteArray.size x_1) : Int) ≤ (9223372036854775807 : Int))
         (needP ((↑(ByteArray.size ({ data := #[(62 : UInt8), (61 : UInt8)] } ++ x_1) + 2) : Int) ≤ (9223372036854775807 : Int))
         (ASpec Tryd.prog 121 [AV.int IntKind.i64 (Prod.snd x)] [AObj.cells [AV.int IntKind.i64 (Prod.fst x), AV.int IntKind.i64 (Prod.snd x)]] fun (r : AV) (H' : List AObj) =>
         ∃ (x_2 : ByteArray),
         r = AV.str x_2 ∧
         H' = [AObj.cells [AV.int IntKind.i64 (Prod.fst x), AV.int IntKind.i64 (Prod.snd x)]] ∧
         needP
         ((↑(ByteArray.size ({ data := #[(62 : UInt8), (61 : UInt8)] } ++ x_1 ++ { data := #[(32 : UInt8), (60 : UInt8)] }) + ByteArray.size x_2) : Int) ≤
         (9223372036854775807 : Int))
         (Post (AV.str ({ data := #[(62 : UInt8), (61 : UInt8)] } ++ x_1 ++ { data := #[(32 : UInt8), (60 : UInt8)] } ++ x_2))
         [AObj.cells [AV.int IntKind.i64 (Prod.fst x), AV.int IntKind.i64 (Prod.snd x)]])))))) →
    ASpec Tryd.prog 117 [AV.agg (T.encS x)] [] Post := fun x Post h => Go.Ab.ASpec.of_vc g117 Go.Proofs.Tryd.func117 (by kernel_rfl) (by kernel_rfl) (by kernel_rfl) (Go.Ab.kc (by kernel_rfl) h)

-- 119
noncomputable def l10 : Nat → List Nat
  | _ => []
noncomputable def u10 : Nat → Bool
  | _ => false
noncomputable def m10 : Nat → Bool
  | _ => false
noncomputable def g10 : Cfg := { N := 14, live := l10, cut := u10, mu := m10, ret := rets }
theorem s10 : ∀ (Post : AV → List AObj → Prop),
  (ASpec Tryd.prog 20 [AV.agg [AV.str { data := #[(97 : UInt8)] }, AV.sl 2 (Seq.raw [[AV.int IntKind.i64 (1000000 : Int), AV.int IntKind.i64 (1000001 : Int)]]) Tip.full, AV.bool true]]
      [AObj.cells [AV.str { data := #[(97 : UInt8)] }, AV.sl 2 (Seq.raw [[AV.int IntKind.i64 (1000000 : Int), AV.int IntKind.i64 (1000001 : Int)]]) Tip.full, AV.bool true]]
      fun (r : AV) (H' : List AObj) =>
      ∃ (x : ByteArray),
        r = AV.str x ∧
         H' = [AObj.cells [AV.str { data := #[(97 : UInt8)] }, AV.sl 2 (Seq.raw [[AV.int IntKind.i64 (1000000 : Int), AV.int IntKind.i64 (1000001 : Int)]]) Tip.full, AV.bool true]] ∧
         condP
         (ByteArray.toList x ==
         ByteArray.toList
         {
         data :=
         #[(97 : UInt8), (32 : UInt8), (61 : UInt8), (49 : UInt8), (46 : UInt8), (48 : UInt8), (46 : UInt8), (48 : UInt8), (32 : UInt8), (111 : UInt8), (114 : UInt8), (32 : UInt8),
         (97 : UInt8), (98 : UInt8), (115 : UInt8), (101 : UInt8), (110 : UInt8), (116 : UInt8)] })
         (ASpec Tryd.prog 11
         [AV.agg [AV.str { data := #[(97 : UInt8)] }, AV.sl 2 (Seq.raw [[AV.int IntKind.i64 (1000000 : Int), AV.int IntKind.i64 (1000001 : Int)]]) Tip.full, AV.bool true]]
         [AObj.cells [AV.str { data := #[(97 : UInt8)] }, AV.sl 2 (Seq.raw [[AV.int IntKind.i64 (1000000 : Int), AV.int IntKind.i64 (1000001 : Int)]]) Tip.full, AV.bool true]]
         fun (r : AV) (H' : List AObj) =>
         ∃ (x : List UInt8 × List T.Span × Bool),
         r = AV.agg [AV.str { data := List.toArray (Prod.fst x) }, AV.sl 2 (Seq.map T.encS ((0 : Int), (0 : Int)) (Prod.fst (Prod.snd x))) Tip.none, AV.bool (Prod.snd (Prod.snd x))] ∧
         H' =
         [AObj.cells [AV.str { data := #[(97 : UInt8)] }, AV.sl 2 (Seq.raw [[AV.int IntKind.i64 (1000000 : Int), AV.int IntKind.i64 (1000001 : Int)]]) Tip.full, AV.bool true]] ∧
         ASpec Tryd.prog 20
         [AV.agg
         [AV.str { data := List.toArray (Prod.fst x) }, AV.sl 2 (Seq.map T.encS ((0 : Int), (0 : Int)) (Prod.fst (Prod.snd x))) Tip.none, AV.bool (Prod.snd (Prod.snd x))]]
         [AObj.cells [AV.str { data := #[(97 : UInt8)] }, AV.sl 2 (Seq.raw [[AV.int IntKind.i64 (1000000 : Int), AV.int IntKind.i64 (1000001 : Int)]]) Tip.full, AV.bool true]]
         fun (r : AV) (H' : List AObj) =>
         ∃ (x : ByteArray),
         r = AV.str x ∧
         H' =
         [AObj.cells
         [AV.str { data := #[(97 : UInt8)] }, AV.sl 2 (Seq.raw [[AV.int IntKind.i64 (1000000 : Int), AV.int IntKind.i64 (1000001 : Int)]]) Tip.full, AV.bool true]] ∧
         Post
         (AV.bool
         (ByteArray.toList x ==
         ByteArray.toList
         {
         data :=
         #[(97 : UInt8), (32 : UInt8), (60 : UInt8), (49 : UInt8), (46 : UInt8), (48 : UInt8), (46 : UInt8), (48 : UInt8), (32 : UInt8), (124 : UInt8), (32 : UInt8),
         (62 : UInt8), (61 : UInt8), (49 : UInt8), (46 : UInt8), (48 : UInt8), (46 : UInt8), (49 : UInt8)] }))
         [AObj.cells
         [AV.str { data := #[(97 : UInt8)] }, AV.sl 2 (Seq.raw [[AV.int IntKind.i64 (1000000 : Int), AV.int IntKind.i64 (1000001 : Int)]]) Tip.full, AV.bool true]])
         (Post (AV.bool false)
         [AObj.cells [AV.str { data := #[(97 : UInt8)] }, AV.sl 2 (Seq.raw [[AV.int IntKind.i64 (1000000 : Int), AV.int IntKind.i64 (1000001 : Int)]]) Tip.full, AV.bool true]])) →
    ASpec Tryd.prog 10 [] [] Post := fun Post h => Go.Ab.ASpec.of_vc g10 Go.Proofs.Tryd.func10 (by kernel_rfl) (by kernel_rfl) (by kernel_rfl) (Go.Ab.kc (by kernel_rfl) h)

-- 3
noncomputable def l3 : Nat → List Nat
  | 4 => [2, 3]
  | 7 => [2, 3, 5]
  | _ => []
noncomputable def u3 : Nat → Bool
  | 4 => true
  | 7 => true
  | _ => false
noncomputable def m3 : Nat → Bool
  | _ => false
noncomputable def g3 : Cfg := { N := 84, live := l3, cut := u3, mu := m3, ret := rets }
noncomputable def c3 : Go.Code := Go.Ab.bodyOf Go.Proofs.Tryd.f3
noncomputable def q3_0 : Nat → (AV → List AObj → Prop) → AQ := fun (n : Nat) (Post : AV → List AObj → Prop) => endQ Tryd.prog (resultsOf Tryd.f3) Post
noncomputable def c3_4 : Go.Code := codeSnd (codeSnd (codeSnd c3))
theorem s3 : ∀ (a b : T.Term) (Post : AV → List AObj → Prop),
  (ASpec Tryd.prog 8
      [AV.agg [AV.str { data := List.toArray (Prod.fst a) }, AV.sl 2 (Seq.map T.encS ((0 : Int), (0 : Int)) (Prod.fst (Prod.snd a))) Tip.none, AV.bool (Prod.snd (Prod.snd a))]]
      [AObj.cells [AV.str { data := List.toArray (Prod.fst a) }, AV.sl 2 (Seq.map T.encS ((0 : Int), (0 : Int)) (Prod.fst (Prod.snd a))) Tip.none, AV.bool (Prod.snd (Prod.snd a))],
        AObj.cells [AV.str { data := List.toArray (Prod.fst a) }, AV.sl 2 (Seq.map T.encS ((0 : Int), (0 : Int)) (Prod.fst (Prod.snd b))) Tip.none, AV.bool (Prod.snd (Prod.snd b))]]
      fun (r : AV) (H' : List AObj) =>
      ∃ (x : Bool),
        r = AV.bool x ∧
         H' =
         [AObj.cells [AV.str { data := List.toArray (Prod.fst a) }, AV.sl 2 (Seq.map T.encS ((0 : Int), (0 : Int)) (Prod.fst (Prod.snd a))) Tip.none, AV.bool (Prod.snd (Prod.snd a))],
         AObj.cells [AV.str { data := List.toArray (Prod.fst a) }, AV.sl 2 (Seq.map T.encS ((0 : Int), (0 : Int)) (Prod.fst (Prod.snd b))) Tip.none, AV.bool (Prod.snd (Prod.snd b))]] ∧
         condP x
         (ASpec Tryd.prog 10 []
         [AObj.cells [AV.str { data := List.toArray (Prod.fst a) }, AV.sl 2 (Seq.map T.encS ((0 : Int), (0 : Int)) (Prod.fst (Prod.snd a))) Tip.none, AV.bool (Prod.snd (Prod.snd a))],
         AObj.cells [AV.str { data := List.toArray (Prod.fst a) }, AV.sl 2 (Seq.map T.encS ((0 : Int), (0 : Int)) (Prod.fst (Prod.snd b))) Tip.none, AV.bool (Prod.snd (Prod.snd b))]]
         fun (r : AV) (H' : List AObj) =>
         ∃ (x : Unit),
         r = AV.bool true ∧
         H' =
         [AObj.cells
         [AV.str { data := List.toArray (Prod.fst a) }, AV.sl 2 (Seq.map T.encS ((0 : Int), (0 : Int)) (Prod.fst (Prod.snd a))) Tip.none, AV.bool (Prod.snd (Prod.snd a))],
         AObj.cells
         [AV.str { data := List.toArray (Prod.fst a) }, AV.sl 2 (Seq.map T.encS ((0 : Int), (0 : Int)) (Prod.fst (Prod.snd b))) Tip.none, AV.bool (Prod.snd (Prod.snd b))]] ∧
         Post (AV.bool true)
         [AObj.cells
         [AV.str { data := List.toArray (Prod.fst a) }, AV.sl 2 (Seq.map T.encS ((0 : Int), (0 : Int)) (Prod.fst (Prod.snd a))) Tip.none, AV.bool (Prod.snd (Prod.snd a))],
         AObj.cells
         [AV.str { data := List.toArray (Prod.fst a) }, AV.sl 2 (Seq.map T.encS ((0 : Int), (0 : Int)) (Prod.fst (Prod.snd b))) Tip.none, AV.bool (Prod.snd (Prod.snd b))]])
         (ASpec Tryd.prog 8
         [AV.agg [AV.str { data := List.toArray (Prod.fst a) }, AV.sl 2 (Seq.map T.encS ((0 : Int), (0 : Int)) (Prod.fst (Prod.snd b))) Tip.none, AV.bool (Prod.snd (Prod.snd b))]]
         [AObj.cells [AV.str { data := List.toArray (Prod.fst a) }, AV.sl 2 (Seq.map T.encS ((0 : Int), (0 : Int)) (Prod.fst (Prod.snd a))) Tip.none, AV.bool (Prod.snd (Prod.snd a))],
         AObj.cells [AV.str { data := List.toArray (Prod.fst a) }, AV.sl 2 (Seq.map T.encS ((0 : Int), (0 : Int)) (Prod.fst (Prod.snd b))) Tip.none, AV.bool (Prod.snd (Prod.snd b))]]
         fun (r : AV) (H' : List AObj) =>
         ∃ (x : Bool),
         r = AV.bool x ∧
         H' =
         [AObj.cells
         [AV.str { data := List.toArray (Prod.fst a) }, AV.sl 2 (Seq.map T.encS ((0 : Int), (0 : Int)) (Prod.fst (Prod.snd a))) Tip.none, AV.bool (Prod.snd (Prod.snd a))],
         AObj.cells
         [AV.str { data := List.toArray (Prod.fst a) }, AV.sl 2 (Seq.map T.encS ((0 : Int), (0 : Int)) (Prod.fst (Prod.snd b))) Tip.none, AV.bool (Prod.snd (Prod.snd b))]] ∧
         condP x
         (ASpec Tryd.prog 10 []
         [AObj.cells
         [AV.str { data := List.toArray (Prod.fst a) }, AV.sl 2 (Seq.map T.encS ((0 : Int), (0 : Int)) (Prod.fst (Prod.snd a))) Tip.none, AV.bool (Prod.snd (Prod.snd a))],
         AObj.cells
         [AV.str { data := List.toArray (Prod.fst a) }, AV.sl 2 (Seq.map T.encS ((0 : Int), (0 : Int)) (Prod.fst (Prod.snd b))) Tip.none, AV.bool (Prod.snd (Prod.snd b))]]
         fun (r : AV) (H' : List AObj) =>
         ∃ (x : Unit),
         r = AV.bool true ∧
         H' =
         [AObj.cells
         [AV.str { data := List.toArray (Prod.fst a) }, AV.sl 2 (Seq.map T.encS ((0 : Int), (0 : Int)) (Prod.fst (Prod.snd a))) Tip.none,
         AV.bool (Prod.snd (Prod.snd a))],
         AObj.cells
         [AV.str { data := List.toArray (Prod.fst a) }, AV.sl 2 (Seq.map T.encS ((0 : Int), (0 : Int)) (Prod.fst (Prod.snd b))) Tip.none,
         AV.bool (Prod.snd (Prod.snd b))]] ∧
         Post (AV.bool true)
         [AObj.cells
         [AV.str { data := List.toArray (Prod.fst a) }, AV.sl 2 (Seq.map T.encS ((0 : Int), (0 : Int)) (Prod.fst (Prod.snd a))) Tip.none,
         AV.bool (Prod.snd (Prod.snd a))],
         AObj.cells
         [AV.str { data := List.toArray (Prod.fst a) }, AV.sl 2 (Seq.map T.encS ((0 : Int), (0 : Int)) (Prod.fst (Prod.snd b))) Tip.none,
         AV.bool (Prod.snd (Prod.snd b))]])
         (ASpec Tryd.prog 9
         [AV.agg
         [AV.str { data := List.toArray (Prod.fst a) }, AV.sl 2 (Seq.map T.encS ((0 : Int), (0 : Int)) (Prod.fst (Prod.snd a))) Tip.none, AV.bool (Prod.snd (Prod.snd a))]]
         [AObj.cells
         [AV.str { data := List.toArray (Prod.fst a) }, AV.sl 2 (Seq.map T.encS ((0 : Int), (0 : Int)) (Prod.fst (Prod.snd a))) Tip.none, AV.bool (Prod.snd (Prod.snd a))],
         AObj.cells
         [AV.str { data := List.toArray (Prod.fst a) }, AV.sl 2 (Seq.map T.encS ((0 : Int), (0 : Int)) (Prod.fst (Prod.snd b))) Tip.none, AV.bool (Prod.snd (Prod.snd b))]]
         fun (r : AV) (H' : List AObj) =>
         ∃ (x : Bool),
         r = AV.bool x ∧
         H' =
         [AObj.cells
         [AV.str { data := List.toArray (Prod.fst a) }, AV.sl 2 (Seq.map T.encS ((0 : Int), (0 : Int)) (Prod.fst (Prod.snd a))) Tip.none,
         AV.bool (Prod.snd (Prod.snd a))],
         AObj.cells
         [AV.str { data := List.toArray (Prod.fst a) }, AV.sl 2 (Seq.map T.encS ((0 : Int), (0 : Int)) (Prod.fst (Prod.snd b))) Tip.none,
         AV.bool (Prod.snd (Prod.snd b))]] ∧
         condP (!x)
         (ASpec Tryd.prog 10 []
         [AObj.cells
         [AV.str { data := List.toArray (Prod.fst a) }, AV.sl 2 (Seq.map T.encS ((0 : Int), (0 : Int)) (Prod.fst (Prod.snd a))) Tip.none,
         AV.bool (Prod.snd (Prod.snd a))],
         AObj.cells
         [AV.str { data := List.toArray (Prod.fst a) }, AV.sl 2 (Seq.map T.encS ((0 : Int), (0 : Int)) (Prod.fst (Prod.snd b))) Tip.none,
         AV.bool (Prod.snd (Prod.snd b))]]
         fun (r : AV) (H' : List AObj) =>
         ∃ (x : Unit),
         r = AV.bool true ∧
         H' =
         [AObj.cells
         [AV.str { data := List.toArray (Prod.fst a) }, AV.sl 2 (Seq.map T.encS ((0 : Int), (0 : Int)) (Prod.fst (Prod.snd a))) Tip.none,
         AV.bool (Prod.snd (Prod.snd a))],
         AObj.cells
         [AV.str { data := List.toArray (Prod.fst a) }, AV.sl 2 (Seq.map T.encS ((0 : Int), (0 : Int)) (Prod.fst (Prod.snd b))) Tip.none,
         AV.bool (Prod.snd (Prod.snd b))]] ∧
         Post (AV.bool true)
         [AObj.cells
         [AV.str { data := List.toArray (Prod.fst a) }, AV.sl 2 (Seq.map T.encS ((0 : Int), (0 : Int)) (Prod.fst (Prod.snd a))) Tip.none,
         AV.bool (Prod.snd (Prod.snd a))],
         AObj.cells
         [AV.str { data := List.toArray (Prod.fst a) }, AV.sl 2 (Seq.map T.encS ((0 : Int), (0 : Int)) (Prod.fst (Prod.snd b))) Tip.none,
         AV.bool (Prod.snd (Prod.snd b))]])
         (ASpec Tryd.prog 9
         [AV.agg
         [AV.str { data := List.toArray (Prod.fst a) }, AV.sl 2 (Seq.map T.encS ((0 : Int), (0 : Int)) (Prod.fst (Prod.snd b))) Tip.none,
         AV.bool (Prod.snd (Prod.snd b))]]
         [AObj.cells
         [AV.str { data := List.toArray (Prod.fst a) }, AV.sl 2 (Seq.map T.encS ((0 : Int), (0 : Int)) (Prod.fst (Prod.snd a))) Tip.none,
         AV.bool (Prod.snd (Prod.snd a))],
         AObj.cells
         [AV.str { data := List.toArray (Prod.fst a) }, AV.sl 2 (Seq.map T.encS ((0 : Int), (0 : Int)) (Prod.fst (Prod.snd b))) Tip.none,
         AV.bool (Prod.snd (Prod.snd b))]]
         fun (r : AV) (H' : List AObj) =>
         ∃ (x : Bool),
         r = AV.bool x ∧
         H' =
         [AObj.cells
         [AV.str { data := List.toArray (Prod.fst a) }, AV.sl 2 (Seq.map T.encS ((0 : Int), (0 : Int)) (Prod.fst (Prod.snd a))) Tip.none,
         AV.bool (Prod.snd (Prod.snd a))],
         AObj.cells
         [AV.str { data := List.toArray (Prod.fst a) }, AV.sl 2 (Seq.map T.encS ((0 : Int), (0 : Int)) (Prod.fst (Prod.snd b))) Tip.none,
         AV.bool (Prod.snd (Prod.snd b))]] ∧
         condP (!x)
         (ASpec Tryd.prog 10 []
         [AObj.cells
         [AV.str { data := List.toArray (Prod.fst a) }, AV.sl 2 (Seq.map T.encS ((0 : Int), (0 : Int)) (Prod.fst (Prod.snd a))) Tip.none,
         AV.bool (Prod.snd (Prod.snd a))],
         AObj.cells
         [AV.str { data := List.toArray (Prod.fst a) }, AV.sl 2 (Seq.map T.encS ((0 : Int), (0 : Int)) (Prod.fst (Prod.snd b))) Tip.none,
         AV.bool (Prod.snd (Prod.snd b))]]
         fun (r : AV) (H' : List AObj) =>
         ∃ (x : Unit),
         r = AV.bool true ∧
         H' =
         [AObj.cells
         [AV.str { data := List.toArray (Prod.fst a) }, AV.sl 2 (Seq.map T.encS ((0 : Int), (0 : Int)) (Prod.fst (Prod.snd a))) Tip.none,
         AV.bool (Prod.snd (Prod.snd a))],
         AObj.cells
         [AV.str { data := List.toArray (Prod.fst a) }, AV.sl 2 (Seq.map T.encS ((0 : Int), (0 : Int)) (Prod.fst (Prod.snd b))) Tip.none,
         AV.bool (Prod.snd (Prod.snd b))]] ∧
         Post (AV.bool true)
         [AObj.cells
         [AV.str { data := List.toArray (Prod.fst a) }, AV.sl 2 (Seq.map T.encS ((0 : Int), (0 : Int)) (Prod.fst (Prod.snd a))) Tip.none,
         AV.bool (Prod.snd (Prod.snd a))],
         AObj.cells
         [AV.str { data := List.toArray (Prod.fst a) }, AV.sl 2 (Seq.map T.encS ((0 : Int), (0 : Int)) (Prod.fst (Prod.snd b))) Tip.none,
         AV.bool (Prod.snd (Prod.snd b))]])
         (AWP Tryd.prog 84 0 c3_4 [(2, AV.ptr 0 0), (3, AV.ptr 1 0)]
         [AObj.cells
         [AV.str { data := List.toArray (Prod.fst a) }, AV.sl 2 (Seq.map T.encS ((0 : Int), (0 : Int)) (Prod.fst (Prod.snd a))) Tip.none,
         AV.bool (Prod.snd (Prod.snd a))],
         AObj.cells
         [AV.str { data := List.toArray (Prod.fst a) }, AV.sl 2 (Seq.map T.encS ((0 : Int), (0 : Int)) (Prod.fst (Prod.snd b))) Tip.none,
         AV.bool (Prod.snd (Prod.snd b))]]
         (q3_0 0 Post)))))) →
    ASpec Tryd.prog 3 [AV.agg (T.encT a), AV.agg (T.encT b)] [] Post := fun a b Post h => Go.Ab.ASpec.of_vc g3 Go.Proofs.Tryd.func3 (by kernel_rfl) (by kernel_rfl) (by kernel_rfl) (Go.Ab.kc (by kernel_rfl) h)
noncomputable def c3_7 : Go.Code := codeSnd (codeSnd c3_4)
theorem v3_4 : ∀ (a b : T.Term) (n : Nat) (Post : AV → List AObj → Prop),
  (ASpec Tryd.prog 11
      [AV.agg [AV.str { data := List.toArray (Prod.fst a) }, AV.sl 2 (Seq.map T.encS ((0 : Int), (0 : Int)) (Prod.fst (Prod.snd a))) Tip.none, AV.bool (Prod.snd (Prod.snd a))]]
      [AObj.cells [AV.str { data := List.toArray (Prod.fst a) }, AV.sl 2 (Seq.map T.encS ((0 : Int), (0 : Int)) (Prod.fst (Prod.snd a))) Tip.none, AV.bool (Prod.snd (Prod.snd a))],
        AObj.cells [AV.str { data := List.toArray (Prod.fst b) }, AV.sl 2 (Seq.map T.encS ((0 : Int), (0 : Int)) (Prod.fst (Prod.snd b))) Tip.none, AV.bool (Prod.snd (Prod.snd b))]]
      fun (r : AV) (H' : List AObj) =>
      ∃ (x : List UInt8 × List T.Span × Bool),
        r = AV.agg [AV.str { data := List.toArray (Prod.fst x) }, AV.sl 2 (Seq.map T.encS ((0 : Int), (0 : Int)) (Prod.fst (Prod.snd x))) Tip.none, AV.bool (Prod.snd (Prod.snd x))] ∧
         H' =
         [AObj.cells [AV.str { data := List.toArray (Prod.fst a) }, AV.sl 2 (Seq.map T.encS ((0 : Int), (0 : Int)) (Prod.fst (Prod.snd a))) Tip.none, AV.bool (Prod.snd (Prod.snd a))],
         AObj.cells [AV.str { data := List.toArray (Prod.fst b) }, AV.sl 2 (Seq.map T.encS ((0 : Int), (0 : Int)) (Prod.fst (Prod.snd b))) Tip.none, AV.bool (Prod.snd (Prod.snd b))]] ∧
         ASpec Tryd.prog 13
         [AV.agg [AV.str { data := List.toArray (Prod.fst a) }, AV.sl 2 (Seq.map T.encS ((0 : Int), (0 : Int)) (Prod.fst (Prod.snd a))) Tip.none, AV.bool (Prod.snd (Prod.snd a))],
         AV.agg [AV.str { data := List.toArray (Prod.fst x) }, AV.sl 2 (Seq.map T.encS ((0 : Int), (0 : Int)) (Prod.fst (Prod.snd x))) Tip.none, AV.bool (Prod.snd (Prod.snd x))]]
         [AObj.cells [AV.str { data := List.toArray (Prod.fst a) }, AV.sl 2 (Seq.map T.encS ((0 : Int), (0 : Int)) (Prod.fst (Prod.snd a))) Tip.none, AV.bool (Prod.snd (Prod.snd a))],
         AObj.cells [AV.str { data := List.toArray (Prod.fst b) }, AV.sl 2 (Seq.map T.encS ((0 : Int), (0 : Int)) (Prod.fst (Prod.snd b))) Tip.none, AV.bool (Prod.snd (Prod.snd b))],
         AObj.cells [AV.str { data := List.toArray (Prod.fst x) }, AV.sl 2 (Seq.map T.encS ((0 : Int), (0 : Int)) (Prod.fst (Prod.snd x))) Tip.none, AV.bool (Prod.snd (Prod.snd x))]]
         fun (r : AV) (H' : List AObj) =>
         ∃ (x_1 : List UInt8 × List T.Span × Bool),
         r =
         AV.agg
         [AV.str { data := List.toArray (Prod.fst x_1) }, AV.sl 2 (Seq.map T.encS ((0 : Int), (0 : Int)) (Prod.fst (Prod.snd x_1))) Tip.none, AV.bool (Prod.snd (Prod.snd x_1))] ∧
         H' =
         [AObj.cells
         [AV.str { data := List.toArray (Prod.fst a) }, AV.sl 2 (Seq.map T.encS ((0 : Int), (0 : Int)) (Prod.fst (Prod.snd a))) Tip.none, AV.bool (Prod.snd (Prod.snd a))],
         AObj.cells
         [AV.str { data := List.toArray (Prod.fst b) }, AV.sl 2 (Seq.map T.encS ((0 : Int), (0 : Int)) (Prod.fst (Prod.snd b))) Tip.none, AV.bool (Prod.snd (Prod.snd b))],
         AObj.cells
         [AV.str { data := List.toArray (Prod.fst x) }, AV.sl 2 (Seq.map T.encS ((0 : Int), (0 : Int)) (Prod.fst (Prod.snd x))) Tip.none, AV.bool (Prod.snd (Prod.snd x))]] ∧
         ASpec Tryd.prog 12
         [AV.agg
         [AV.str { data := List.toArray (Prod.fst x_1) }, AV.sl 2 (Seq.map T.encS ((0 : Int), (0 : Int)) (Prod.fst (Prod.snd x_1))) Tip.none,
         AV.bool (Prod.snd (Prod.snd x_1))]]
         [AObj.cells
         [AV.str { data := List.toArray (Prod.fst a) }, AV.sl 2 (Seq.map T.encS ((0 : Int), (0 : Int)) (Prod.fst (Prod.snd a))) Tip.none, AV.bool (Prod.snd (Prod.snd a))],
         AObj.cells
         [AV.str { data := List.toArray (Prod.fst b) }, AV.sl 2 (Seq.map T.encS ((0 : Int), (0 : Int)) (Prod.fst (Prod.snd b))) Tip.none, AV.bool (Prod.snd (Prod.snd b))],
         AObj.cells
         [AV.str { data := List.toArray (Prod.fst x) }, AV.sl 2 (Seq.map T.encS ((0 : Int), (0 : Int)) (Prod.fst (Prod.snd x))) Tip.none, AV.bool (Prod.snd (Prod.snd x))]]
         fun (r : AV) (H' : List AObj) =>
         ∃ (x_2 : Bool),
         r = AV.bool x_2 ∧
         H' =
         [AObj.cells
         [AV.str { data := List.toArray (Prod.fst a) }, AV.sl 2 (Seq.map T.encS ((0 : Int), (0 : Int)) (Prod.fst (Prod.snd a))) Tip.none,
         AV.bool (Prod.snd (Prod.snd a))],
         AObj.cells
         [AV.str { data := List.toArray (Prod.fst b) }, AV.sl 2 (Seq.map T.encS ((0 : Int), (0 : Int)) (Prod.fst (Prod.snd b))) Tip.none,
         AV.bool (Prod.snd (Prod.snd b))],
         AObj.cells
         [AV.str { data := List.toArray (Prod.fst x) }, AV.sl 2 (Seq.map T.encS ((0 : Int), (0 : Int)) (Prod.fst (Prod.snd x))) Tip.none,
         AV.bool (Prod.snd (Prod.snd x))]] ∧
         condP (!x_2)
         (AV.tup [] = AV.tup [] ∧
         Post (AV.bool false)
         [AObj.cells
         [AV.str { data := List.toArray (Prod.fst a) }, AV.sl 2 (Seq.map T.encS ((0 : Int), (0 : Int)) (Prod.fst (Prod.snd a))) Tip.none,
         AV.bool (Prod.snd (Prod.snd a))],
         AObj.cells
         [AV.str { data := List.toArray (Prod.fst b) }, AV.sl 2 (Seq.map T.encS ((0 : Int), (0 : Int)) (Prod.fst (Prod.snd b))) Tip.none,
         AV.bool (Prod.snd (Prod.snd b))],
         AObj.cells
         [AV.str { data := List.toArray (Prod.fst x) }, AV.sl 2 (Seq.map T.encS ((0 : Int), (0 : Int)) (Prod.fst (Prod.snd x))) Tip.none,
         AV.bool (Prod.snd (Prod.snd x))]])
         (ASpec Tryd.prog 15
         [AV.agg
         [AV.str { data := List.toArray (Prod.fst a) }, AV.sl 2 (Seq.map T.encS ((0 : Int), (0 : Int)) (Prod.fst (Prod.snd a))) Tip.none,
         AV.bool (Prod.snd (Prod.snd a))],
         AV.agg
         [AV.str { data := List.toArray (Prod.fst x) }, AV.sl 2 (Seq.map T.encS ((0 : Int), (0 : Int)) (Prod.fst (Prod.snd x))) Tip.none,
         AV.bool (Prod.snd (Prod.snd x))]]
         [AObj.cells
         [AV.str { data := List.toArray (Prod.fst a) }, AV.sl 2 (Seq.map T.encS ((0 : Int), (0 : Int)) (Prod.fst (Prod.snd a))) Tip.none,
         AV.bool (Prod.snd (Prod.snd a))],
         AObj.cells
         [AV.str { data := List.toArray (Prod.fst b) }, AV.sl 2 (Seq.map T.encS ((0 : Int), (0 : Int)) (Prod.fst (Prod.snd b))) Tip.none,
         AV.bool (Prod.snd (Prod.snd b))],
         AObj.cells
         [AV.str { data := List.toArray (Prod.fst x) }, AV.sl 2 (Seq.map T.encS ((0 : Int), (0 : Int)) (Prod.fst (Prod.snd x))) Tip.none,
         AV.bool (Prod.snd (Prod.snd x))]]
         fun (r : AV) (H' : List AObj) =>
         ∃ (x_3 : List UInt8 × List T.Span × Bool),
         r =
         AV.agg
         [AV.str { data := List.toArray (Prod.fst x_3) }, AV.sl 2 (Seq.map T.encS ((0 : Int), (0 : Int)) (Prod.fst (Prod.snd x_3))) Tip.none,
         AV.bool (Prod.snd (Prod.snd x_3))] ∧
         H' =
         [AObj.cells
         [AV.str { data := List.toArray (Prod.fst a) }, AV.sl 2 (Seq.map T.encS ((0 : Int), (0 : Int)) (Prod.fst (Prod.snd a))) Tip.none,
         AV.bool (Prod.snd (Prod.snd a))],
         AObj.cells
         [AV.str { data := List.toArray (Prod.fst b) }, AV.sl 2 (Seq.map T.encS ((0 : Int), (0 : Int)) (Prod.fst (Prod.snd b))) Tip.none,
         AV.bool (Prod.snd (Prod.snd b))],
         AObj.cells
         [AV.str { data := List.toArray (Prod.fst x) }, AV.sl 2 (Seq.map T.encS ((0 : Int), (0 : Int)) (Prod.fst (Prod.snd x))) Tip.none,
         AV.bool (Prod.snd (Prod.snd x))]] ∧
         ASpec Tryd.prog 14
         [AV.agg
         [AV.str { data := List.toArray (Prod.fst x_3) }, AV.sl 2 (Seq.map T.encS ((0 : Int), (0 : Int)) (Prod.fst (Prod.snd x_3))) Tip.none,
         AV.bool (Prod.snd (Prod.snd x_3))]]
         [AObj.cells
         [AV.str { data := List.toArray (Prod.fst a) }, AV.sl 2 (Seq.map T.encS ((0 : Int), (0 : Int)) (Prod.fst (Prod.snd a))) Tip.none,
         AV.bool (Prod.snd (Prod.snd a))],
         AObj.cells
         [AV.str { data := List.toArray (Prod.fst b) }, AV.sl 2 (Seq.map T.encS ((0 : Int), (0 : Int)) (Prod.fst (Prod.snd b))) Tip.none,
         AV.bool (Prod.snd (Prod.snd b))],
         AObj.cells
         [AV.str { data := List.toArray (Prod.fst x) }, AV.sl 2 (Seq.map T.encS ((0 : Int), (0 : Int)) (Prod.fst (Prod.snd x))) Tip.none,
         AV.bool (Prod.snd (Prod.snd x))]]
         fun (r : AV) (H' : List AObj) =>
         ∃ (x_4 : Bool),
         r = AV.bool x_4 ∧
         H' =
         [AObj.cells
         [AV.str { data := List.toArray (Prod.fst a) }, AV.sl 2 (Seq.map T.encS ((0 : Int), (0 : Int)) (Prod.fst (Prod.snd a))) Tip.none,
         AV.bool (Prod.snd (Prod.snd a))],
         AObj.cells
         [AV.str { data := List.toArray (Prod.fst b) }, AV.sl 2 (Seq.map T.encS ((0 : Int), (0 : Int)) (Prod.fst (Prod.snd b))) Tip.none,
         AV.bool (Prod.snd (Prod.snd b))],
         AObj.cells
         [AV.str { data := List.toArray (Prod.fst x) }, AV.sl 2 (Seq.map T.encS ((0 : Int), (0 : Int)) (Prod.fst (Prod.snd x))) Tip.none,
         AV.bool (Prod.snd (Prod.snd x))]] ∧
         condP (!x_4)
         (AV.tup [] = AV.tup [] ∧
         Post (AV.bool false)
         [AObj.cells
         [AV.str { data := List.toArray (Prod.fst a) }, AV.sl 2 (Seq.map T.encS ((0 : Int), (0 : Int)) (Prod.fst (Prod.snd a))) Tip.none,
         AV.bool (Prod.snd (Prod.snd a))],
         AObj.cells
         [AV.str { data := List.toArray (Prod.fst b) }, AV.sl 2 (Seq.map T.encS ((0 : Int), (0 : Int)) (Prod.fst (Prod.snd b))) Tip.none,
         AV.bool (Prod.snd (Prod.snd b))],
         AObj.cells
         [AV.str { data := List.toArray (Prod.fst x) }, AV.sl 2 (Seq.map T.encS ((0 : Int), (0 : Int)) (Prod.fst (Prod.snd x))) Tip.none,
         AV.bool (Prod.snd (Prod.snd x))]])
         (ASpec Tryd.prog 11
         [AV.agg
         [AV.str { data := List.toArray (Prod.fst x) }, AV.sl 2 (Seq.map T.encS ((0 : Int), (0 : Int)) (Prod.fst (Prod.snd x))) Tip.none,
         AV.bool (Prod.snd (Prod.snd x))]]
         [AObj.cells
         [AV.str { data := List.toArray (Prod.fst a) }, AV.sl 2 (Seq.map T.encS ((0 : Int), (0 : Int)) (Prod.fst (Prod.snd a))) Tip.none,
         AV.bool (Prod.snd (Prod.snd a))],
         AObj.cells
         [AV.str { data := List.toArray (Prod.fst b) }, AV.sl 2 (Seq.map T.encS ((0 : Int), (0 : Int)) (Prod.fst (Prod.snd b))) Tip.none,
         AV.bool (Prod.snd (Prod.snd b))],
         AObj.cells
         [AV.str { data := List.toArray (Prod.fst x) }, AV.sl 2 (Seq.map T.encS ((0 : Int), (0 : Int)) (Prod.fst (Prod.snd x))) Tip.none,
         AV.bool (Prod.snd (Prod.snd x))]]
         fun (r : AV) (H' : List AObj) =>
         ∃ (x_5 : List UInt8 × List T.Span × Bool),
         r =
         AV.agg
         [AV.str { data := List.toArray (Prod.fst x_5) }, AV.sl 2 (Seq.map T.encS ((0 : Int), (0 : Int)) (Prod.fst (Prod.snd x_5))) Tip.none,
         AV.bool (Prod.snd (Prod.snd x_5))] ∧
         H' =
         [AObj.cells
         [AV.str { data := List.toArray (Prod.fst a) }, AV.sl 2 (Seq.map T.encS ((0 : Int), (0 : Int)) (Prod.fst (Prod.snd a))) Tip.none,
         AV.bool (Prod.snd (Prod.snd a))],
         AObj.cells
         [AV.str { data := List.toArray (Prod.fst b) }, AV.sl 2 (Seq.map T.encS ((0 : Int), (0 : Int)) (Prod.fst (Prod.snd b))) Tip.none,
         AV.bool (Prod.snd (Prod.snd b))],
         AObj.cells
         [AV.str { data := List.toArray (Prod.fst x) }, AV.sl 2 (Seq.map T.encS ((0 : Int), (0 : Int)) (Prod.fst (Prod.snd x))) Tip.none,
         AV.bool (Prod.snd (Prod.snd x))]] ∧
         (AV.agg
         [AV.str { data := List.toArray (Prod.fst a) }, AV.sl 2 (Seq.map T.encS ((0 : Int), (0 : Int)) (Prod.fst (Prod.snd a))) Tip.none,
         AV.bool (Prod.snd (Prod.snd a))] =
         AV.agg
         [AV.str { data := List.toArray (Prod.fst a) }, AV.sl 2 (Seq.map T.encS ((0 : Int), (0 : Int)) (Prod.fst (Prod.snd a))) Tip.none,
         AV.bool (Prod.snd (Prod.snd a))] ∧
         [AObj.cells
         [AV.str { data := List.toArray (Prod.fst a) },
         AV.sl 2 (Seq.map T.encS ((0 : Int), (0 : Int)) (Prod.fst (Prod.snd a))) Tip.none, AV.bool (Prod.snd (Prod.snd a))],
         AObj.cells
         [AV.str { data := List.toArray (Prod.fst b) },
         AV.sl 2 (Seq.map T.encS ((0 : Int), (0 : Int)) (Prod.fst (Prod.snd b))) Tip.none, AV.bool (Prod.snd (Prod.snd b))],
         AObj.cells
         [AV.str { data := List.toArray (Prod.fst x) },
         AV.sl 2 (Seq.map T.encS ((0 : Int), (0 : Int)) (Prod.fst (Prod.snd x))) Tip.none, AV.bool (Prod.snd (Prod.snd x))]] =
         [AObj.cells
         [AV.str { data := List.toArray (Prod.fst a) },
         AV.sl 2 (Seq.map T.encS ((0 : Int), (0 : Int)) (Prod.fst (Prod.snd a))) Tip.none, AV.bool (Prod.snd (Prod.snd a))],
         AObj.cells
         [AV.str { data := List.toArray (Prod.fst b) },
         AV.sl 2 (Seq.map T.encS ((0 : Int), (0 : Int)) (Prod.fst (Prod.snd b))) Tip.none, AV.bool (Prod.snd (Prod.snd b))],
         AObj.cells
         [AV.str { data := List.toArray (Prod.fst x) },
         AV.sl 2 (Seq.map T.encS ((0 : Int), (0 : Int)) (Prod.fst (Prod.snd x))) Tip.none, AV.bool (Prod.snd (Prod.snd x))]]) ∧
         ASpec Tryd.prog 16
         [AV.agg
         [AV.str { data := List.toArray (Prod.fst x_5) },
         AV.sl 2 (Seq.map T.encS ((0 : Int), (0 : Int)) (Prod.fst (Prod.snd x_5))) Tip.none, AV.bool (Prod.snd (Prod.snd x_5))],
         AV.agg
         [AV.str { data := List.toArray (Prod.fst a) }, AV.sl 2 (Seq.map T.encS ((0 : Int), (0 : Int)) (Prod.fst (Prod.snd a))) Tip.none,
         AV.bool (Prod.snd (Prod.snd a))]]
         [AObj.cells
         [AV.str { data := List.toArray (Prod.fst a) }, AV.sl 2 (Seq.map T.encS ((0 : Int), (0 : Int)) (Prod.fst (Prod.snd a))) Tip.none,
         AV.bool (Prod.snd (Prod.snd a))],
         AObj.cells
         [AV.str { data := List.toArray (Prod.fst b) }, AV.sl 2 (Seq.map T.encS ((0 : Int), (0 : Int)) (Prod.fst (Prod.snd b))) Tip.none,
         AV.bool (Prod.snd (Prod.snd b))],
         AObj.cells
         [AV.str { data := List.toArray (Prod.fst x) }, AV.sl 2 (Seq.map T.encS ((0 : Int), (0 : Int)) (Prod.fst (Prod.snd x))) Tip.none,
         AV.bool (Prod.snd (Prod.snd x))]]
         fun (r : AV) (H' : List AObj) =>
         ∃ (x_6 : Bool),
         r = AV.bool x_6 ∧
         H' =
         [AObj.cells
         [AV.str { data := List.toArray (Prod.fst a) },
         AV.sl 2 (Seq.map T.encS ((0 : Int), (0 : Int)) (Prod.fst (Prod.snd a))) Tip.none, AV.bool (Prod.snd (Prod.snd a))],
         AObj.cells
         [AV.str { data := List.toArray (Prod.fst b) },
         AV.sl 2 (Seq.map T.encS ((0 : Int), (0 : Int)) (Prod.fst (Prod.snd b))) Tip.none, AV.bool (Prod.snd (Prod.snd b))],
         AObj.cells
         [AV.str { data := List.toArray (Prod.fst x) },
         AV.sl 2 (Seq.map T.encS ((0 : Int), (0 : Int)) (Prod.fst (Prod.snd x))) Tip.none, AV.bool (Prod.snd (Prod.snd x))]] ∧
         condP (!x_6)
         (Post (AV.bool false)
         [AObj.cells
         [AV.str { data := List.toArray (Prod.fst a) },
         AV.sl 2 (Seq.map T.encS ((0 : Int), (0 : Int)) (Prod.fst (Prod.snd a))) Tip.none, AV.bool (Prod.snd (Prod.snd a))],
         AObj.cells
         [AV.str { data := List.toArray (Prod.fst b) },
         AV.sl 2 (Seq.map T.encS ((0 : Int), (0 : Int)) (Prod.fst (Prod.snd b))) Tip.none, AV.bool (Prod.snd (Prod.snd b))],
         AObj.cells
         [AV.str { data := List.toArray (Prod.fst x) },
         AV.sl 2 (Seq.map T.encS ((0 : Int), (0 : Int)) (Prod.fst (Prod.snd x))) Tip.none, AV.bool (Prod.snd (Prod.snd x))]])
         (AWP Tryd.prog 84 n c3_7
         [(2, AV.ptr 0 0), (3, AV.ptr 1 0), (5, AV.ptr 2 0)]
         [AObj.cells
         [AV.str { data := List.toArray (Prod.fst a) },
         AV.sl 2 (Seq.map T.encS ((0 : Int), (0 : Int)) (Prod.fst (Prod.snd a))) Tip.none, AV.bool (Prod.snd (Prod.snd a))],
         AObj.cells
         [AV.str { data := List.toArray (Prod.fst b) },
         AV.sl 2 (Seq.map T.encS ((0 : Int), (0 : Int)) (Prod.fst (Prod.snd b))) Tip.none, AV.bool (Prod.snd (Prod.snd b))],
         AObj.cells
         [AV.str { data := List.toArray (Prod.fst x) },
         AV.sl 2 (Seq.map T.encS ((0 : Int), (0 : Int)) (Prod.fst (Prod.snd x))) Tip.none, AV.bool (Prod.snd (Prod.snd x))]]
         (q3_0 n Post))))) →
    AWP Tryd.prog 84 n c3_4 [(2, AV.ptr 0 0), (3, AV.ptr 1 0)] [AObj.cells (T.encT a), AObj.cells (T.encT b)] (q3_0 n Post) := fun a b n Post h => Go.Ab.awp_sound g3 n _ _ _ _ (Go.Ab.kc (by kernel_rfl) h)
theorem v3_7 : ∀ (a b n : T.Term) (n_1 : Nat) (Post : AV → List AObj → Prop),
  (ASpec Tryd.prog 15
      [AV.agg [AV.str { data := List.toArray (Prod.fst a) }, AV.sl 2 (Seq.map T.encS ((0 : Int), (0 : Int)) (Prod.fst (Prod.snd a))) Tip.none, AV.bool (Prod.snd (Prod.snd a))],
        AV.agg [AV.str { data := List.toArray (Prod.fst b) }, AV.sl 2 (Seq.map T.encS ((0 : Int), (0 : Int)) (Prod.fst (Prod.snd b))) Tip.none, AV.bool (Prod.snd (Prod.snd b))]]
      [AObj.cells [AV.str { data := List.toArray (Prod.fst a) }, AV.sl 2 (Seq.map T.encS ((0 : Int), (0 : Int)) (Prod.fst (Prod.snd a))) Tip.none, AV.bool (Prod.snd (Prod.snd a))],
        AObj.cells [AV.str { data := List.toArray (Prod.fst b) }, AV.sl 2 (Seq.map T.encS ((0 : Int), (0 : Int)) (Prod.fst (Prod.snd b))) Tip.none, AV.bool (Prod.snd (Prod.snd b))],
        AObj.cells [AV.str { data := List.toArray (Prod.fst n) }, AV.sl 2 (Seq.map T.encS ((0 : Int), (0 : Int)) (Prod.fst (Prod.snd n))) Tip.none, AV.bool (Prod.snd (Prod.snd n))]]
      fun (r : AV) (H' : List AObj) =>
      ∃ (x : List UInt8 × List T.Span × Bool),
        r = AV.agg [AV.str { data := List.toArray (Prod.fst x) }, AV.sl 2 (Seq.map T.encS ((0 : Int), (0 : Int)) (Prod.fst (Prod.snd x))) Tip.none, AV.bool (Prod.snd (Prod.snd x))] ∧
         H' =
         [AObj.cells [AV.str { data := List.toArray (Prod.fst a) }, AV.sl 2 (Seq.map T.encS ((0 : Int), (0 : Int)) (Prod.fst (Prod.snd a))) Tip.none, AV.bool (Prod.snd (Prod.snd a))],
         AObj.cells [AV.str { data := List.toArray (Prod.fst b) }, AV.sl 2 (Seq.map T.encS ((0 : Int), (0 : Int)) (Prod.fst (Prod.snd b))) Tip.none, AV.bool (Prod.snd (Prod.snd b))],
         AObj.cells [AV.str { data := List.toArray (Prod.fst n) }, AV.sl 2 (Seq.map T.encS ((0 : Int), (0 : Int)) (Prod.fst (Prod.snd n))) Tip.none, AV.bool (Prod.snd (Prod.snd n))]] ∧
         (AV.agg [AV.str { data := List.toArray (Prod.fst b) }, AV.sl 2 (Seq.map T.encS ((0 : Int), (0 : Int)) (Prod.fst (Prod.snd b))) Tip.none, AV.bool (Prod.snd (Prod.snd b))] =
         AV.agg [AV.str { data := List.toArray (Prod.fst b) }, AV.sl 2 (Seq.map T.encS ((0 : Int), (0 : Int)) (Prod.fst (Prod.snd b))) Tip.none, AV.bool (Prod.snd (Prod.snd b))] ∧
         [AObj.cells [AV.str { data := List.toArray (Prod.fst a) }, AV.sl 2 (Seq.map T.encS ((0 : Int), (0 : Int)) (Prod.fst (Prod.snd a))) Tip.none, AV.bool (Prod.snd (Prod.snd a))],
         AObj.cells
         [AV.str { data := List.toArray (Prod.fst b) }, AV.sl 2 (Seq.map T.encS ((0 : Int), (0 : Int)) (Prod.fst (Prod.snd b))) Tip.none, AV.bool (Prod.snd (Prod.snd b))],
         AObj.cells
         [AV.str { data := List.toArray (Prod.fst n) }, AV.sl 2 (Seq.map T.encS ((0 : Int), (0 : Int)) (Prod.fst (Prod.snd n))) Tip.none, AV.bool (Prod.snd (Prod.snd n))]] =
         [AObj.cells [AV.str { data := List.toArray (Prod.fst a) }, AV.sl 2 (Seq.map T.encS ((0 : Int), (0 : Int)) (Prod.fst (Prod.snd a))) Tip.none, AV.bool (Prod.snd (Prod.snd a))],
         AObj.cells
         [AV.str { data := List.toArray (Prod.fst b) }, AV.sl 2 (Seq.map T.encS ((0 : Int), (0 : Int)) (Prod.fst (Prod.snd b))) Tip.none, AV.bool (Prod.snd (Prod.snd b))],
         AObj.cells
         [AV.str { data := List.toArray (Prod.fst n) }, AV.sl 2 (Seq.map T.encS ((0 : Int), (0 : Int)) (Prod.fst (Prod.snd n))) Tip.none, AV.bool (Prod.snd (Prod.snd n))]]) ∧
         (AV.agg [AV.str { data := List.toArray (Prod.fst n) }, AV.sl 2 (Seq.map T.encS ((0 : Int), (0 : Int)) (Prod.fst (Prod.snd n))) Tip.none, AV.bool (Prod.snd (Prod.snd n))] =
         AV.agg [AV.str { data := List.toArray (Prod.fst n) }, AV.sl 2 (Seq.map T.encS ((0 : Int), (0 : Int)) (Prod.fst (Prod.snd n))) Tip.none, AV.bool (Prod.snd (Prod.snd n))] ∧
         [AObj.cells [AV.str { data := List.toArray (Prod.fst a) }, AV.sl 2 (Seq.map T.encS ((0 : Int), (0 : Int)) (Prod.fst (Prod.snd a))) Tip.none, AV.bool (Prod.snd (Prod.snd a))],
         AObj.cells
         [AV.str { data := List.toArray (Prod.fst b) }, AV.sl 2 (Seq.map T.encS ((0 : Int), (0 : Int)) (Prod.fst (Prod.snd b))) Tip.none, AV.bool (Prod.snd (Prod.snd b))],
         AObj.cells
         [AV.str { data := List.toArray (Prod.fst n) }, AV.sl 2 (Seq.map T.encS ((0 : Int), (0 : Int)) (Prod.fst (Prod.snd n))) Tip.none, AV.bool (Prod.snd (Prod.snd n))]] =
         [AObj.cells
         [AV.str { data := List.toArray (Prod.fst a) }, AV.sl 2 (Seq.map T.encS ((0 : Int), (0 : Int)) (Prod.fst (Prod.snd a))) Tip.none, AV.bool (Prod.snd (Prod.snd a))],
         AObj.cells
         [AV.str { data := List.toArray (Prod.fst b) }, AV.sl 2 (Seq.map T.encS ((0 : Int), (0 : Int)) (Prod.fst (Prod.snd b))) Tip.none, AV.bool (Prod.snd (Prod.snd b))],
         AObj.cells
         [AV.str { data := List.toArray (Prod.fst n) }, AV.sl 2 (Seq.map T.encS ((0 : Int), (0 : Int)) (Prod.fst (Prod.snd n))) Tip.none, AV.bool (Prod.snd (Prod.snd n))]]) ∧
         ASpec Tryd.prog 11
         [AV.agg [AV.str { data := List.toArray (Prod.fst x) }, AV.sl 2 (Seq.map T.encS ((0 : Int), (0 : Int)) (Prod.fst (Prod.snd x))) Tip.none, AV.bool (Prod.snd (Prod.snd x))]]
         [AObj.cells [AV.str { data := List.toArray (Prod.fst a) }, AV.sl 2 (Seq.map T.encS ((0 : Int), (0 : Int)) (Prod.fst (Prod.snd a))) Tip.none, AV.bool (Prod.snd (Prod.snd a))],
         AObj.cells
         [AV.str { data := List.toArray (Prod.fst b) }, AV.sl 2 (Seq.map T.encS ((0 : Int), (0 : Int)) (Prod.fst (Prod.snd b))) Tip.none, AV.bool (Prod.snd (Prod.snd b))],
         AObj.cells
         [AV.str { data := List.toArray (Prod.fst n) }, AV.sl 2 (Seq.map T.encS ((0 : Int), (0 : Int)) (Prod.fst (Prod.snd n))) Tip.none, AV.bool (Prod.snd (Prod.snd n))]]
         fun (r : AV) (H' : List AObj) =>
         ∃ (x : List UInt8 × List T.Span × Bool),
         r =
         AV.agg
         [AV.str { data := List.toArray (Prod.fst x) }, AV.sl 2 (Seq.map T.encS ((0 : Int), (0 : Int)) (Prod.fst (Prod.snd x))) Tip.none, AV.bool (Prod.snd (Prod.snd x))] ∧
         H' =
         [AObj.cells
         [AV.str { data := List.toArray (Prod.fst a) }, AV.sl 2 (Seq.map T.encS ((0 : Int), (0 : Int)) (Prod.fst (Prod.snd a))) Tip.none, AV.bool (Prod.snd (Prod.snd a))],
         AObj.cells
         [AV.str { data := List.toArray (Prod.fst b) }, AV.sl 2 (Seq.map T.encS ((0 : Int), (0 : Int)) (Prod.fst (Prod.snd b))) Tip.none, AV.bool (Prod.snd (Prod.snd b))],
         AObj.cells
         [AV.str { data := List.toArray (Prod.fst n) }, AV.sl 2 (Seq.map T.encS ((0 : Int), (0 : Int)) (Prod.fst (Prod.snd n))) Tip.none,
         AV.bool (Prod.snd (Prod.snd n))]] ∧
         (AV.agg
         [AV.str { data := List.toArray (Prod.fst b) }, AV.sl 2 (Seq.map T.encS ((0 : Int), (0 : Int)) (Prod.fst (Prod.snd b))) Tip.none,
         AV.bool (Prod.snd (Prod.snd b))] =
         AV.agg
         [AV.str { data := List.toArray (Prod.fst b) }, AV.sl 2 (Seq.map T.encS ((0 : Int), (0 : Int)) (Prod.fst (Prod.snd b))) Tip.none,
         AV.bool (Prod.snd (Prod.snd b))] ∧
         [AObj.cells
         [AV.str { data := List.toArray (Prod.fst a) }, AV.sl 2 (Seq.map T.encS ((0 : Int), (0 : Int)) (Prod.fst (Prod.snd a))) Tip.none,
         AV.bool (Prod.snd (Prod.snd a))],
         AObj.cells
         [AV.str { data := List.toArray (Prod.fst b) }, AV.sl 2 (Seq.map T.encS ((0 : Int), (0 : Int)) (Prod.fst (Prod.snd b))) Tip.none,
         AV.bool (Prod.snd (Prod.snd b))],
         AObj.cells
         [AV.str { data := List.toArray (Prod.fst n) }, AV.sl 2 (Seq.map T.encS ((0 : Int), (0 : Int)) (Prod.fst (Prod.snd n))) Tip.none,
         AV.bool (Prod.snd (Prod.snd n))]] =
         [AObj.cells
         [AV.str { data := List.toArray (Prod.fst a) }, AV.sl 2 (Seq.map T.encS ((0 : Int), (0 : Int)) (Prod.fst (Prod.snd a))) Tip.none,
         AV.bool (Prod.snd (Prod.snd a))],
         AObj.cells
         [AV.str { data := List.toArray (Prod.fst b) }, AV.sl 2 (Seq.map T.encS ((0 : Int), (0 : Int)) (Prod.fst (Prod.snd b))) Tip.none,
         AV.bool (Prod.snd (Prod.snd b))],
         AObj.cells
         [AV.str { data := List.toArray (Prod.fst n) }, AV.sl 2 (Seq.map T.encS ((0 : Int), (0 : Int)) (Prod.fst (Prod.snd n))) Tip.none,
         AV.bool (Prod.snd (Prod.snd n))]]) ∧
         (AV.agg
         [AV.str { data := List.toArray (Prod.fst n) }, AV.sl 2 (Seq.map T.encS ((0 : Int), (0 : Int)) (Prod.fst (Prod.snd n))) Tip.none,
         AV.bool (Prod.snd (Prod.snd n))] =
         AV.agg
         [AV.str { data := List.toArray (Prod.fst n) }, AV.sl 2 (Seq.map T.encS ((0 : Int), (0 : Int)) (Prod.fst (Prod.snd n))) Tip.none,
         AV.bool (Prod.snd (Prod.snd n))] ∧
         [AObj.cells
         [AV.str { data := List.toArray (Prod.fst a) }, AV.sl 2 (Seq.map T.encS ((0 : Int), (0 : Int)) (Prod.fst (Prod.snd a))) Tip.none,
         AV.bool (Prod.snd (Prod.snd a))],
         AObj.cells
         [AV.str { data := List.toArray (Prod.fst b) }, AV.sl 2 (Seq.map T.encS ((0 : Int), (0 : Int)) (Prod.fst (Prod.snd b))) Tip.none,
         AV.bool (Prod.snd (Prod.snd b))],
         AObj.cells
         [AV.str { data := List.toArray (Prod.fst n) }, AV.sl 2 (Seq.map T.encS ((0 : Int), (0 : Int)) (Prod.fst (Prod.snd n))) Tip.none,
         AV.bool (Prod.snd (Prod.snd n))]] =
         [AObj.cells
         [AV.str { data := List.toArray (Prod.fst a) }, AV.sl 2 (Seq.map T.encS ((0 : Int), (0 : Int)) (Prod.fst (Prod.snd a))) Tip.none,
         AV.bool (Prod.snd (Prod.snd a))],
         AObj.cells
         [AV.str { data := List.toArray (Prod.fst b) }, AV.sl 2 (Seq.map T.encS ((0 : Int), (0 : Int)) (Prod.fst (Prod.snd b))) Tip.none,
         AV.bool (Prod.snd (Prod.snd b))],
         AObj.cells
         [AV.str { data := List.toArray (Prod.fst n) }, AV.sl 2 (Seq.map T.encS ((0 : Int), (0 : Int)) (Prod.fst (Prod.snd n))) Tip.none,
         AV.bool (Prod.snd (Prod.snd n))]]) ∧
         ASpec Tryd.prog 11
         [AV.agg
         [AV.str { data := List.toArray (Prod.fst b) }, AV.sl 2 (Seq.map T.encS ((0 : Int), (0 : Int)) (Prod.fst (Prod.snd b))) Tip.none,
         AV.bool (Prod.snd (Prod.snd b))]]
         [AObj.cells
         [AV.str { data := List.toArray (Prod.fst a) }, AV.sl 2 (Seq.map T.encS ((0 : Int), (0 : Int)) (Prod.fst (Prod.snd a))) Tip.none,
         AV.bool (Prod.snd (Prod.snd a))],
         AObj.cells
         [AV.str { data := List.toArray (Prod.fst b) }, AV.sl 2 (Seq.map T.encS ((0 : Int), (0 : Int)) (Prod.fst (Prod.snd b))) Tip.none,
         AV.bool (Prod.snd (Prod.snd b))],
         AObj.cells
         [AV.str { data := List.toArray (Prod.fst n) }, AV.sl 2 (Seq.map T.encS ((0 : Int), (0 : Int)) (Prod.fst (Prod.snd n))) Tip.none,
         AV.bool (Prod.snd (Prod.snd n))]]
         fun (r : AV) (H' : List AObj) =>
         ∃ (x_1 : List UInt8 × List T.Span × Bool),
         r =
         AV.agg
         [AV.str { data := List.toArray (Prod.fst x_1) }, AV.sl 2 (Seq.map T.encS ((0 : Int), (0 : Int)) (Prod.fst (Prod.snd x_1))) Tip.none,
         AV.bool (Prod.snd (Prod.snd x_1))] ∧
         H' =
         [AObj.cells
         [AV.str { data := List.toArray (Prod.fst a) }, AV.sl 2 (Seq.map T.encS ((0 : Int), (0 : Int)) (Prod.fst (Prod.snd a))) Tip.none,
         AV.bool (Prod.snd (Prod.snd a))],
         AObj.cells
         [AV.str { data := List.toArray (Prod.fst b) }, AV.sl 2 (Seq.map T.encS ((0 : Int), (0 : Int)) (Prod.fst (Prod.snd b))) Tip.none,
         AV.bool (Prod.snd (Prod.snd b))],
         AObj.cells
         [AV.str { data := List.toArray (Prod.fst n) }, AV.sl 2 (Seq.map T.encS ((0 : Int), (0 : Int)) (Prod.fst (Prod.snd n))) Tip.none,
         AV.bool (Prod.snd (Prod.snd n))]] ∧
         (AV.agg
         [AV.str { data := List.toArray (Prod.fst n) }, AV.sl 2 (Seq.map T.encS ((0 : Int), (0 : Int)) (Prod.fst (Prod.snd n))) Tip.none,
         AV.bool (Prod.snd (Prod.snd n))] =
         AV.agg
         [AV.str { data := List.toArray (Prod.fst n) }, AV.sl 2 (Seq.map T.encS ((0 : Int), (0 : Int)) (Prod.fst (Prod.snd n))) Tip.none,
         AV.bool (Prod.snd (Prod.snd n))] ∧
         [AObj.cells
         [AV.str { data := List.toArray (Prod.fst a) }, AV.sl 2 (Seq.map T.encS ((0 : Int), (0 : Int)) (Prod.fst (Prod.snd a))) Tip.none,
         AV.bool (Prod.snd (Prod.snd a))],
         AObj.cells
         [AV.str { data := List.toArray (Prod.fst b) }, AV.sl 2 (Seq.map T.encS ((0 : Int), (0 : Int)) (Prod.fst (Prod.snd b))) Tip.none,
         AV.bool (Prod.snd (Prod.snd b))],
         AObj.cells
         [AV.str { data := List.toArray (Prod.fst n) }, AV.sl 2 (Seq.map T.encS ((0 : Int), (0 : Int)) (Prod.fst (Prod.snd n))) Tip.none,
         AV.bool (Prod.snd (Prod.snd n))]] =
         [AObj.cells
         [AV.str { data := List.toArray (Prod.fst a) }, AV.sl 2 (Seq.map T.encS ((0 : Int), (0 : Int)) (Prod.fst (Prod.snd a))) Tip.none,
         AV.bool (Prod.snd (Prod.snd a))],
         AObj.cells
         [AV.str { data := List.toArray (Prod.fst b) }, AV.sl 2 (Seq.map T.encS ((0 : Int), (0 : Int)) (Prod.fst (Prod.snd b))) Tip.none,
         AV.bool (Prod.snd (Prod.snd b))],
         AObj.cells
         [AV.str { data := List.toArray (Prod.fst n) }, AV.sl 2 (Seq.map T.encS ((0 : Int), (0 : Int)) (Prod.fst (Prod.snd n))) Tip.none,
         AV.bool (Prod.snd (Prod.snd n))]]) ∧
         ASpec Tryd.prog 13
         [AV.agg
         [AV.str { data := List.toArray (Prod.fst n) }, AV.sl 2 (Seq.map T.encS ((0 : Int), (0 : Int)) (Prod.fst (Prod.snd n))) Tip.none,
         AV.bool (Prod.snd (Prod.snd n))],
         AV.agg
         [AV.str { data := List.toArray (Prod.fst x_1) }, AV.sl 2 (Seq.map T.encS ((0 : Int), (0 : Int)) (Prod.fst (Prod.snd x_1))) Tip.none,
         AV.bool (Prod.snd (Prod.snd x_1))]]
         [AObj.cells
         [AV.str { data := List.toArray (Prod.fst a) }, AV.sl 2 (Seq.map T.encS ((0 : Int), (0 : Int)) (Prod.fst (Prod.snd a))) Tip.none,
         AV.bool (Prod.snd (Prod.snd a))],
         AObj.cells
         [AV.str { data := List.toArray (Prod.fst b) }, AV.sl 2 (Seq.map T.encS ((0 : Int), (0 : Int)) (Prod.fst (Prod.snd b))) Tip.none,
         AV.bool (Prod.snd (Prod.snd b))],
         AObj.cells
         [AV.str { data := List.toArray (Prod.fst n) }, AV.sl 2 (Seq.map T.encS ((0 : Int), (0 : Int)) (Prod.fst (Prod.snd n))) Tip.none,
         AV.bool (Prod.snd (Prod.snd n))]]
         fun (r : AV) (H' : List AObj) =>
         ∃ (x_2 : List UInt8 × List T.Span × Bool),
         r =
         AV.agg
         [AV.str { data := List.toArray (Prod.fst x_2) }, AV.sl 2 (Seq.map T.encS ((0 : Int), (0 : Int)) (Prod.fst (Prod.snd x_2))) Tip.none,
         AV.bool (Prod.snd (Prod.snd x_2))] ∧
         H' =
         [AObj.cells
         [AV.str { data := List.toArray (Prod.fst a) }, AV.sl 2 (Seq.map T.encS ((0 : Int), (0 : Int)) (Prod.fst (Prod.snd a))) Tip.none,
         AV.bool (Prod.snd (Prod.snd a))],
         AObj.cells
         [AV.str { data := List.toArray (Prod.fst b) }, AV.sl 2 (Seq.map T.encS ((0 : Int), (0 : Int)) (Prod.fst (Prod.snd b))) Tip.none,
         AV.bool (Prod.snd (Prod.snd b))],
         AObj.cells
         [AV.str { data := List.toArray (Prod.fst n) }, AV.sl 2 (Seq.map T.encS ((0 : Int), (0 : Int)) (Prod.fst (Prod.snd n))) Tip.none,
         AV.bool (Prod.snd (Prod.snd n))]] ∧
         ASpec Tryd.prog 16
         [AV.agg
         [AV.str { data := List.toArray (Prod.fst x) }, AV.sl 2 (Seq.map T.encS ((0 : Int), (0 : Int)) (Prod.fst (Prod.snd x))) Tip.none,
         AV.bool (Prod.snd (Prod.snd x))],
         AV.agg
         [AV.str { data := List.toArray (Prod.fst x_2) }, AV.sl 2 (Seq.map T.encS ((0 : Int), (0 : Int)) (Prod.fst (Prod.snd x_2))) Tip.none,
         AV.bool (Prod.snd (Prod.snd x_2))]]
         [AObj.cells
         [AV.str { data := List.toArray (Prod.fst a) }, AV.sl 2 (Seq.map T.encS ((0 : Int), (0 : Int)) (Prod.fst (Prod.snd a))) Tip.none,
         AV.bool (Prod.snd (Prod.snd a))],
         AObj.cells
         [AV.str { data := List.toArray (Prod.fst b) }, AV.sl 2 (Seq.map T.encS ((0 : Int), (0 : Int)) (Prod.fst (Prod.snd b))) Tip.none,
         AV.bool (Prod.snd (Prod.snd b))],
         AObj.cells
         [AV.str { data := List.toArray (Prod.fst n) }, AV.sl 2 (Seq.map T.encS ((0 : Int), (0 : Int)) (Prod.fst (Prod.snd n))) Tip.none,
         AV.bool (Prod.snd (Prod.snd n))]]
         fun (r : AV) (H' : List AObj) =>
         ∃ (x : Bool),
         r = AV.bool x ∧
         H' =
         [AObj.cells
         [AV.str { data := List.toArray (Prod.fst a) }, AV.sl 2 (Seq.map T.encS ((0 : Int), (0 : Int)) (Prod.fst (Prod.snd a))) Tip.none,
         AV.bool (Prod.snd (Prod.snd a))],
         AObj.cells
         [AV.str { data := List.toArray (Prod.fst b) }, AV.sl 2 (Seq.map T.encS ((0 : Int), (0 : Int)) (Prod.fst (Prod.snd b))) Tip.none,
         AV.bool (Prod.snd (Prod.snd b))],
         AObj.cells
         [AV.str { data := List.toArray (Prod.fst n) }, AV.sl 2 (Seq.map T.encS ((0 : Int), (0 : Int)) (Prod.fst (Prod.snd n))) Tip.none,
         AV.bool (Prod.snd (Prod.snd n))]] ∧
         condP x
         (ASpec Tryd.prog 17
         [AV.agg
         [AV.str { data := List.toArray (Prod.fst a) }, AV.sl 2 (Seq.map T.encS ((0 : Int), (0 : Int)) (Prod.fst (Prod.snd a))) Tip.none,
         AV.bool (Prod.snd (Prod.snd a))],
         AV.agg
         [AV.str { data := List.toArray (Prod.fst b) }, AV.sl 2 (Seq.map T.encS ((0 : Int), (0 : Int)) (Prod.fst (Prod.snd b))) Tip.none,
         AV.bool (Prod.snd (Prod.snd b))]]
         [AObj.cells
         [AV.str { data := List.toArray (Prod.fst a) }, AV.sl 2 (Seq.map T.encS ((0 : Int), (0 : Int)) (Prod.fst (Prod.snd a))) Tip.none,
         AV.bool (Prod.snd (Prod.snd a))],
         AObj.cells
         [AV.str { data := List.toArray (Prod.fst b) }, AV.sl 2 (Seq.map T.encS ((0 : Int), (0 : Int)) (Prod.fst (Prod.snd b))) Tip.none,
         AV.bool (Prod.snd (Prod.snd b))],
         AObj.cells
         [AV.str { data := List.toArray (Prod.fst n) }, AV.sl 2 (Seq.map T.encS ((0 : Int), (0 : Int)) (Prod.fst (Prod.snd n))) Tip.none,
         AV.bool (Prod.snd (Prod.snd n))]]
         fun (r : AV) (H' : List AObj) =>
         ∃ (x : Bool),
         r = AV.bool x ∧
         H' =
         [AObj.cells
         [AV.str { data := List.toArray (Prod.fst a) },
         AV.sl 2 (Seq.map T.encS ((0 : Int), (0 : Int)) (Prod.fst (Prod.snd a))) Tip.none, AV.bool (Prod.snd (Prod.snd a))],
         AObj.cells
         [AV.str { data := List.toArray (Prod.fst b) },
         AV.sl 2 (Seq.map T.encS ((0 : Int), (0 : Int)) (Prod.fst (Prod.snd b))) Tip.none, AV.bool (Prod.snd (Prod.snd b))],
         AObj.cells
         [AV.str { data := List.toArray (Prod.fst n) },
         AV.sl 2 (Seq.map T.encS ((0 : Int), (0 : Int)) (Prod.fst (Prod.snd n))) Tip.none, AV.bool (Prod.snd (Prod.snd n))]] ∧
         (AV.agg
         [AV.str { data := List.toArray (Prod.fst b) },
         AV.sl 2 (Seq.map T.encS ((0 : Int), (0 : Int)) (Prod.fst (Prod.snd b))) Tip.none, AV.bool (Prod.snd (Prod.snd b))] =
         AV.agg
         [AV.str { data := List.toArray (Prod.fst b) },
         AV.sl 2 (Seq.map T.encS ((0 : Int), (0 : Int)) (Prod.fst (Prod.snd b))) Tip.none, AV.bool (Prod.snd (Prod.snd b))] ∧
         [AObj.cells
         [AV.str { data := List.toArray (Prod.fst a) },
         AV.sl 2 (Seq.map T.encS ((0 : Int), (0 : Int)) (Prod.fst (Prod.snd a))) Tip.none, AV.bool (Prod.snd (Prod.snd a))],
         AObj.cells
         [AV.str { data := List.toArray (Prod.fst b) },
         AV.sl 2 (Seq.map T.encS ((0 : Int), (0 : Int)) (Prod.fst (Prod.snd b))) Tip.none, AV.bool (Prod.snd (Prod.snd b))],
         AObj.cells
         [AV.str { data := List.toArray (Prod.fst n) },
         AV.sl 2 (Seq.map T.encS ((0 : Int), (0 : Int)) (Prod.fst (Prod.snd n))) Tip.none,
         AV.bool (Prod.snd (Prod.snd n))]] =
         [AObj.cells
         [AV.str { data := List.toArray (Prod.fst a) },
         AV.sl 2 (Seq.map T.encS ((0 : Int), (0 : Int)) (Prod.fst (Prod.snd a))) Tip.none, AV.bool (Prod.snd (Prod.snd a))],
         AObj.cells
         [AV.str { data := List.toArray (Prod.fst b) },
         AV.sl 2 (Seq.map T.encS ((0 : Int), (0 : Int)) (Prod.fst (Prod.snd b))) Tip.none, AV.bool (Prod.snd (Prod.snd b))],
         AObj.cells
         [AV.str { data := List.toArray (Prod.fst n) },
         AV.sl 2 (Seq.map T.encS ((0 : Int), (0 : Int)) (Prod.fst (Prod.snd n))) Tip.none,
         AV.bool (Prod.snd (Prod.snd n))]]) ∧
         (AV.agg
         [AV.str { data := List.toArray (Prod.fst a) },
         AV.sl 2 (Seq.map T.encS ((0 : Int), (0 : Int)) (Prod.fst (Prod.snd a))) Tip.none, AV.bool (Prod.snd (Prod.snd a))] =
         AV.agg
         [AV.str { data := List.toArray (Prod.fst a) },
         AV.sl 2 (Seq.map T.encS ((0 : Int), (0 : Int)) (Prod.fst (Prod.snd a))) Tip.none, AV.bool (Prod.snd (Prod.snd a))] ∧
         [AObj.cells
         [AV.str { data := List.toArray (Prod.fst a) },
         AV.sl 2 (Seq.map T.encS ((0 : Int), (0 : Int)) (Prod.fst (Prod.snd a))) Tip.none,
         AV.bool (Prod.snd (Prod.snd a))],
         AObj.cells
         [AV.str { data := List.toArray (Prod.fst b) },
         AV.sl 2 (Seq.map T.encS ((0 : Int), (0 : Int)) (Prod.fst (Prod.snd b))) Tip.none,
         AV.bool (Prod.snd (Prod.snd b))],
         AObj.cells
         [AV.str { data := List.toArray (Prod.fst n) },
         AV.sl 2 (Seq.map T.encS ((0 : Int), (0 : Int)) (Prod.fst (Prod.snd n))) Tip.none,
         AV.bool (Prod.snd (Prod.snd n))]] =
         [AObj.cells
         [AV.str { data := List.toArray (Prod.fst a) },
         AV.sl 2 (Seq.map T.encS ((0 : Int), (0 : Int)) (Prod.fst (Prod.snd a))) Tip.none,
         AV.bool (Prod.snd (Prod.snd a))],
         AObj.cells
         [AV.str { data := List.toArray (Prod.fst b) },
         AV.sl 2 (Seq.map T.encS ((0 : Int), (0 : Int)) (Prod.fst (Prod.snd b))) Tip.none,
         AV.bool (Prod.snd (Prod.snd b))],
         AObj.cells
         [AV.str { data := List.toArray (Prod.fst n) },
         AV.sl 2 (Seq.map T.encS ((0 : Int), (0 : Int)) (Prod.fst (Prod.snd n))) Tip.none,
         AV.bool (Prod.snd (Prod.snd n))]]) ∧
         ASpec Tryd.prog 11
         [AV.agg
         [AV.str { data := List.toArray (Prod.fst b) },
         AV.sl 2 (Seq.map T.encS ((0 : Int), (0 : Int)) (Prod.fst (Prod.snd b))) Tip.none, AV.bool (Prod.snd (Prod.snd b))]]
         [AObj.cells
         [AV.str { data := List.toArray (Prod.fst a) },
         AV.sl 2 (Seq.map T.encS ((0 : Int), (0 : Int)) (Prod.fst (Prod.snd a))) Tip.none, AV.bool (Prod.snd (Prod.snd a))],
         AObj.cells
         [AV.str { data := List.toArray (Prod.fst b) },
         AV.sl 2 (Seq.map T.encS ((0 : Int), (0 : Int)) (Prod.fst (Prod.snd b))) Tip.none, AV.bool (Prod.snd (Prod.snd b))],
         AObj.cells
         [AV.str { data := List.toArray (Prod.fst n) },
         AV.sl 2 (Seq.map T.encS ((0 : Int), (0 : Int)) (Prod.fst (Prod.snd n))) Tip.none, AV.bool (Prod.snd (Prod.snd n))]]
         fun (r : AV) (H' : List AObj) =>
         ∃ (x_3 : List UInt8 × List T.Span × Bool),
         r =
         AV.agg
         [AV.str { data := List.toArray (Prod.fst x_3) },
         AV.sl 2 (Seq.map T.encS ((0 : Int), (0 : Int)) (Prod.fst (Prod.snd x_3))) Tip.none,
         AV.bool (Prod.snd (Prod.snd x_3))] ∧
         H' =
         [AObj.cells
         [AV.str { data := List.toArray (Prod.fst a) },
         AV.sl 2 (Seq.map T.encS ((0 : Int), (0 : Int)) (Prod.fst (Prod.snd a))) Tip.none,
         AV.bool (Prod.snd (Prod.snd a))],
         AObj.cells
         [AV.str { data := List.toArray (Prod.fst b) },
         AV.sl 2 (Seq.map T.encS ((0 : Int), (0 : Int)) (Prod.fst (Prod.snd b))) Tip.none,
         AV.bool (Prod.snd (Prod.snd b))],
         AObj.cells
         [AV.str { data := List.toArray (Prod.fst n) },
         AV.sl 2 (Seq.map T.encS ((0 : Int), (0 : Int)) (Prod.fst (Prod.snd n))) Tip.none,
         AV.bool (Prod.snd (Prod.snd n))]] ∧
         (AV.agg
         [AV.str { data := List.toArray (Prod.fst a) },
         AV.sl 2 (Seq.map T.encS ((0 : Int), (0 : Int)) (Prod.fst (Prod.snd a))) Tip.none,
         AV.bool (Prod.snd (Prod.snd a))] =
         AV.agg
         [AV.str { data := List.toArray (Prod.fst a) },
         AV.sl 2 (Seq.map T.encS ((0 : Int), (0 : Int)) (Prod.fst (Prod.snd a))) Tip.none,
         AV.bool (Prod.snd (Prod.snd a))] ∧
         [AObj.cells
         [AV.str { data := List.toArray (Prod.fst a) },
         AV.sl 2 (Seq.map T.encS ((0 : Int), (0 : Int)) (Prod.fst (Prod.snd a))) Tip.none,
         AV.bool (Prod.snd (Prod.snd a))],
         AObj.cells
         [AV.str { data := List.toArray (Prod.fst b) },
         AV.sl 2 (Seq.map T.encS ((0 : Int), (0 : Int)) (Prod.fst (Prod.snd b))) Tip.none,
         AV.bool (Prod.snd (Prod.snd b))],
         AObj.cells
         [AV.str { data := List.toArray (Prod.fst n) },
         AV.sl 2 (Seq.map T.encS ((0 : Int), (0 : Int)) (Prod.fst (Prod.snd n))) Tip.none,
         AV.bool (Prod.snd (Prod.snd n))]] =
         [AObj.cells
         [AV.str { data := List.toArray (Prod.fst a) },
         AV.sl 2 (Seq.map T.encS ((0 : Int), (0 : Int)) (Prod.fst (Prod.snd a))) Tip.none,
         AV.bool (Prod.snd (Prod.snd a))],
         AObj.cells
         [AV.str { data := List.toArray (Prod.fst b) },
         AV.sl 2 (Seq.map T.encS ((0 : Int), (0 : Int)) (Prod.fst (Prod.snd b))) Tip.none,
         AV.bool (Prod.snd (Prod.snd b))],
         AObj.cells
         [AV.str { data := List.toArray (Prod.fst n) },
         AV.sl 2 (Seq.map T.encS ((0 : Int), (0 : Int)) (Prod.fst (Prod.snd n))) Tip.none,
         AV.bool (Prod.snd (Prod.snd n))]]) ∧
         ASpec Tryd.prog 13
         [AV.agg
         [AV.str { data := List.toArray (Prod.fst a) },
         AV.sl 2 (Seq.map T.encS ((0 : Int), (0 : Int)) (Prod.fst (Prod.snd a))) Tip.none,
         AV.bool (Prod.snd (Prod.snd a))],
         AV.agg
         [AV.str { data := List.toArray (Prod.fst x_3) },
         AV.sl 2 (Seq.map T.encS ((0 : Int), (0 : Int)) (Prod.fst (Prod.snd x_3))) Tip.none,
         AV.bool (Prod.snd (Prod.snd x_3))]]
         [AObj.cells
         [AV.str { data := List.toArray (Prod.fst a) },
         AV.sl 2 (Seq.map T.encS ((0 : Int), (0 : Int)) (Prod.fst (Prod.snd a))) Tip.none,
         AV.bool (Prod.snd (Prod.snd a))],
         AObj.cells
         [AV.str { data := List.toArray (Prod.fst b) },
         AV.sl 2 (Seq.map T.encS ((0 : Int), (0 : Int)) (Prod.fst (Prod.snd b))) Tip.none,
         AV.bool (Prod.snd (Prod.snd b))],
         AObj.cells
         [AV.str { data := List.toArray (Prod.fst n) },
         AV.sl 2 (Seq.map T.encS ((0 : Int), (0 : Int)) (Prod.fst (Prod.snd n))) Tip.none,
         AV.bool (Prod.snd (Prod.snd n))]]
         fun (r : AV) (H' : List AObj) =>
         ∃ (x_4 : List UInt8 × List T.Span × Bool),
         r =
         AV.agg
         [AV.str { data := List.toArray (Prod.fst x_4) },
         AV.sl 2 (Seq.map T.encS ((0 : Int), (0 : Int)) (Prod.fst (Prod.snd x_4))) Tip.none,
         AV.bool (Prod.snd (Prod.snd x_4))] ∧
         H' =
         [AObj.cells
         [AV.str { data := List.toArray (Prod.fst a) },
         AV.sl 2 (Seq.map T.encS ((0 : Int), (0 : Int)) (Prod.fst (Prod.snd a))) Tip.none,
         AV.bool (Prod.snd (Prod.snd a))],
         AObj.cells
         [AV.str { data := List.toArray (Prod.fst b) },
         AV.sl 2 (Seq.map T.encS ((0 : Int), (0 : Int)) (Prod.fst (Prod.snd b))) Tip.none,
         AV.bool (Prod.snd (Prod.snd b))],
         AObj.cells
         [AV.str { data := List.toArray (Prod.fst n) },
         AV.sl 2 (Seq.map T.encS ((0 : Int), (0 : Int)) (Prod.fst (Prod.snd n))) Tip.none,
         AV.bool (Prod.snd (Prod.snd n))]] ∧
         ASpec Tryd.prog 12
         [AV.agg
         [AV.str { data := List.toArray (Prod.fst x_4) },
         AV.sl 2 (Seq.map T.encS ((0 : Int), (0 : Int)) (Prod.fst (Prod.snd x_4))) Tip.none,
         AV.bool (Prod.snd (Prod.snd x_4))]]
         [AObj.cells
         [AV.str { data := List.toArray (Prod.fst a) },
         AV.sl 2 (Seq.map T.encS ((0 : Int), (0 : Int)) (Prod.fst (Prod.snd a))) Tip.none,
         AV.bool (Prod.snd (Prod.snd a))],
         AObj.cells
         [AV.str { data := List.toArray (Prod.fst b) },
         AV.sl 2 (Seq.map T.encS ((0 : Int), (0 : Int)) (Prod.fst (Prod.snd b))) Tip.none,
         AV.bool (Prod.snd (Prod.snd b))],
         AObj.cells
         [AV.str { data := List.toArray (Prod.fst n) },
         AV.sl 2 (Seq.map T.encS ((0 : Int), (0 : Int)) (Prod.fst (Prod.snd n))) Tip.none,
         AV.bool (Prod.snd (Prod.snd n))]]
         fun (r : AV) (H' : List AObj) =>
         ∃ (x_5 : Bool),
         r = AV.bool x_5 ∧
         H' =
         [AObj.cells
         [AV.str { data := List.toArray (Prod.fst a) },
         AV.sl 2 (Seq.map T.encS ((0 : Int), (0 : Int)) (Prod.fst (Prod.snd a))) Tip.none,
         AV.bool (Prod.snd (Prod.snd a))],
         AObj.cells
         [AV.str { data := List.toArray (Prod.fst b) },
         AV.sl 2 (Seq.map T.encS ((0 : Int), (0 : Int)) (Prod.fst (Prod.snd b))) Tip.none,
         AV.bool (Prod.snd (Prod.snd b))],
         AObj.cells
         [AV.str { data := List.toArray (Prod.fst n) },
         AV.sl 2 (Seq.map T.encS ((0 : Int), (0 : Int)) (Prod.fst (Prod.snd n))) Tip.none,
         AV.bool (Prod.snd (Prod.snd n))]] ∧
         condP (x == x_5)
         (ASpec Tryd.prog 13
         [AV.agg
         [AV.str { data := List.toArray (Prod.fst a) },
         AV.sl 2 (Seq.map T.encS ((0 : Int), (0 : Int)) (Prod.fst (Prod.snd a))) Tip.none,
         AV.bool (Prod.snd (Prod.snd a))],
         AV.agg
         [AV.str { data := List.toArray (Prod.fst b) },
         AV.sl 2 (Seq.map T.encS ((0 : Int), (0 : Int)) (Prod.fst (Prod.snd b))) Tip.none,
         AV.bool (Prod.snd (Prod.snd b))]]
         [AObj.cells
         [AV.str { data := List.toArray (Prod.fst a) },
         AV.sl 2 (Seq.map T.encS ((0 : Int), (0 : Int)) (Prod.fst (Prod.snd a))) Tip.none,
         AV.bool (Prod.snd (Prod.snd a))],
         AObj.cells
         [AV.str { data := List.toArray (Prod.fst b) },
         AV.sl 2 (Seq.map T.encS ((0 : Int), (0 : Int)) (Prod.fst (Prod.snd b))) Tip.none,
         AV.bool (Prod.snd (Prod.snd b))],
         AObj.cells
         [AV.str { data := List.toArray (Prod.fst n) },
         AV.sl 2 (Seq.map T.encS ((0 : Int), (0 : Int)) (Prod.fst (Prod.snd n))) Tip.none,
         AV.bool (Prod.snd (Prod.snd n))]]
         fun (r : AV) (H' : List AObj) =>
         ∃ (x : List UInt8 × List T.Span × Bool),
         r =
         AV.agg
         [AV.str { data := List.toArray (Prod.fst x) },
         AV.sl 2 (Seq.map T.encS ((0 : Int), (0 : Int)) (Prod.fst (Prod.snd x))) Tip.none,
         AV.bool (Prod.snd (Prod.snd x))] ∧
         H' =
         [AObj.cells
         [AV.str { data := List.toArray (Prod.fst a) },
         AV.sl 2 (Seq.map T.encS ((0 : Int), (0 : Int)) (Prod.fst (Prod.snd a)))
         Tip.none,
         AV.bool (Prod.snd (Prod.snd a))],
         AObj.cells
         [AV.str { data := List.toArray (Prod.fst b) },
         AV.sl 2 (Seq.map T.encS ((0 : Int), (0 : Int)) (Prod.fst (Prod.snd b)))
         Tip.none,
         AV.bool (Prod.snd (Prod.snd b))],
         AObj.cells
         [AV.str { data := List.toArray (Prod.fst n) },
         AV.sl 2 (Seq.map T.encS ((0 : Int), (0 : Int)) (Prod.fst (Prod.snd n)))
         Tip.none,
         AV.bool (Prod.snd (Prod.snd n))]] ∧
         (AV.agg
         [AV.str { data := List.toArray (Prod.fst a) },
         AV.sl 2 (Seq.map T.encS ((0 : Int), (0 : Int)) (Prod.fst (Prod.snd a)))
         Tip.none,
         AV.bool (Prod.snd (Prod.snd a))] =
         AV.agg
         [AV.str { data := List.toArray (Prod.fst a) },
         AV.sl 2 (Seq.map T.encS ((0 : Int), (0 : Int)) (Prod.fst (Prod.snd a)))
         Tip.none,
         AV.bool (Prod.snd (Prod.snd a))] ∧
         [AObj.cells
         [AV.str { data := List.toArray (Prod.fst a) },
         AV.sl 2 (Seq.map T.encS ((0 : Int), (0 : Int)) (Prod.fst (Prod.snd a)))
         Tip.none,
         AV.bool (Prod.snd (Prod.snd a))],
         AObj.cells
         [AV.str { data := List.toArray (Prod.fst b) },
         AV.sl 2 (Seq.map T.encS ((0 : Int), (0 : Int)) (Prod.fst (Prod.snd b)))
         Tip.none,
         AV.bool (Prod.snd (Prod.snd b))],
         AObj.cells
         [AV.str { data := List.toArray (Prod.fst n) },
         AV.sl 2 (Seq.map T.encS ((0 : Int), (0 : Int)) (Prod.fst (Prod.snd n)))
         Tip.none,
         AV.bool (Prod.snd (Prod.snd n))]] =
         [AObj.cells
         [AV.str { data := List.toArray (Prod.fst a) },
         AV.sl 2 (Seq.map T.encS ((0 : Int), (0 : Int)) (Prod.fst (Prod.snd a)))
         Tip.none,
         AV.bool (Prod.snd (Prod.snd a))],
         AObj.cells
         [AV.str { data := List.toArray (Prod.fst b) },
         AV.sl 2 (Seq.map T.encS ((0 : Int), (0 : Int)) (Prod.fst (Prod.snd b)))
         Tip.none,
         AV.bool (Prod.snd (Prod.snd b))],
         AObj.cells
         [AV.str { data := List.toArray (Prod.fst n) },
         AV.sl 2 (Seq.map T.encS ((0 : Int), (0 : Int)) (Prod.fst (Prod.snd n)))
         Tip.none,
         AV.bool (Prod.snd (Prod.snd n))]]) ∧
         ASpec Tryd.prog 17
         [AV.agg
         [AV.str { data := List.toArray (Prod.fst x) },
         AV.sl 2 (Seq.map T.encS ((0 : Int), (0 : Int)) (Prod.fst (Prod.snd x)))
         Tip.none,
         AV.bool (Prod.snd (Prod.snd x))],
         AV.agg
         [AV.str { data := List.toArray (Prod.fst a) },
         AV.sl 2 (Seq.map T.encS ((0 : Int), (0 : Int)) (Prod.fst (Prod.snd a)))
         Tip.none,
         AV.bool (Prod.snd (Prod.snd a))]]
         [AObj.cells
         [AV.str { data := List.toArray (Prod.fst a) },
         AV.sl 2 (Seq.map T.encS ((0 : Int), (0 : Int)) (Prod.fst (Prod.snd a)))
         Tip.none,
         AV.bool (Prod.snd (Prod.snd a))],
         AObj.cells
         [AV.str { data := List.toArray (Prod.fst b) },
         AV.sl 2 (Seq.map T.encS ((0 : Int), (0 : Int)) (Prod.fst (Prod.snd b)))
         Tip.none,
         AV.bool (Prod.snd (Prod.snd b))],
         AObj.cells
         [AV.str { data := List.toArray (Prod.fst n) },
         AV.sl 2 (Seq.map T.encS ((0 : Int), (0 : Int)) (Prod.fst (Prod.snd n)))
         Tip.none,
         AV.bool (Prod.snd (Prod.snd n))]]
         fun (r : AV) (H' : List AObj) =>
         ∃ (x : Bool),
         r = AV.bool x ∧
         H' =
         [AObj.cells
         [AV.str { data := List.toArray (Prod.fst a) },
         AV.sl 2
         (Seq.map T.encS ((0 : Int), (0 : Int)) (Prod.fst (Prod.snd a))) Tip.none,
         AV.bool (Prod.snd (Prod.snd a))],
         AObj.cells
         [AV.str { data := List.toArray (Prod.fst b) },
         AV.sl 2
         (Seq.map T.encS ((0 : Int), (0 : Int)) (Prod.fst (Prod.snd b))) Tip.none,
         AV.bool (Prod.snd (Prod.snd b))],
         AObj.cells
         [AV.str { data := List.toArray (Prod.fst n) },
         AV.sl 2
         (Seq.map T.encS ((0 : Int), (0 : Int)) (Prod.fst (Prod.snd n))) Tip.none,
         AV.bool (Prod.snd (Prod.snd n))]] ∧
         condP x
         (ASpec Tryd.prog 15
         [AV.agg
         [AV.str { data := List.toArray (Prod.fst a) },
         AV.sl 2
         (Seq.map T.encS ((0 : Int), (0 : Int)) (Prod.fst (Prod.snd a))) Tip.none,
         AV.bool (Prod.snd (Prod.snd a))],
         AV.agg
         [AV.str { data := List.toArray (Prod.fst b) },
         AV.sl 2
         (Seq.map T.encS ((0 : Int), (0 : Int)) (Prod.fst (Prod.snd b))) Tip.none,
         AV.bool (Prod.snd (Prod.snd b))]]
         [AObj.cells
         [AV.str { data := List.toArray (Prod.fst a) },
         AV.sl 2
         (Seq.map T.encS ((0 : Int), (0 : Int)) (Prod.fst (Prod.snd a))) Tip.none,
         AV.bool (Prod.snd (Prod.snd a))],
         AObj.cells
         [AV.str { data := List.toArray (Prod.fst b) },
         AV.sl 2
         (Seq.map T.encS ((0 : Int), (0 : Int)) (Prod.fst (Prod.snd b))) Tip.none,
         AV.bool (Prod.snd (Prod.snd b))],
         AObj.cells
         [AV.str { data := List.toArray (Prod.fst n) },
         AV.sl 2
         (Seq.map T.encS ((0 : Int), (0 : Int)) (Prod.fst (Prod.snd n))) Tip.none,
         AV.bool (Prod.snd (Prod.snd n))]]
         fun (r : AV) (H' : List AObj) =>
         ∃ (x : List UInt8 × List T.Span × Bool),
         r =
         AV.agg
         [AV.str { data := List.toArray (Prod.fst x) },
         AV.sl 2
         (Seq.map T.encS ((0 : Int), (0 : Int)) (Prod.fst (Prod.snd x)))
         Tip.none,
         AV.bool (Prod.snd (Prod.snd x))] ∧
         H' =
         [AObj.cells
         [AV.str { data := List.toArray (Prod.fst a) },
         AV.sl 2
         (Seq.map T.encS ((0 : Int), (0 : Int)) (Prod.fst (Prod.snd a)))
         Tip.none,
         AV.bool (Prod.snd (Prod.snd a))],
         AObj.cells
         [AV.str { data := List.toArray (Prod.fst b) },
         AV.sl 2
         (Seq.map T.encS ((0 : Int), (0 : Int)) (Prod.fst (Prod.snd b)))
         Tip.none,
         AV.bool (Prod.snd (Prod.snd b))],
         AObj.cells
         [AV.str { data := List.toArray (Prod.fst n) },
         AV.sl 2
         (Seq.map T.encS ((0 : Int), (0 : Int)) (Prod.fst (Prod.snd n)))
         Tip.none,
         AV.bool (Prod.snd (Prod.snd n))]] ∧
         (AV.agg
         [AV.str { data := List.toArray (Prod.fst a) },
         AV.sl 2
         (Seq.map T.encS ((0 : Int), (0 : Int)) (Prod.fst (Prod.snd a)))
         Tip.none,
         AV.bool (Prod.snd (Prod.snd a))] =
         AV.agg
         [AV.str { data := List.toArray (Prod.fst a) },
         AV.sl 2
         (Seq.map T.encS ((0 : Int), (0 : Int)) (Prod.fst (Prod.snd a)))
         Tip.none,
         AV.bool (Prod.snd (Prod.snd a))] ∧
         [AObj.cells
         [AV.str { data := List.toArray (Prod.fst a) },
         AV.sl 2
         (Seq.map T.encS ((0 : Int), (0 : Int))
         (Prod.fst (Prod.snd a)))
         Tip.none,
         AV.bool (Prod.snd (Prod.snd a))],
         AObj.cells
         [AV.str { data := List.toArray (Prod.fst b) },
         AV.sl 2
         (Seq.map T.encS ((0 : Int), (0 : Int))
         (Prod.fst (Prod.snd b)))
         Tip.none,
         AV.bool (Prod.snd (Prod.snd b))],
         AObj.cells
         [AV.str { data := List.toArray (Prod.fst n) },
         AV.sl 2
         (Seq.map T.encS ((0 : Int), (0 : Int))
         (Prod.fst (Prod.snd n)))
         Tip.none,
         AV.bool (Prod.snd (Prod.snd n))]] =
         [AObj.cells
         [AV.str { data := List.toArray (Prod.fst a) },
         AV.sl 2
         (Seq.map T.encS ((0 : Int), (0 : Int))
         (Prod.fst (Prod.snd a)))
         Tip.none,
         AV.bool (Prod.snd (Prod.snd a))],
         AObj.cells
         [AV.str { data := List.toArray (Prod.fst b) },
         AV.sl 2
         (Seq.map T.encS ((0 : Int), (0 : Int))
         (Prod.fst (Prod.snd b)))
         Tip.none,
         AV.bool (Prod.snd (Prod.snd b))],
         AObj.cells
         [AV.str { data := List.toArray (Prod.fst n) },
         AV.sl 2
         (Seq.map T.encS ((0 : Int), (0 : Int))
         (Prod.fst (Prod.snd n)))
         Tip.none,
         AV.bool (Prod.snd (Prod.snd n))]]) ∧
         ASpec Tryd.prog 17
         [AV.agg
         [AV.str { data := List.toArray (Prod.fst a) },
         AV.sl 2
         (Seq.map T.encS ((0 : Int), (0 : Int)) (Prod.fst (Prod.snd a)))
         Tip.none,
         AV.bool (Prod.snd (Prod.snd a))],
         AV.agg
         [AV.str { data := List.toArray (Prod.fst x) },
         AV.sl 2
         (Seq.map T.encS ((0 : Int), (0 : Int)) (Prod.fst (Prod.snd x)))
         Tip.none,
         AV.bool (Prod.snd (Prod.snd x))]]
         [AObj.cells
         [AV.str { data := List.toArray (Prod.fst a) },
         AV.sl 2
         (Seq.map T.encS ((0 : Int), (0 : Int)) (Prod.fst (Prod.snd a)))
         Tip.none,
         AV.bool (Prod.snd (Prod.snd a))],
         AObj.cells
         [AV.str { data := List.toArray (Prod.fst b) },
         AV.sl 2
         (Seq.map T.encS ((0 : Int), (0 : Int)) (Prod.fst (Prod.snd b)))
         Tip.none,
         AV.bool (Prod.snd (Prod.snd b))],
         AObj.cells
         [AV.str { data := List.toArray (Prod.fst n) },
         AV.sl 2
         (Seq.map T.encS ((0 : Int), (0 : Int)) (Prod.fst (Prod.snd n)))
         Tip.none,
         AV.bool (Prod.snd (Prod.snd n))]]
         fun (r : AV) (H' : List AObj) =>
         ∃ (x : Bool),
         r = AV.bool x ∧
         H' =
         [AObj.cells
         [AV.str { data := List.toArray (Prod.fst a) },
         AV.sl 2
         (Seq.map T.encS ((0 : Int), (0 : Int))
         (Prod.fst (Prod.snd a)))
         Tip.none,
         AV.bool (Prod.snd (Prod.snd a))],
         AObj.cells
         [AV.str { data := List.toArray (Prod.fst b) },
         AV.sl 2
         (Seq.map T.encS ((0 : Int), (0 : Int))
         (Prod.fst (Prod.snd b)))
         Tip.none,
         AV.bool (Prod.snd (Prod.snd b))],
         AObj.cells
         [AV.str { data := List.toArray (Prod.fst n) },
         AV.sl 2
         (Seq.map T.encS ((0 : Int), (0 : Int))
         (Prod.fst (Prod.snd n)))
         Tip.none,
         AV.bool (Prod.snd (Prod.snd n))]] ∧
         condP x
         (ASpec Tryd.prog 10 []
         [AObj.cells
         [AV.str { data := List.toArray (Prod.fst a) },
         AV.sl 2
         (Seq.map T.encS ((0 : Int), (0 : Int))
         (Prod.fst (Prod.snd a)))
         Tip.none,
         AV.bool (Prod.snd (Prod.snd a))],
         AObj.cells
         [AV.str { data := List.toArray (Prod.fst b) },
         AV.sl 2
         (Seq.map T.encS ((0 : Int), (0 : Int))
         (Prod.fst (Prod.snd b)))
         Tip.none,
         AV.bool (Prod.snd (Prod.snd b))],
         AObj.cells
         [AV.str { data := List.toArray (Prod.fst n) },
         AV.sl 2
         (Seq.map T.encS ((0 : Int), (0 : Int))
         (Prod.fst (Prod.snd n)))
         Tip.none,
         AV.bool (Prod.snd (Prod.snd n))]]
         fun (r : AV) (H' : List AObj) =>
         ∃ (x : Unit),
         r = AV.bool true ∧
         H' =
         [AObj.cells
         [AV.str { data := List.toArray (Prod.fst a) },
         AV.sl 2
         (Seq.map T.encS ((0 : Int), (0 : Int))
         (Prod.fst (Prod.snd a)))
         Tip.none,
         AV.bool (Prod.snd (Prod.snd a))],
         AObj.cells
         [AV.str { data := List.toArray (Prod.fst b) },
         AV.sl 2
         (Seq.map T.encS ((0 : Int), (0 : Int))
         (Prod.fst (Prod.snd b)))
         Tip.none,
         AV.bool (Prod.snd (Prod.snd b))],
         AObj.cells
         [AV.str { data := List.toArray (Prod.fst n) },
         AV.sl 2
         (Seq.map T.encS ((0 : Int), (0 : Int))
         (Prod.fst (Prod.snd n)))
         Tip.none,
         AV.bool (Prod.snd (Prod.snd n))]] ∧
         Post (AV.bool true)
         [AObj.cells
         [AV.str { data := List.toArray (Prod.fst a) },
         AV.sl 2
         (Seq.map T.encS ((0 : Int), (0 : Int))
         (Prod.fst (Prod.snd a)))
         Tip.none,
         AV.bool (Prod.snd (Prod.snd a))],
         AObj.cells
         [AV.str { data := List.toArray (Prod.fst b) },
         AV.sl 2
         (Seq.map T.encS ((0 : Int), (0 : Int))
         (Prod.fst (Prod.snd b)))
         Tip.none,
         AV.bool (Prod.snd (Prod.snd b))],
         AObj.cells
         [AV.str { data := List.toArray (Prod.fst n) },
         AV.sl 2
         (Seq.map T.encS ((0 : Int), (0 : Int))
         (Prod.fst (Prod.snd n)))
         Tip.none,
         AV.bool (Prod.snd (Prod.snd n))]])
         (Post (AV.bool false)
         [AObj.cells
         [AV.str { data := List.toArray (Prod.fst a) },
         AV.sl 2
         (Seq.map T.encS ((0 : Int), (0 : Int))
         (Prod.fst (Prod.snd a)))
         Tip.none,
         AV.bool (Prod.snd (Prod.snd a))],
         AObj.cells
         [AV.str { data := List.toArray (Prod.fst b) },
         AV.sl 2
         (Seq.map T.encS ((0 : Int), (0 : Int))
         (Prod.fst (Prod.snd b)))
         Tip.none,
         AV.bool (Prod.snd (Prod.snd b))],
         AObj.cells
         [AV.str { data := List.toArray (Prod.fst n) },
         AV.sl 2
         (Seq.map T.encS ((0 : Int), (0 : Int))
         (Prod.fst (Prod.snd n)))
         Tip.none,
         AV.bool (Prod.snd (Prod.snd n))]]))
         (AV.tup [] = AV.tup [] ∧
         Post (AV.bool false)
         [AObj.cells
         [AV.str { data := List.toArray (Prod.fst a) },
         AV.sl 2
         (Seq.map T.encS ((0 : Int), (0 : Int)) (Prod.fst (Prod.snd a)))
         Tip.none,
         AV.bool (Prod.snd (Prod.snd a))],
         AObj.cells
         [AV.str { data := List.toArray (Prod.fst b) },
         AV.sl 2
         (Seq.map T.encS ((0 : Int), (0 : Int)) (Prod.fst (Prod.snd b)))
         Tip.none,
         AV.bool (Prod.snd (Prod.snd b))],
         AObj.cells
         [AV.str { data := List.toArray (Prod.fst n) },
         AV.sl 2
         (Seq.map T.encS ((0 : Int), (0 : Int)) (Prod.fst (Prod.snd n)))
         Tip.none,
         AV.bool (Prod.snd (Prod.snd n))]]))
         (AV.tup [] = AV.tup [] ∧
         AV.tup [] = AV.tup [] ∧
         Post (AV.bool false)
         [AObj.cells
         [AV.str { data := List.toArray (Prod.fst a) },
         AV.sl 2 (Seq.map T.encS ((0 : Int), (0 : Int)) (Prod.fst (Prod.snd a))) Tip.none,
         AV.bool (Prod.snd (Prod.snd a))],
         AObj.cells
         [AV.str { data := List.toArray (Prod.fst b) },
         AV.sl 2 (Seq.map T.encS ((0 : Int), (0 : Int)) (Prod.fst (Prod.snd b))) Tip.none,
         AV.bool (Prod.snd (Prod.snd b))],
         AObj.cells
         [AV.str { data := List.toArray (Prod.fst n) },
         AV.sl 2 (Seq.map T.encS ((0 : Int), (0 : Int)) (Prod.fst (Prod.snd n))) Tip.none,
         AV.bool (Prod.snd (Prod.snd n))]]))
         (AV.tup [] = AV.tup [] ∧
         AV.tup [] = AV.tup [] ∧
         AV.tup [] = AV.tup [] ∧
         AV.tup [] = AV.tup [] ∧
         AV.tup [] = AV.tup [] ∧
         Post (AV.bool false)
         [AObj.cells
         [AV.str { data := List.toArray (Prod.fst a) },
         AV.sl 2 (Seq.map T.encS ((0 : Int), (0 : Int)) (Prod.fst (Prod.snd a))) Tip.none, AV.bool (Prod.snd (Prod.snd a))],
         AObj.cells
         [AV.str { data := List.toArray (Prod.fst b) },
         AV.sl 2 (Seq.map T.encS ((0 : Int), (0 : Int)) (Prod.fst (Prod.snd b))) Tip.none, AV.bool (Prod.snd (Prod.snd b))],
         AObj.cells
         [AV.str { data := List.toArray (Prod.fst n) },
         AV.sl 2 (Seq.map T.encS ((0 : Int), (0 : Int)) (Prod.fst (Prod.snd n))) Tip.none,
         AV.bool (Prod.snd (Prod.snd n))]])) →
    AWP Tryd.prog 84 n_1 c3_7 [(2, AV.ptr 0 0), (3, AV.ptr 1 0), (5, AV.ptr 2 0)]
      [AObj.cells (T.encT a), AObj.cells (T.encT b), AObj.cells (T.encT n)] (q3_0 n_1 Post) := fun a b n n Post h => Go.Ab.awp_sound g3 n _ _ _ _ (Go.Ab.kc (by kernel_rfl) h)

-- 4
end
end Tq
end
