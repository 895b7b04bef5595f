/- Q5: several of this proof's own texts, one behind the other: what each proves stands at its head. -/
import Derived.Test.YtkkdhnhgfbddeaaDoorProg
import Derived.Test.YtkkdhnhgfbddeaaDoorA3
section
/- Printed: what the code of functions 90, 91, 104, 105, 93, 94, 96, 95, 136, 99, 100, 101, 103, 135, 137 asks for, by the framework's own reading of it; each line is checked against the code. -/

set_option linter.unusedVariables false
set_option maxRecDepth 100000
set_option maxHeartbeats 4000000
open Go Go.Ab Go.Proofs
namespace V
noncomputable section

noncomputable def rd (bs : List UInt8) (p e : Int) : AObj := .cells [.sl 1 (.map encB 0 bs) .none, .int .i64 p, .int .i64 e]
noncomputable def upd3 (args : List AV) (H : List AObj) (p e : Int) : List AObj := match args with
  | .ptr id _ :: _ => match H[id]? with
    | some (.cells [b, _, _]) => H.set id (.cells [b, .int .i64 p, .int .i64 e])
    | _ => H
  | _ => H
noncomputable def upd2 (args : List AV) (H : List AObj) (s : ByteArray) (e : Int) : List AObj := match args with
  | .ptr id _ :: _ => H.set id (.cells [.str s, .int .i64 e])
  | _ => H
noncomputable def retL : List (Nat × Ret) := [
  (18016, ⟨Unit, fun _ _ _ => .bool true, fun _ H _ => H⟩),
  (90, ⟨List UInt8, fun _ H l => .sl 1 (.map encB 0 l) (.tok H.length), fun _ H _ => H ++ [.tok]⟩),
  (91, ⟨List UInt8, fun _ H l => .sl 1 (.map encB 0 l) (.tok H.length), fun _ H _ => H ++ [.tok]⟩),
  (18019, ⟨ByteArray, fun _ _ s => .str s, fun _ H _ => H⟩),
  (105, ⟨ByteArray, fun _ _ s => .str s, fun _ H _ => H⟩),
  (93, ⟨List UInt8, fun _ H _ => .ptr H.length 0, fun _ H l => H ++ [rd l 0 0]⟩),
  (94, ⟨Int × Int × Int, fun _ _ x => .int .i64 x.1, fun a H x => upd3 a H x.2.1 x.2.2⟩),
  (96, ⟨ByteArray × Int × Int, fun _ _ x => .str x.1, fun a H x => upd3 a H x.2.1 x.2.2⟩),
  (95, ⟨Int, fun _ _ x => .int .i64 x, fun _ H _ => H⟩),
  (136, ⟨Int, fun _ _ x => .int .i64 x, fun _ H _ => H⟩),
  (100, ⟨Int × ByteArray × Int, fun _ _ x => .int .i64 x.1, fun a H x => upd2 a H x.2.1 x.2.2⟩),
  (101, ⟨ByteArray × ByteArray × Int, fun _ _ x => .str x.1, fun a H x => upd2 a H x.2.1 x.2.2⟩),
  (18028, ⟨Int × Int, fun _ _ x => .tup [], fun a H x => upd3 a H x.1 x.2⟩),
  (18029, ⟨ByteArray × Int, fun _ _ x => .tup [], fun a H x => upd2 a H x.1 x.2⟩),
  (99, ⟨Int, fun _ _ x => .int .i64 x, fun _ H _ => H⟩),
  (103, ⟨Int, fun _ _ x => .int .i64 x, fun _ H _ => H⟩),
  (104, ⟨ByteArray, fun _ _ s => .str s, fun _ H _ => H⟩),
  (135, ⟨Int × Int × Int × Int, fun _ _ x => .tup [.int .i64 x.1, .int .i64 x.2.1], fun a H x => upd3 a H x.2.2.1 x.2.2.2⟩),
  (137, ⟨Int × Int × Int, fun _ _ x => .tup [.int .i64 x.1, .int .i64 x.2.1, .int .i64 x.2.2], fun _ H _ => H⟩)]
end
end V
end

section
/- Spans, needs, releases and manifests as cells. -/

open Go Go.Ab Go.Proofs
namespace T
abbrev Span := Int × Int
abbrev Need := List UInt8 × List Span
noncomputable def encS (x : Span) : List AV := [.int .i64 x.1, .int .i64 x.2]
end T
end

section
/- Printed: what the code of functions 51, 60, 71, 61 asks for, by the framework's own reading of it; each line is checked against the code. -/

set_option linter.unusedVariables false
set_option maxRecDepth 100000
set_option maxHeartbeats 4000000
open Go Go.Ab Go.Proofs
namespace C
noncomputable section

noncomputable def retC : List (Nat × Ret) := [
  (59, ⟨Bool, fun _ _ x => .bool x, fun _ H _ => H⟩), (9066, ⟨Bool, fun _ _ x => .bool x, fun _ H _ => H⟩), (9062, ⟨Bool, fun _ _ x => .bool x, fun _ H _ => H⟩), (9186, ⟨Bool, fun _ _ x => .bool x, fun _ H _ => H⟩),
  (50, ⟨Bool, fun _ _ x => .bool x, fun _ H _ => H⟩), (9130, ⟨Bool, fun _ _ x => .bool x, fun _ H _ => H⟩), (9185, ⟨Bool, fun _ _ x => .bool x, fun _ H _ => H⟩), (9173, ⟨Bool, fun _ _ x => .bool x, fun _ H _ => H⟩),
  (71, ⟨Bool, fun _ _ x => .bool x, fun _ H _ => H⟩), (9239, ⟨Bool, fun _ _ x => .bool x, fun _ H _ => H⟩), (61, ⟨Bool, fun _ _ x => .bool x, fun _ H _ => H⟩), (9232, ⟨Bool, fun _ _ x => .bool x, fun _ H _ => H⟩),
  (60, ⟨Bool, fun _ _ x => .bool x, fun _ H _ => H⟩), (51, ⟨Bool, fun _ _ x => .bool x, fun _ H _ => H⟩)]
noncomputable def rets : FuncId → List Ret := lookupR (retC ++ V.retL)

-- 51
noncomputable def l51 : Nat → List Nat
  | 3 => [3, 6, 7, 8]
  | _ => []
noncomputable def u51 : Nat → Bool
  | _ => false
noncomputable def m51 : Nat → Bool
  | _ => false
noncomputable def g51 : Cfg := { N := 31, live := l51, cut := u51, mu := m51, ret := rets }
noncomputable def c51 : Go.Code := Go.Ab.bodyOf Go.Proofs.Tryd.f51
noncomputable def q51_0 : Nat → (AV → List AObj → Prop) → AQ := fun (n : Nat) (Post : AV → List AObj → Prop) => endQ Tryd.prog (resultsOf Tryd.f51) Post
noncomputable def q51_1 : Nat → (AV → List AObj → Prop) → AQ := fun (n : Nat) (Post : AV → List AObj → Prop) => seqQ (fun (s' : Slots) (H' : List AObj) => awp Tryd.prog g51 n (codeSnd (codeSnd (codeSnd c51))) s' H' (q51_0 n Post)) (q51_0 n Post)
noncomputable def q51_2 : Nat → (AV → List AObj → Prop) → AQ := fun (n : Nat) (Post : AV → List AObj → Prop) => blockQ 0 (q51_1 n Post)
noncomputable def c51_3 : Go.Code := codeFst (codeSnd (codeFst (codeSnd (codeSnd c51))))
theorem s51 : ∀ (l : List T.Span) (Post : AV → List AObj → Prop),
  AWP Tryd.prog 31 0 c51_3
      [(3, AV.int IntKind.i64 (-1 : Int)), (6, AV.sl 2 (Seq.map T.encS ((0 : Int), (0 : Int)) l) Tip.none), (7, AV.int IntKind.i64 (↑(List.length l) : Int)),
        (8, AV.int IntKind.i64 (0 : Int))]
      [] (q51_2 0 Post) →
    ASpec Tryd.prog 51 [AV.sl 2 (Seq.map T.encS ((0 : Int), (0 : Int)) l) Tip.none] [] Post := fun l Post h => Go.Ab.ASpec.of_vc g51 Go.Proofs.Tryd.func51 (by kernel_rfl) (by kernel_rfl) (by kernel_rfl) (Go.Ab.kc (by kernel_rfl) h)
theorem v51_3 : ∀ (l : List T.Span) (e n i : Int) (n_1 : Nat) (Post : AV → List AObj → Prop),
  condP (decide (i < n))
      (needP ((0 : Int) ≤ i ∧ i < (↑(List.length l) : Int))
        (condP (decide (Prod.fst (List.getD l (Int.toNat i) ((0 : Int), (0 : Int))) ≤ e))
         (Post (AV.bool false)
         [AObj.cells [AV.int IntKind.i64 (Prod.fst (List.getD l (Int.toNat i) ((0 : Int), (0 : Int)))), AV.int IntKind.i64 (Prod.snd (List.getD l (Int.toNat i) ((0 : Int), (0 : Int))))]])
         (condP (decide (Prod.fst (List.getD l (Int.toNat i) ((0 : Int), (0 : Int))) ≥ Prod.snd (List.getD l (Int.toNat i) ((0 : Int), (0 : Int)))))
         (Post (AV.bool false)
         [AObj.cells [AV.int IntKind.i64 (Prod.fst (List.getD l (Int.toNat i) ((0 : Int), (0 : Int)))), AV.int IntKind.i64 (Prod.snd (List.getD l (Int.toNat i) ((0 : Int), (0 : Int))))]])
         (condP (decide (Prod.snd (List.getD l (Int.toNat i) ((0 : Int), (0 : Int))) > (1000000000 : Int)))
         (Post (AV.bool false)
         [AObj.cells [AV.int IntKind.i64 (Prod.fst (List.getD l (Int.toNat i) ((0 : Int), (0 : Int)))), AV.int IntKind.i64 (Prod.snd (List.getD l (Int.toNat i) ((0 : Int), (0 : Int))))]])
         (AWP Tryd.prog 31 n_1 c51_3
         [(3, AV.int IntKind.i64 (Prod.snd (List.getD l (Int.toNat i) ((0 : Int), (0 : Int))))), (6, AV.sl 2 (Seq.map T.encS ((0 : Int), (0 : Int)) l) Tip.none),
         (7, AV.int IntKind.i64 n), (8, AV.int IntKind.i64 (IntKind.wrap IntKind.i64 (i + (1 : Int))))]
         [AObj.cells [AV.int IntKind.i64 (Prod.fst (List.getD l (Int.toNat i) ((0 : Int), (0 : Int)))), AV.int IntKind.i64 (Prod.snd (List.getD l (Int.toNat i) ((0 : Int), (0 : Int))))]]
         (q51_2 n_1 Post))))))
      (Post (AV.bool true) []) →
    AWP Tryd.prog 31 n_1 c51_3
      [(3, AV.int IntKind.i64 e), (6, AV.sl 2 (Seq.map T.encS ((0 : Int), (0 : Int)) l) Tip.none), (7, AV.int IntKind.i64 n), (8, AV.int IntKind.i64 i)] []
      (q51_2 n_1 Post) := fun l e n i n Post h => Go.Ab.AWP.loop' g51 (Cfg.live g51) c51_3 (by kernel_rfl) (by kernel_rfl) (Go.Ab.kc (by kernel_rfl) h)

-- 60
noncomputable def l60 : Nat → List Nat
  | 2 => [0, 3]
  | _ => []
noncomputable def u60 : Nat → Bool
  | _ => false
noncomputable def m60 : Nat → Bool
  | _ => false
noncomputable def g60 : Cfg := { N := 55, live := l60, cut := u60, mu := m60, ret := rets }
noncomputable def c60 : Go.Code := Go.Ab.bodyOf Go.Proofs.Tryd.f60
noncomputable def q60_0 : Nat → (AV → List AObj → Prop) → AQ := fun (n : Nat) (Post : AV → List AObj → Prop) => endQ Tryd.prog (resultsOf Tryd.f60) Post
noncomputable def q60_1 : Nat → (AV → List AObj → Prop) → AQ := fun (n : Nat) (Post : AV → List AObj → Prop) => seqQ (fun (s' : Slots) (H' : List AObj) => awp Tryd.prog g60 n (codeSnd (codeSnd c60)) s' H' (q60_0 n Post)) (q60_0 n Post)
noncomputable def q60_2 : Nat → (AV → List AObj → Prop) → AQ := fun (n : Nat) (Post : AV → List AObj → Prop) => blockQ 0 (q60_1 n Post)
noncomputable def c60_2 : Go.Code := codeFst (codeSnd (codeFst (codeSnd c60)))
theorem s60 : ∀ (l : List T.Span) (Post : AV → List AObj → Prop),
  AWP Tryd.prog 55 0 c60_2 [(0, AV.sl 2 (Seq.map T.encS ((0 : Int), (0 : Int)) l) Tip.none), (3, AV.int IntKind.i64 (0 : Int))] [] (q60_2 0 Post) →
    ASpec Tryd.prog 60 [AV.sl 2 (Seq.map T.encS ((0 : Int), (0 : Int)) l) Tip.none] [] Post := fun l Post h => Go.Ab.ASpec.of_vc g60 Go.Proofs.Tryd.func60 (by kernel_rfl) (by kernel_rfl) (by kernel_rfl) (Go.Ab.kc (by kernel_rfl) h)
theorem v60_2 : ∀ (l : List T.Span) (i : Int) (n : Nat) (Post : AV → List AObj → Prop),
  condP (decide (i < (↑(List.length l) : Int)))
      (needP ((0 : Int) ≤ i ∧ i < (↑(List.length l) : Int))
        (condP (decide (Prod.fst (List.getD l (Int.toNat i) ((0 : Int), (0 : Int))) < (0 : Int))) (Post (AV.bool false) [])
         (needP ((0 : Int) ≤ i ∧ i < (↑(List.length l) : Int))
         (condP (decide (Prod.snd (List.getD l (Int.toNat i) ((0 : Int), (0 : Int))) > (1000000000 : Int))) (Post (AV.bool false) [])
         (needP ((0 : Int) ≤ i ∧ i < (↑(List.length l) : Int))
         (needP ((0 : Int) ≤ i ∧ i < (↑(List.length l) : Int))
         (condP (decide (Prod.fst (List.getD l (Int.toNat i) ((0 : Int), (0 : Int))) ≥ Prod.snd (List.getD l (Int.toNat i) ((0 : Int), (0 : Int))))) (Post (AV.bool false) [])
         (condP (decide (i > (0 : Int)))
         (needP ((0 : Int) ≤ i ∧ i < (↑(List.length l) : Int))
         (needP ((0 : Int) ≤ IntKind.wrap IntKind.i64 (i - (1 : Int)) ∧ IntKind.wrap IntKind.i64 (i - (1 : Int)) < (↑(List.length l) : Int))
         (condP
         (decide
         (Prod.fst (List.getD l (Int.toNat i) ((0 : Int), (0 : Int))) ≤ Prod.snd (List.getD l (Int.toNat (IntKind.wrap IntKind.i64 (i - (1 : Int)))) ((0 : Int), (0 : Int)))))
         (Post (AV.bool false) [])
         (AWP Tryd.prog 55 n c60_2
         [(0, AV.sl 2 (Seq.map T.encS ((0 : Int), (0 : Int)) l) Tip.none), (3, AV.int IntKind.i64 (IntKind.wrap IntKind.i64 (i + (1 : Int))))] []
         (q60_2 n Post)))))
         (AWP Tryd.prog 55 n c60_2
         [(0, AV.sl 2 (Seq.map T.encS ((0 : Int), (0 : Int)) l) Tip.none), (3, AV.int IntKind.i64 (IntKind.wrap IntKind.i64 (i + (1 : Int))))] []
         (q60_2 n Post))))))))))
      (Post (AV.bool true) []) →
    AWP Tryd.prog 55 n c60_2 [(0, AV.sl 2 (Seq.map T.encS ((0 : Int), (0 : Int)) l) Tip.none), (3, AV.int IntKind.i64 i)] [] (q60_2 n Post) := fun l i n Post h => Go.Ab.AWP.loop' g60 (Cfg.live g60) c60_2 (by kernel_rfl) (by kernel_rfl) (Go.Ab.kc (by kernel_rfl) h)

-- 71
noncomputable def l71 : Nat → List Nat
  | _ => []
noncomputable def u71 : Nat → Bool
  | _ => false
noncomputable def m71 : Nat → Bool
  | _ => false
noncomputable def g71 : Cfg := { N := 9, live := l71, cut := u71, mu := m71, ret := rets }
theorem s71 : ∀ (x : Int) (Post : AV → List AObj → Prop),
  condP (decide (x ≥ (0 : Int))) (Post (AV.bool (decide (x < (1000000000 : Int)))) []) (Post (AV.bool false) []) → ASpec Tryd.prog 71 [AV.int IntKind.i64 x] [] Post := fun x Post h => Go.Ab.ASpec.of_vc g71 Go.Proofs.Tryd.func71 (by kernel_rfl) (by kernel_rfl) (by kernel_rfl) (Go.Ab.kc (by kernel_rfl) h)

-- 61
noncomputable def l61 : Nat → List Nat
  | 4 => [0, 1, 5]
  | _ => []
noncomputable def u61 : Nat → Bool
  | _ => false
noncomputable def m61 : Nat → Bool
  | _ => false
noncomputable def g61 : Cfg := { N := 26, live := l61, cut := u61, mu := m61, ret := rets }
noncomputable def c61 : Go.Code := Go.Ab.bodyOf Go.Proofs.Tryd.f61
noncomputable def q61_0 : Nat → (AV → List AObj → Prop) → AQ := fun (n : Nat) (Post : AV → List AObj → Prop) => endQ Tryd.prog (resultsOf Tryd.f61) Post
noncomputable def q61_1 : Nat → (AV → List AObj → Prop) → AQ := fun (n : Nat) (Post : AV → List AObj → Prop) => seqQ (fun (s' : Slots) (H' : List AObj) => awp Tryd.prog g61 n (codeSnd (codeSnd (codeSnd c61))) s' H' (q61_0 n Post)) (q61_0 n Post)
noncomputable def q61_2 : Nat → (AV → List AObj → Prop) → AQ := fun (n : Nat) (Post : AV → List AObj → Prop) => blockQ 0 (q61_1 n Post)
noncomputable def c61_4 : Go.Code := codeFst (codeSnd (codeFst (codeSnd (codeSnd c61))))
theorem s61 : ∀ (a b : List T.Span) (Post : AV → List AObj → Prop),
  condP ((↑(List.length a) : Int) != (↑(List.length b) : Int)) (Post (AV.bool false) [])
      (AWP Tryd.prog 26 0 c61_4
        [(0, AV.sl 2 (Seq.map T.encS ((0 : Int), (0 : Int)) a) Tip.none), (1, AV.sl 2 (Seq.map T.encS ((0 : Int), (0 : Int)) b) Tip.none),
         (5, AV.int IntKind.i64 (0 : Int))]
        [] (q61_2 0 Post)) →
    ASpec Tryd.prog 61 [AV.sl 2 (Seq.map T.encS ((0 : Int), (0 : Int)) a) Tip.none, AV.sl 2 (Seq.map T.encS ((0 : Int), (0 : Int)) b) Tip.none] [] Post := fun a b Post h => Go.Ab.ASpec.of_vc g61 Go.Proofs.Tryd.func61 (by kernel_rfl) (by kernel_rfl) (by kernel_rfl) (Go.Ab.kc (by kernel_rfl) h)
theorem v61_4 : ∀ (a b : List T.Span) (i : Int) (n : Nat) (Post : AV → List AObj → Prop),
  condP (decide (i < (↑(List.length a) : Int)))
      (needP ((0 : Int) ≤ i ∧ i < (↑(List.length a) : Int))
        (needP ((0 : Int) ≤ i ∧ i < (↑(List.length b) : Int))
         (condP
         (!(Prod.fst (List.getD a (Int.toNat i) ((0 : Int), (0 : Int))) == Prod.fst (List.getD b (Int.toNat i) ((0 : Int), (0 : Int))) &&
         (Prod.snd (List.getD a (Int.toNat i) ((0 : Int), (0 : Int))) == Prod.snd (List.getD b (Int.toNat i) ((0 : Int), (0 : Int))) && true)))
         (Post (AV.bool false) [])
         (AWP Tryd.prog 26 n c61_4
         [(0, AV.sl 2 (Seq.map T.encS ((0 : Int), (0 : Int)) a) Tip.none), (1, AV.sl 2 (Seq.map T.encS ((0 : Int), (0 : Int)) b) Tip.none),
         (5, AV.int IntKind.i64 (IntKind.wrap IntKind.i64 (i + (1 : Int))))]
         [] (q61_2 n Post)))))
      (Post (AV.bool true) []) →
    AWP Tryd.prog 26 n c61_4
      [(0, AV.sl 2 (Seq.map T.encS ((0 : Int), (0 : Int)) a) Tip.none), (1, AV.sl 2 (Seq.map T.encS ((0 : Int), (0 : Int)) b) Tip.none),
        (5, AV.int IntKind.i64 i)]
      [] (q61_2 n Post) := fun a b i n Post h => Go.Ab.AWP.loop' g61 (Cfg.live g61) c61_4 (by kernel_rfl) (by kernel_rfl) (Go.Ab.kc (by kernel_rfl) h)

end
end C
end

section
/- Terms, and a trail's entries, as cells. -/

open Go Go.Ab Go.Proofs
namespace T
/-- name, places, none -/
abbrev Term := List UInt8 × List Span × Bool
noncomputable def encT (x : Term) : List AV := [.str ⟨x.1.toArray⟩, .sl 2 (.map encS (0, 0) x.2.1) .none, .bool x.2.2]
abbrev noT : Term := ([], [], false)
end T
end

section
/- Printed: what the code of functions 140, 141, 113, 66, 138, 139, 108, 54, 110, 58, 116, 120, 68, 70, 67, 145, 154, 144, 53, 13, 17, 25, 12, 9, 29, 23, 19, 8 asks for, by the framework's own reading of it; each line is checked against the code. -/

set_option linter.unusedVariables false
set_option maxRecDepth 100000
set_option maxHeartbeats 4000000
open Go Go.Ab Go.Proofs
namespace Sg
noncomputable section

noncomputable def addH (args : List AV) (H : List AObj) (o : AObj) : List AObj := match args with
  | .msl _ id _ _ :: _ => H.set id o
  | _ => H
noncomputable def addG (args : List AV) (H : List AObj) (o : AObj) : List AObj := match args with
  | .msl _ id _ _ :: _ => H.set id .gone ++ [o]
  | _ => H
noncomputable def headV : List AV → AV
  | v :: _ => v
  | [] => .bad
noncomputable def retG : List (Nat × Ret) := [
  (140, ⟨Int × Bool, fun _ _ x => .tup [.int .i64 x.1, .bool x.2], fun _ H _ => H⟩), (141, ⟨Int, fun _ _ x => .int .i64 x, fun _ H _ => H⟩), (113, ⟨Int, fun _ _ x => .int .i64 x, fun _ H _ => H⟩), (66, ⟨Bool, fun _ _ x => .bool x, fun _ H _ => H⟩), (138, ⟨Int, fun _ _ x => .int .i64 x, fun _ H _ => H⟩),
  (139, ⟨T.Span, fun _ H x => .msl 2 H.length 0 1, fun _ H x => H ++ [.arr 2 (.map T.encS (0, 0) [x])]⟩),
  (139, ⟨List T.Span, fun a _ x => headV a, fun a H x => addH a H (.arr 2 (.map T.encS (0, 0) x))⟩),
  (139, ⟨List T.Span, fun a H x => .msl 2 H.length 0 x.length, fun a H x => addG a H (.arr 2 (.map T.encS (0, 0) x))⟩),
  (108, ⟨List T.Span, fun _ _ x => .sl 2 (.map T.encS (0, 0) x) .none, fun _ H _ => H⟩), (54, ⟨List T.Span, fun _ _ x => .sl 2 (.map T.encS (0, 0) x) .none, fun _ H _ => H⟩), (110, ⟨Bool, fun _ _ x => .bool x, fun _ H _ => H⟩), (58, ⟨Bool, fun _ _ x => .bool x, fun _ H _ => H⟩), (116, ⟨List T.Span, fun _ _ x => .sl 2 (.map T.encS (0, 0) x) .none, fun _ H _ => H⟩), (9157, ⟨List T.Span, fun _ _ x => .sl 2 (.map T.encS (0, 0) x) .none, fun _ H _ => H⟩), (9255, ⟨List T.Span, fun _ _ x => .sl 2 (.map T.encS (0, 0) x) .none, fun _ H _ => H⟩),
  (120, ⟨List T.Span, fun _ _ x => .sl 2 (.map T.encS (0, 0) x) .none, fun _ H _ => H⟩), (68, ⟨List T.Span, fun _ _ x => .sl 2 (.map T.encS (0, 0) x) .none, fun _ H _ => H⟩), (70, ⟨Bool, fun _ _ x => .bool x, fun _ H _ => H⟩), (67, ⟨Bool, fun _ _ x => .bool x, fun _ H _ => H⟩), (145, ⟨Bool, fun _ _ x => .bool x, fun _ H _ => H⟩), (144, ⟨List Int, fun _ _ x => .sl 1 (.map encI 0 x) .none, fun _ H _ => H⟩), (154, ⟨List Int, fun _ _ x => .sl 1 (.map encI 0 x) .none, fun _ H _ => H⟩),
  (53, ⟨T.Term, fun _ _ x => .agg (T.encT x), fun _ H _ => H⟩), (13, ⟨T.Term, fun _ _ x => .agg (T.encT x), fun _ H _ => H⟩), (17, ⟨Bool, fun _ _ x => .bool x, fun _ H _ => H⟩), (25, ⟨Bool, fun _ _ x => .bool x, fun _ H _ => H⟩), (12, ⟨Bool, fun _ _ x => .bool x, fun _ H _ => H⟩), (9, ⟨Bool, fun _ _ x => .bool x, fun _ H _ => H⟩), (9200, ⟨T.Term, fun _ _ x => .agg (T.encT x), fun _ H _ => H⟩), (29, ⟨Bool, fun _ _ x => .bool x, fun _ H _ => H⟩), (23, ⟨Bool, fun _ _ x => .bool x, fun _ H _ => H⟩), (19, ⟨Bool, fun _ _ x => .bool x, fun _ H _ => H⟩), (8, ⟨Bool, fun _ _ x => .bool x, fun _ H _ => H⟩)]
noncomputable def rets : FuncId → List Ret := lookupR (retG ++ C.retC ++ V.retL)

-- 140
noncomputable def l140 : Nat → List Nat
  | 3 => [0, 1, 2, 8, 9, 10]
  | _ => []
noncomputable def u140 : Nat → Bool
  | _ => false
noncomputable def m140 : Nat → Bool
  | _ => false
noncomputable def g140 : Cfg := { N := 49, live := l140, cut := u140, mu := m140, ret := rets }
noncomputable def c140 : Go.Code := Go.Ab.bodyOf Go.Proofs.Tryd.f140
noncomputable def q140_0 : Nat → (AV → List AObj → Prop) → AQ := fun (n : Nat) (Post : AV → List AObj → Prop) => endQ Tryd.prog (resultsOf Tryd.f140) Post
noncomputable def q140_1 : Nat → (AV → List AObj → Prop) → AQ := fun (n : Nat) (Post : AV → List AObj → Prop) => seqQ (fun (s' : Slots) (H' : List AObj) => awp Tryd.prog g140 n (codeSnd (codeSnd (codeSnd (codeSnd c140)))) s' H' (q140_0 n Post)) (q140_0 n Post)
noncomputable def q140_2 : Nat → (AV → List AObj → Prop) → AQ := fun (n : Nat) (Post : AV → List AObj → Prop) => blockQ 0 (q140_1 n Post)
noncomputable def c140_3 : Go.Code := codeFst (codeFst (codeSnd (codeSnd (codeSnd c140))))
theorem s140 : ∀ (l : List T.Span) (p : Int) (Post : AV → List AObj → Prop),
  AWP Tryd.prog 49 0 c140_3
      [(0, AV.sl 2 (Seq.map T.encS ((0 : Int), (0 : Int)) l) Tip.none), (1, AV.int IntKind.i64 p), (2, AV.fn (141 : FuncId) []),
        (8, AV.int IntKind.i64 (↑(List.length l) : Int)), (9, AV.int IntKind.i64 (0 : Int)), (10, AV.int IntKind.i64 (↑(List.length l) : Int))]
      [] (q140_2 0 Post) →
    ASpec Tryd.prog 140 [AV.sl 2 (Seq.map T.encS ((0 : Int), (0 : Int)) l) Tip.none, AV.int IntKind.i64 p, AV.fn (141 : FuncId) []] [] Post := fun l p Post h => Go.Ab.ASpec.of_vc g140 Go.Proofs.Tryd.func140 (by kernel_rfl) (by kernel_rfl) (by kernel_rfl) (Go.Ab.kc (by kernel_rfl) h)
theorem v140_3 : ∀ (l : List T.Span) (p n i j : Int) (n_1 : Nat) (Post : AV → List AObj → Prop),
  condP (decide (i < j))
      (needP ((0 : Int) ≤ (1 : Int))
        (needP
         ((0 : Int) ≤ IntKind.wrap IntKind.i64 (Int.fdiv (IntKind.wrap IntKind.u64 (IntKind.wrap IntKind.i64 (i + j))) (2 : Int)) ∧
         IntKind.wrap IntKind.i64 (Int.fdiv (IntKind.wrap IntKind.u64 (IntKind.wrap IntKind.i64 (i + j))) (2 : Int)) < (↑(List.length l) : Int))
         (ASpec Tryd.prog 141
         [AV.agg
         [AV.int IntKind.i64
         (Prod.fst (List.getD l (Int.toNat (IntKind.wrap IntKind.i64 (Int.fdiv (IntKind.wrap IntKind.u64 (IntKind.wrap IntKind.i64 (i + j))) (2 : Int)))) ((0 : Int), (0 : Int)))),
         AV.int IntKind.i64
         (Prod.snd (List.getD l (Int.toNat (IntKind.wrap IntKind.i64 (Int.fdiv (IntKind.wrap IntKind.u64 (IntKind.wrap IntKind.i64 (i + j))) (2 : Int)))) ((0 : Int), (0 : Int))))],
         AV.int IntKind.i64 p]
         [] fun (r : AV) (H' : List AObj) =>
         ∃ (x : Int),
         r = AV.int IntKind.i64 x ∧
         H' = [] ∧
         condP (decide (x < (0 : Int)))
         (AWP Tryd.prog 49 n_1 c140_3
         [(0, AV.sl 2 (Seq.map T.encS ((0 : Int), (0 : Int)) l) Tip.none), (1, AV.int IntKind.i64 p), (2, AV.fn (141 : FuncId) []),
         (8, AV.int IntKind.i64 n),
         (9,
         AV.int IntKind.i64 (IntKind.wrap IntKind.i64 (IntKind.wrap IntKind.i64 (Int.fdiv (IntKind.wrap IntKind.u64 (IntKind.wrap IntKind.i64 (i + j))) (2 : Int)) + (1 : Int)))),
         (10, AV.int IntKind.i64 j)]
         [] (q140_2 n_1 Post))
         (AWP Tryd.prog 49 n_1 c140_3
         [(0, AV.sl 2 (Seq.map T.encS ((0 : Int), (0 : Int)) l) Tip.none), (1, AV.int IntKind.i64 p), (2, AV.fn (141 : FuncId) []),
         (8, AV.int IntKind.i64 n), (9, AV.int IntKind.i64 i),
         (10, AV.int IntKind.i64 (IntKind.wrap IntKind.i64 (Int.fdiv (IntKind.wrap IntKind.u64 (IntKind.wrap IntKind.i64 (i + j))) (2 : Int))))]
         [] (q140_2 n_1 Post)))))
      (condP (decide (i < n))
        (needP ((0 : Int) ≤ i ∧ i < (↑(List.length l) : Int))
         (ASpec Tryd.prog 141
         [AV.agg [AV.int IntKind.i64 (Prod.fst (List.getD l (Int.toNat i) ((0 : Int), (0 : Int)))), AV.int IntKind.i64 (Prod.snd (List.getD l (Int.toNat i) ((0 : Int), (0 : Int))))],
         AV.int IntKind.i64 p]
         [] fun (r : AV) (H' : List AObj) => ∃ (x : Int), r = AV.int IntKind.i64 x ∧ H' = [] ∧ Post (AV.tup [AV.int IntKind.i64 i, AV.bool (x == (0 : Int))]) []))
        (Post (AV.tup [AV.int IntKind.i64 i, AV.bool false]) [])) →
    AWP Tryd.prog 49 n_1 c140_3
      [(0, AV.sl 2 (Seq.map T.encS ((0 : Int), (0 : Int)) l) Tip.none), (1, AV.int IntKind.i64 p), (2, AV.fn (141 : FuncId) []), (8, AV.int IntKind.i64 n),
        (9, AV.int IntKind.i64 i), (10, AV.int IntKind.i64 j)]
      [] (q140_2 n_1 Post) := fun l p n i j n Post h => Go.Ab.AWP.loop' g140 (Cfg.live g140) c140_3 (by kernel_rfl) (by kernel_rfl) (Go.Ab.kc (by kernel_rfl) h)

-- 141
noncomputable def l141 : Nat → List Nat
  | _ => []
noncomputable def u141 : Nat → Bool
  | _ => false
noncomputable def m141 : Nat → Bool
  | _ => false
noncomputable def g141 : Cfg := { N := 9, live := l141, cut := u141, mu := m141, ret := rets }
theorem s141 : ∀ (x : T.Span) (p : Int) (Post : AV → List AObj → Prop),
  condP (decide (Prod.snd x ≤ p)) (Post (AV.int IntKind.i64 (-1 : Int)) [AObj.cells [AV.int IntKind.i64 (Prod.fst x), AV.int IntKind.i64 (Prod.snd x)]])
      (Post (AV.int IntKind.i64 (1 : Int)) [AObj.cells [AV.int IntKind.i64 (Prod.fst x), AV.int IntKind.i64 (Prod.snd x)]]) →
    ASpec Tryd.prog 141 [AV.agg (T.encS x), AV.int IntKind.i64 p] [] Post := fun x p Post h => Go.Ab.ASpec.of_vc g141 Go.Proofs.Tryd.func141 (by kernel_rfl) (by kernel_rfl) (by kernel_rfl) (Go.Ab.kc (by kernel_rfl) h)

-- 113
noncomputable def l113 : Nat → List Nat
  | _ => []
noncomputable def u113 : Nat → Bool
  | _ => false
noncomputable def m113 : Nat → Bool
  | _ => false
noncomputable def g113 : Cfg := { N := 14, live := l113, cut := u113, mu := m113, ret := rets }
theorem s113 : ∀ (l : List T.Span) (p : Int) (Post : AV → List AObj → Prop),
  (ASpec Tryd.prog 140 [AV.sl 2 (Seq.map T.encS ((0 : Int), (0 : Int)) l) Tip.none, AV.int IntKind.i64 p, AV.fn 141 []] [] fun (r : AV) (H' : List AObj) =>
      ∃ (x : Int × Bool), r = AV.tup [AV.int IntKind.i64 (Prod.fst x), AV.bool (Prod.snd x)] ∧ H' = [] ∧ Post (AV.int IntKind.i64 (Prod.fst x)) []) →
    ASpec Tryd.prog 113 [AV.sl 2 (Seq.map T.encS ((0 : Int), (0 : Int)) l) Tip.none, AV.int IntKind.i64 p] [] Post := fun l p Post h => Go.Ab.ASpec.of_vc g113 Go.Proofs.Tryd.func113 (by kernel_rfl) (by kernel_rfl) (by kernel_rfl) (Go.Ab.kc (by kernel_rfl) h)

-- 66
noncomputable def l66 : Nat → List Nat
  | _ => []
noncomputable def u66 : Nat → Bool
  | _ => false
noncomputable def m66 : Nat → Bool
  | _ => false
noncomputable def g66 : Cfg := { N := 22, live := l66, cut := u66, mu := m66, ret := rets }
theorem s66 : ∀ (l : List T.Span) (p : Int) (Post : AV → List AObj → Prop),
  (ASpec Tryd.prog 113 [AV.sl 2 (Seq.map T.encS ((0 : Int), (0 : Int)) l) Tip.none, AV.int IntKind.i64 p] [] fun (r : AV) (H' : List AObj) =>
      ∃ (x : Int),
        r = AV.int IntKind.i64 x ∧
         H' = [] ∧
         condP (decide (x < (↑(List.length l) : Int)))
         (needP ((0 : Int) ≤ x ∧ x < (↑(List.length l) : Int)) (Post (AV.bool (decide (Prod.fst (List.getD l (Int.toNat x) ((0 : Int), (0 : Int))) ≤ p))) [])) (Post (AV.bool false) [])) →
    ASpec Tryd.prog 66 [AV.sl 2 (Seq.map T.encS ((0 : Int), (0 : Int)) l) Tip.none, AV.int IntKind.i64 p] [] Post := fun l p Post h => Go.Ab.ASpec.of_vc g66 Go.Proofs.Tryd.func66 (by kernel_rfl) (by kernel_rfl) (by kernel_rfl) (Go.Ab.kc (by kernel_rfl) h)

-- 138
noncomputable def l138 : Nat → List Nat
  | _ => []
noncomputable def u138 : Nat → Bool
  | _ => false
noncomputable def m138 : Nat → Bool
  | _ => false
noncomputable def g138 : Cfg := { N := 32, live := l138, cut := u138, mu := m138, ret := rets }
theorem s138 : ∀ (l : List T.Span) (p : Int) (Post : AV → List AObj → Prop),
  (ASpec Tryd.prog 113 [AV.sl 2 (Seq.map T.encS ((0 : Int), (0 : Int)) l) Tip.none, AV.int IntKind.i64 p] [] fun (r : AV) (H' : List AObj) =>
      ∃ (x : Int),
        r = AV.int IntKind.i64 x ∧
         H' = [] ∧
         condP (x == (↑(List.length l) : Int)) (Post (AV.int IntKind.i64 (1000000000 : Int)) [])
         (needP ((0 : Int) ≤ x ∧ x < (↑(List.length l) : Int))
         (condP (decide (Prod.fst (List.getD l (Int.toNat x) ((0 : Int), (0 : Int))) > p))
         (needP ((0 : Int) ≤ x ∧ x < (↑(List.length l) : Int)) (Post (AV.int IntKind.i64 (Prod.fst (List.getD l (Int.toNat x) ((0 : Int), (0 : Int))))) []))
         (needP ((0 : Int) ≤ x ∧ x < (↑(List.length l) : Int)) (Post (AV.int IntKind.i64 (Prod.snd (List.getD l (Int.toNat x) ((0 : Int), (0 : Int))))) []))))) →
    ASpec Tryd.prog 138 [AV.sl 2 (Seq.map T.encS ((0 : Int), (0 : Int)) l) Tip.none, AV.int IntKind.i64 p] [] Post := fun l p Post h => Go.Ab.ASpec.of_vc g138 Go.Proofs.Tryd.func138 (by kernel_rfl) (by kernel_rfl) (by kernel_rfl) (Go.Ab.kc (by kernel_rfl) h)

-- 139
noncomputable def l139 : Nat → List Nat
  | _ => []
noncomputable def u139 : Nat → Bool
  | _ => false
noncomputable def m139 : Nat → Bool
  | 37 => true
  | _ => false
noncomputable def g139 : Cfg := { N := 38, live := l139, cut := u139, mu := m139, ret := rets }
theorem s139n : ∀ (s : T.Span) (Post : AV → List AObj → Prop),
  needP (16 ≤ 140737488351232)
      (needP (1 ≤ 1)
        (Post (AV.msl 2 1 0 1)
         [AObj.cells [AV.int IntKind.i64 (Prod.fst s), AV.int IntKind.i64 (Prod.snd s)], AObj.arr 2 (Seq.raw [[AV.int IntKind.i64 (Prod.fst s), AV.int IntKind.i64 (Prod.snd s)]])])) →
    ASpec Tryd.prog 139 [AV.sl 0 (Seq.raw []) Tip.nil, AV.agg (T.encS s)] [] Post := fun s Post h => Go.Ab.ASpec.of_vc g139 Go.Proofs.Tryd.func139 (by kernel_rfl) (by kernel_rfl) (by kernel_rfl) (Go.Ab.kc (by kernel_rfl) h)
theorem s139m : ∀ (o : List T.Span) (k : Nat) (s : T.Span) (Post : AV → List AObj → Prop),
  condP (decide (IntKind.wrap IntKind.i64 ((↑k : Int) - (1 : Int)) ≥ (0 : Int)))
      (needP ((0 : Int) ≤ IntKind.wrap IntKind.i64 ((↑k : Int) - (1 : Int)) ∧ IntKind.wrap IntKind.i64 ((↑k : Int) - (1 : Int)) < (↑k : Int))
        (needP (0 + Int.toNat (IntKind.wrap IntKind.i64 ((↑k : Int) - (1 : Int))) < List.length o)
         (condP (decide (Prod.fst s ≤ Prod.snd (List.getD o (0 + Int.toNat (IntKind.wrap IntKind.i64 ((↑k : Int) - (1 : Int)))) ((0 : Int), (0 : Int)))))
         (needP ((0 : Int) ≤ IntKind.wrap IntKind.i64 ((↑k : Int) - (1 : Int)) ∧ IntKind.wrap IntKind.i64 ((↑k : Int) - (1 : Int)) < (↑k : Int))
         (needP (0 + Int.toNat (IntKind.wrap IntKind.i64 ((↑k : Int) - (1 : Int))) < List.length o)
         (needP ((0 : Int) ≤ IntKind.wrap IntKind.i64 ((↑k : Int) - (1 : Int)) ∧ IntKind.wrap IntKind.i64 ((↑k : Int) - (1 : Int)) < (↑k : Int))
         (needP (0 + Int.toNat (IntKind.wrap IntKind.i64 ((↑k : Int) - (1 : Int))) < List.length o)
         (Post (AV.msl 2 0 0 k)
         [AObj.arr 2
         (Seq.raw
         (List.set (Seq.toList (Seq.map T.encS ((0 : Int), (0 : Int)) o)) (0 + Int.toNat (IntKind.wrap IntKind.i64 ((↑k : Int) - (1 : Int))))
         [AV.int IntKind.i64 (Prod.fst (List.getD o (0 + Int.toNat (IntKind.wrap IntKind.i64 ((↑k : Int) - (1 : Int)))) ((0 : Int), (0 : Int)))),
         AV.int IntKind.i64
         (if Prod.snd s > Prod.snd (List.getD o (0 + Int.toNat (IntKind.wrap IntKind.i64 ((↑k : Int) - (1 : Int)))) ((0 : Int), (0 : Int))) then Prod.snd s
         else Prod.snd (List.getD o (0 + Int.toNat (IntKind.wrap IntKind.i64 ((↑k : Int) - (1 : Int)))) ((0 : Int), (0 : Int))))])),
         AObj.cells [AV.int IntKind.i64 (Prod.fst s), AV.int IntKind.i64 (Prod.snd s)]])))))
         (needP (k = List.length o ∧ (k + 1) * 16 ≤ 140737488351232)
         (Post (AV.msl 2 2 0 (k + 1))
         [AObj.gone, AObj.cells [AV.int IntKind.i64 (Prod.fst s), AV.int IntKind.i64 (Prod.snd s)],
         AObj.arr 2 (Seq.app (Seq.map T.encS ((0 : Int), (0 : Int)) o) (Seq.raw [[AV.int IntKind.i64 (Prod.fst s), AV.int IntKind.i64 (Prod.snd s)]]))])))))
      (needP (k = List.length o ∧ (k + 1) * 16 ≤ 140737488351232)
        (Post (AV.msl 2 2 0 (k + 1))
         [AObj.gone, AObj.cells [AV.int IntKind.i64 (Prod.fst s), AV.int IntKind.i64 (Prod.snd s)],
         AObj.arr 2 (Seq.app (Seq.map T.encS ((0 : Int), (0 : Int)) o) (Seq.raw [[AV.int IntKind.i64 (Prod.fst s), AV.int IntKind.i64 (Prod.snd s)]]))])) →
    ASpec Tryd.prog 139 [AV.msl 2 0 0 k, AV.agg (T.encS s)] [AObj.arr 2 (Seq.map T.encS ((0 : Int), (0 : Int)) o)] Post := fun o k s Post h => Go.Ab.ASpec.of_vc g139 Go.Proofs.Tryd.func139 (by kernel_rfl) (by kernel_rfl) (by kernel_rfl) (Go.Ab.kc (by kernel_rfl) h)

-- 108
noncomputable def l108 : Nat → List Nat
  | 3 => [0, 1, 2, 7, 8]
  | 8 => [7]
  | _ => []
noncomputable def u108 : Nat → Bool
  | 8 => true
  | _ => false
noncomputable def m108 : Nat → Bool
  | _ => false
noncomputable def g108 : Cfg := { N := 34, live := l108, cut := u108, mu := m108, ret := rets }
noncomputable def c108 : Go.Code := Go.Ab.bodyOf Go.Proofs.Tryd.f108
noncomputable def q108_0 : Nat → (AV → List AObj → Prop) → AQ := fun (n : Nat) (Post : AV → List AObj → Prop) => endQ Tryd.prog (resultsOf Tryd.f108) Post
noncomputable def c108_8 : Go.Code := codeSnd (codeSnd (codeSnd c108))
noncomputable def q108_1 : Nat → (AV → List AObj → Prop) → AQ := fun (n : Nat) (Post : AV → List AObj → Prop) => seqQ (fun (s' : Slots) (H' : List AObj) => AWP Tryd.prog (Cfg.N g108) n c108_8 (restrict s' (Cfg.live g108 8)) H' (q108_0 n Post)) (q108_0 n Post)
noncomputable def q108_2 : Nat → (AV → List AObj → Prop) → AQ := fun (n : Nat) (Post : AV → List AObj → Prop) => blockQ 0 (q108_1 n Post)
noncomputable def c108_3 : Go.Code := codeFst (codeSnd (codeFst (codeSnd (codeSnd c108))))
theorem s108 : ∀ (a b : List T.Span) (Post : AV → List AObj → Prop),
  AWP Tryd.prog 34 0 c108_3
      [(0, AV.sl 2 (Seq.map T.encS ((0 : Int), (0 : Int)) a) Tip.none), (1, AV.sl 2 (Seq.map T.encS ((0 : Int), (0 : Int)) b) Tip.none),
        (2, AV.fn (110 : FuncId) []), (7, AV.sl 0 (Seq.raw []) Tip.nil), (8, AV.int IntKind.i64 (0 : Int))]
      [] (q108_2 0 Post) →
    ASpec Tryd.prog 108 [AV.sl 2 (Seq.map T.encS ((0 : Int), (0 : Int)) a) Tip.none, AV.sl 2 (Seq.map T.encS ((0 : Int), (0 : Int)) b) Tip.none, AV.fn (110 : FuncId) []] []
      Post := fun a b Post h => Go.Ab.ASpec.of_vc g108 Go.Proofs.Tryd.func108 (by kernel_rfl) (by kernel_rfl) (by kernel_rfl) (Go.Ab.kc (by kernel_rfl) h)
theorem v108_3n : ∀ (a b : List T.Span) (p : Int) (n : Nat) (Post : AV → List AObj → Prop),
  condP (decide (p < (1000000000 : Int)))
      (ASpec Tryd.prog 138 [AV.sl 2 (Seq.map T.encS ((0 : Int), (0 : Int)) a) Tip.none, AV.int IntKind.i64 p] [] fun (r : AV) (H' : List AObj) =>
        ∃ (x : Int),
         r = AV.int IntKind.i64 x ∧
         H' = [] ∧
         ASpec Tryd.prog 138 [AV.sl 2 (Seq.map T.encS ((0 : Int), (0 : Int)) b) Tip.none, AV.int IntKind.i64 p] [] fun (r : AV) (H' : List AObj) =>
         ∃ (x_1 : Int),
         r = AV.int IntKind.i64 x_1 ∧
         H' = [] ∧
         ASpec Tryd.prog 66 [AV.sl 2 (Seq.map T.encS ((0 : Int), (0 : Int)) a) Tip.none, AV.int IntKind.i64 p] [] fun (r : AV) (H' : List AObj) =>
         ∃ (x_2 : Bool),
         r = AV.bool x_2 ∧
         H' = [] ∧
         ASpec Tryd.prog 66 [AV.sl 2 (Seq.map T.encS ((0 : Int), (0 : Int)) b) Tip.none, AV.int IntKind.i64 p] [] fun (r : AV) (H' : List AObj) =>
         ∃ (x_3 : Bool),
         r = AV.bool x_3 ∧
         H' = [] ∧
         ASpec Tryd.prog 110 [AV.bool x_2, AV.bool x_3] [] fun (r : AV) (H' : List AObj) =>
         ∃ (x_4 : Bool),
         r = AV.bool x_4 ∧
         H' = [] ∧
         condP x_4
         (ASpec Tryd.prog 139 [AV.sl 0 (Seq.raw []) Tip.nil, AV.agg [AV.int IntKind.i64 p, AV.int IntKind.i64 (if x_1 < x then x_1 else x)]] []
         fun (r : AV) (H' : List AObj) =>
         (∃ (x_5 : Int × Int),
         r = AV.msl 2 0 0 1 ∧
         H' = [AObj.arr 2 (Seq.map T.encS ((0 : Int), (0 : Int)) [x_5])] ∧
         AWP Tryd.prog 34 n c108_3
         [(0, AV.sl 2 (Seq.map T.encS ((0 : Int), (0 : Int)) a) Tip.none),
         (1, AV.sl 2 (Seq.map T.encS ((0 : Int), (0 : Int)) b) Tip.none), (2, AV.fn (110 : FuncId) []),
         (7, AV.msl 2 0 0 1), (8, AV.int IntKind.i64 (if x_1 < x then x_1 else x))]
         [AObj.arr 2 (Seq.map T.encS ((0 : Int), (0 : Int)) [x_5])] (q108_2 n Post)) ∨
         (∃ (x_5 : List T.Span),
         r = AV.sl 0 (Seq.raw []) Tip.nil ∧
         H' = [] ∧
         AWP Tryd.prog 34 n c108_3
         [(0, AV.sl 2 (Seq.map T.encS ((0 : Int), (0 : Int)) a) Tip.none),
         (1, AV.sl 2 (Seq.map T.encS ((0 : Int), (0 : Int)) b) Tip.none), (2, AV.fn (110 : FuncId) []),
         (7, AV.sl 0 (Seq.raw []) Tip.nil), (8, AV.int IntKind.i64 (if x_1 < x then x_1 else x))]
         [] (q108_2 n Post)) ∨
         ∃ (x_5 : List T.Span),
         r = AV.msl 2 0 0 (List.length x_5) ∧
         H' = [] ∧
         AWP Tryd.prog 34 n c108_3
         [(0, AV.sl 2 (Seq.map T.encS ((0 : Int), (0 : Int)) a) Tip.none),
         (1, AV.sl 2 (Seq.map T.encS ((0 : Int), (0 : Int)) b) Tip.none), (2, AV.fn (110 : FuncId) []),
         (7, AV.msl 2 0 0 (List.length x_5)), (8, AV.int IntKind.i64 (if x_1 < x then x_1 else x))]
         [] (q108_2 n Post))
         (AWP Tryd.prog 34 n c108_3
         [(0, AV.sl 2 (Seq.map T.encS ((0 : Int), (0 : Int)) a) Tip.none),
         (1, AV.sl 2 (Seq.map T.encS ((0 : Int), (0 : Int)) b) Tip.none), (2, AV.fn (110 : FuncId) []),
         (7, AV.sl 0 (Seq.raw []) Tip.nil), (8, AV.int IntKind.i64 (if x_1 < x then x_1 else x))]
         [] (q108_2 n Post)))
      (AWP Tryd.prog 34 n c108_8 [(7, AV.sl 0 (Seq.raw []) Tip.nil)] [] (q108_0 n Post)) →
    AWP Tryd.prog 34 n c108_3
      [(0, AV.sl 2 (Seq.map T.encS ((0 : Int), (0 : Int)) a) Tip.none), (1, AV.sl 2 (Seq.map T.encS ((0 : Int), (0 : Int)) b) Tip.none),
        (2, AV.fn (110 : FuncId) []), (7, AV.sl 0 (Seq.raw []) Tip.nil), (8, AV.int IntKind.i64 p)]
      [] (q108_2 n Post) := fun a b p n Post h => Go.Ab.AWP.loop' g108 (Cfg.live g108) c108_3 (by kernel_rfl) (by kernel_rfl) (Go.Ab.kc (by kernel_rfl) h)
theorem v108_3m : ∀ (a b o : List T.Span) (k : Nat) (p : Int) (n : Nat) (Post : AV → List AObj → Prop),
  condP (decide (p < (1000000000 : Int)))
      (ASpec Tryd.prog 138 [AV.sl 2 (Seq.map T.encS ((0 : Int), (0 : Int)) a) Tip.none, AV.int IntKind.i64 p] [AObj.arr 2 (Seq.map T.encS ((0 : Int), (0 : Int)) o)]
        fun (r : AV) (H' : List AObj) =>
        ∃ (x : Int),
         r = AV.int IntKind.i64 x ∧
         H' = [AObj.arr 2 (Seq.map T.encS ((0 : Int), (0 : Int)) o)] ∧
         ASpec Tryd.prog 138 [AV.sl 2 (Seq.map T.encS ((0 : Int), (0 : Int)) b) Tip.none, AV.int IntKind.i64 p] [AObj.arr 2 (Seq.map T.encS ((0 : Int), (0 : Int)) o)]
         fun (r : AV) (H' : List AObj) =>
         ∃ (x_1 : Int),
         r = AV.int IntKind.i64 x_1 ∧
         H' = [AObj.arr 2 (Seq.map T.encS ((0 : Int), (0 : Int)) o)] ∧
         ASpec Tryd.prog 66 [AV.sl 2 (Seq.map T.encS ((0 : Int), (0 : Int)) a) Tip.none, AV.int IntKind.i64 p]
         [AObj.arr 2 (Seq.map T.encS ((0 : Int), (0 : Int)) o)] fun (r : AV) (H' : List AObj) =>
         ∃ (x_2 : Bool),
         r = AV.bool x_2 ∧
         H' = [AObj.arr 2 (Seq.map T.encS ((0 : Int), (0 : Int)) o)] ∧
         ASpec Tryd.prog 66 [AV.sl 2 (Seq.map T.encS ((0 : Int), (0 : Int)) b) Tip.none, AV.int IntKind.i64 p]
         [AObj.arr 2 (Seq.map T.encS ((0 : Int), (0 : Int)) o)] fun (r : AV) (H' : List AObj) =>
         ∃ (x_3 : Bool),
         r = AV.bool x_3 ∧
         H' = [AObj.arr 2 (Seq.map T.encS ((0 : Int), (0 : Int)) o)] ∧
         ASpec Tryd.prog 110 [AV.bool x_2, AV.bool x_3] [AObj.arr 2 (Seq.map T.encS ((0 : Int), (0 : Int)) o)] fun (r : AV) (H' : List AObj) =>
         ∃ (x_4 : Bool),
         r = AV.bool x_4 ∧
         H' = [AObj.arr 2 (Seq.map T.encS ((0 : Int), (0 : Int)) o)] ∧
         condP x_4
         (ASpec Tryd.prog 139 [AV.msl 2 0 0 k, AV.agg [AV.int IntKind.i64 p, AV.int IntKind.i64 (if x_1 < x then x_1 else x)]]
         [AObj.arr 2 (Seq.map T.encS ((0 : Int), (0 : Int)) o)] fun (r : AV) (H' : List AObj) =>
         (∃ (x_5 : Int × Int),
         r = AV.msl 2 1 0 1 ∧
         H' = [AObj.arr 2 (Seq.map T.encS ((0 : Int), (0 : Int)) o), AObj.arr 2 (Seq.map T.encS ((0 : Int), (0 : Int)) [x_5])] ∧
         AWP Tryd.prog 34 n c108_3
         [(0, AV.sl 2 (Seq.map T.encS ((0 : Int), (0 : Int)) a) Tip.none),
         (1, AV.sl 2 (Seq.map T.encS ((0 : Int), (0 : Int)) b) Tip.none), (2, AV.fn (110 : FuncId) []),
         (7, AV.msl 2 1 0 1), (8, AV.int IntKind.i64 (if x_1 < x then x_1 else x))]
         [AObj.arr 2 (Seq.map T.encS ((0 : Int), (0 : Int)) o), AObj.arr 2 (Seq.map T.encS ((0 : Int), (0 : Int)) [x_5])]
         (q108_2 n Post)) ∨
         (∃ (x_5 : List T.Span),
         r = AV.msl 2 0 0 k ∧
         H' = [AObj.arr 2 (Seq.map T.encS ((0 : Int), (0 : Int)) x_5)] ∧
         AWP Tryd.prog 34 n c108_3
         [(0, AV.sl 2 (Seq.map T.encS ((0 : Int), (0 : Int)) a) Tip.none),
         (1, AV.sl 2 (Seq.map T.encS ((0 : Int), (0 : Int)) b) Tip.none), (2, AV.fn (110 : FuncId) []),
         (7, AV.msl 2 0 0 k), (8, AV.int IntKind.i64 (if x_1 < x then x_1 else x))]
         [AObj.arr 2 (Seq.map T.encS ((0 : Int), (0 : Int)) x_5)] (q108_2 n Post)) ∨
         ∃ (x_5 : List T.Span),
         r = AV.msl 2 1 0 (List.length x_5) ∧
         H' = [AObj.gone, AObj.arr 2 (Seq.map T.encS ((0 : Int), (0 : Int)) x_5)] ∧
         AWP Tryd.prog 34 n c108_3
         [(0, AV.sl 2 (Seq.map T.encS ((0 : Int), (0 : Int)) a) Tip.none),
         (1, AV.sl 2 (Seq.map T.encS ((0 : Int), (0 : Int)) b) Tip.none), (2, AV.fn (110 : FuncId) []),
         (7, AV.msl 2 1 0 (List.length x_5)), (8, AV.int IntKind.i64 (if x_1 < x then x_1 else x))]
         [AObj.gone, AObj.arr 2 (Seq.map T.encS ((0 : Int), (0 : Int)) x_5)] (q108_2 n Post))
         (AWP Tryd.prog 34 n c108_3
         [(0, AV.sl 2 (Seq.map T.encS ((0 : Int), (0 : Int)) a) Tip.none),
         (1, AV.sl 2 (Seq.map T.encS ((0 : Int), (0 : Int)) b) Tip.none), (2, AV.fn (110 : FuncId) []),
         (7, AV.msl 2 0 0 k), (8, AV.int IntKind.i64 (if x_1 < x then x_1 else x))]
         [AObj.arr 2 (Seq.map T.encS ((0 : Int), (0 : Int)) o)] (q108_2 n Post)))
      (AWP Tryd.prog 34 n c108_8 [(7, AV.msl 2 0 0 k)] [AObj.arr 2 (Seq.map T.encS ((0 : Int), (0 : Int)) o)] (q108_0 n Post)) →
    AWP Tryd.prog 34 n c108_3
      [(0, AV.sl 2 (Seq.map T.encS ((0 : Int), (0 : Int)) a) Tip.none), (1, AV.sl 2 (Seq.map T.encS ((0 : Int), (0 : Int)) b) Tip.none),
        (2, AV.fn (110 : FuncId) []), (7, AV.msl 2 0 0 k), (8, AV.int IntKind.i64 p)]
      [AObj.arr 2 (Seq.map T.encS ((0 : Int), (0 : Int)) o)] (q108_2 n Post) := fun a b o k p n Post h => Go.Ab.AWP.loop' g108 (Cfg.live g108) c108_3 (by kernel_rfl) (by kernel_rfl) (Go.Ab.kc (by kernel_rfl) h)
theorem v108_8n : ∀ (n : Nat) (Post : AV → List AObj → Prop), Post (AV.sl 0 (Seq.raw []) Tip.nil) [] → AWP Tryd.prog 34 n c108_8 [(7, AV.sl 0 (Seq.raw []) Tip.nil)] [] (q108_0 n Post) := fun n Post h => Go.Ab.awp_sound g108 n _ _ _ _ (Go.Ab.kc (by kernel_rfl) h)
theorem v108_8s : ∀ (o : List T.Span) (n : Nat) (Post : AV → List AObj → Prop),
  Post (AV.sl 2 (Seq.map T.encS ((0 : Int), (0 : Int)) o) Tip.none) [] →
    AWP Tryd.prog 34 n c108_8 [(7, AV.sl 2 (Seq.map T.encS ((0 : Int), (0 : Int)) o) Tip.none)] [] (q108_0 n Post) := fun o n Post h => Go.Ab.awp_sound g108 n _ _ _ _ (Go.Ab.kc (by kernel_rfl) h)

-- 54
noncomputable def l54 : Nat → List Nat
  | _ => []
noncomputable def u54 : Nat → Bool
  | _ => false
noncomputable def m54 : Nat → Bool
  | _ => false
noncomputable def g54 : Cfg := { N := 8, live := l54, cut := u54, mu := m54, ret := rets }
theorem s54 : ∀ (a b : List T.Span) (Post : AV → List AObj → Prop),
  (ASpec Tryd.prog 108 [AV.sl 2 (Seq.map T.encS ((0 : Int), (0 : Int)) a) Tip.none, AV.sl 2 (Seq.map T.encS ((0 : Int), (0 : Int)) b) Tip.none, AV.fn 110 []] []
      fun (r : AV) (H' : List AObj) =>
      ∃ (x : List T.Span), r = AV.sl 2 (Seq.map T.encS ((0 : Int), (0 : Int)) x) Tip.none ∧ H' = [] ∧ Post (AV.sl 2 (Seq.map T.encS ((0 : Int), (0 : Int)) x) Tip.none) []) →
    ASpec Tryd.prog 54 [AV.sl 2 (Seq.map T.encS ((0 : Int), (0 : Int)) a) Tip.none, AV.sl 2 (Seq.map T.encS ((0 : Int), (0 : Int)) b) Tip.none] [] Post := fun a b Post h => Go.Ab.ASpec.of_vc g54 Go.Proofs.Tryd.func54 (by kernel_rfl) (by kernel_rfl) (by kernel_rfl) (Go.Ab.kc (by kernel_rfl) h)

-- 110
noncomputable def l110 : Nat → List Nat
  | _ => []
noncomputable def u110 : Nat → Bool
  | _ => false
noncomputable def m110 : Nat → Bool
  | _ => false
noncomputable def g110 : Cfg := { N := 9, live := l110, cut := u110, mu := m110, ret := rets }
theorem s110 : ∀ (x y : Bool) (Post : AV → List AObj → Prop), condP x (Post (AV.bool y) []) (Post (AV.bool false) []) → ASpec Tryd.prog 110 [AV.bool x, AV.bool y] [] Post := fun x y Post h => Go.Ab.ASpec.of_vc g110 Go.Proofs.Tryd.func110 (by kernel_rfl) (by kernel_rfl) (by kernel_rfl) (Go.Ab.kc (by kernel_rfl) h)

-- 58
noncomputable def l58 : Nat → List Nat
  | 2 => [1, 8, 9, 10]
  | _ => []
noncomputable def u58 : Nat → Bool
  | _ => false
noncomputable def m58 : Nat → Bool
  | _ => false
noncomputable def g58 : Cfg := { N := 43, live := l58, cut := u58, mu := m58, ret := rets }
noncomputable def c58 : Go.Code := Go.Ab.bodyOf Go.Proofs.Tryd.f58
noncomputable def q58_0 : Nat → (AV → List AObj → Prop) → AQ := fun (n : Nat) (Post : AV → List AObj → Prop) => endQ Tryd.prog (resultsOf Tryd.f58) Post
noncomputable def q58_1 : Nat → (AV → List AObj → Prop) → AQ := fun (n : Nat) (Post : AV → List AObj → Prop) => seqQ (fun (s' : Slots) (H' : List AObj) => awp Tryd.prog g58 n (codeSnd (codeSnd c58)) s' H' (q58_0 n Post)) (q58_0 n Post)
noncomputable def q58_2 : Nat → (AV → List AObj → Prop) → AQ := fun (n : Nat) (Post : AV → List AObj → Prop) => blockQ 0 (q58_1 n Post)
noncomputable def c58_2 : Go.Code := codeFst (codeSnd (codeFst (codeSnd c58)))
theorem s58 : ∀ (a b : List T.Span) (Post : AV → List AObj → Prop),
  AWP Tryd.prog 43 0 c58_2
      [(1, AV.sl 2 (Seq.map T.encS ((0 : Int), (0 : Int)) b) Tip.none), (8, AV.sl 2 (Seq.map T.encS ((0 : Int), (0 : Int)) a) Tip.none),
        (9, AV.int IntKind.i64 (↑(List.length a) : Int)), (10, AV.int IntKind.i64 (0 : Int))]
      [] (q58_2 0 Post) →
    ASpec Tryd.prog 58 [AV.sl 2 (Seq.map T.encS ((0 : Int), (0 : Int)) a) Tip.none, AV.sl 2 (Seq.map T.encS ((0 : Int), (0 : Int)) b) Tip.none] [] Post := fun a b Post h => Go.Ab.ASpec.of_vc g58 Go.Proofs.Tryd.func58 (by kernel_rfl) (by kernel_rfl) (by kernel_rfl) (Go.Ab.kc (by kernel_rfl) h)
theorem v58_2 : ∀ (a b : List T.Span) (n i : Int) (n_1 : Nat) (Post : AV → List AObj → Prop),
  condP (decide (i < n))
      (needP ((0 : Int) ≤ i ∧ i < (↑(List.length a) : Int))
        (ASpec Tryd.prog 113 [AV.sl 2 (Seq.map T.encS ((0 : Int), (0 : Int)) b) Tip.none, AV.int IntKind.i64 (Prod.fst (List.getD a (Int.toNat i) ((0 : Int), (0 : Int))))]
         [AObj.cells [AV.int IntKind.i64 (Prod.fst (List.getD a (Int.toNat i) ((0 : Int), (0 : Int)))), AV.int IntKind.i64 (Prod.snd (List.getD a (Int.toNat i) ((0 : Int), (0 : Int))))]]
         fun (r : AV) (H' : List AObj) =>
         ∃ (x : Int),
         r = AV.int IntKind.i64 x ∧
         H' = [AObj.cells [AV.int IntKind.i64 (Prod.fst (List.getD a (Int.toNat i) ((0 : Int), (0 : Int)))), AV.int IntKind.i64 (Prod.snd (List.getD a (Int.toNat i) ((0 : Int), (0 : Int))))]] ∧
         condP (x == (↑(List.length b) : Int))
         (Post (AV.bool false)
         [AObj.cells [AV.int IntKind.i64 (Prod.fst (List.getD a (Int.toNat i) ((0 : Int), (0 : Int)))), AV.int IntKind.i64 (Prod.snd (List.getD a (Int.toNat i) ((0 : Int), (0 : Int))))]])
         (needP ((0 : Int) ≤ x ∧ x < (↑(List.length b) : Int))
         (condP (decide (Prod.fst (List.getD b (Int.toNat x) ((0 : Int), (0 : Int))) > Prod.fst (List.getD a (Int.toNat i) ((0 : Int), (0 : Int)))))
         (Post (AV.bool false)
         [AObj.cells
         [AV.int IntKind.i64 (Prod.fst (List.getD a (Int.toNat i) ((0 : Int), (0 : Int)))), AV.int IntKind.i64 (Prod.snd (List.getD a (Int.toNat i) ((0 : Int), (0 : Int))))]])
         (needP ((0 : Int) ≤ x ∧ x < (↑(List.length b) : Int))
         (condP (decide (Prod.snd (List.getD b (Int.toNat x) ((0 : Int), (0 : Int))) < Prod.snd (List.getD a (Int.toNat i) ((0 : Int), (0 : Int)))))
         (Post (AV.bool false)
         [AObj.cells
         [AV.int IntKind.i64 (Prod.fst (List.getD a (Int.toNat i) ((0 : Int), (0 : Int)))), AV.int IntKind.i64 (Prod.snd (List.getD a (Int.toNat i) ((0 : Int), (0 : Int))))]])
         (AWP Tryd.prog 43 n_1 c58_2
         [(1, AV.sl 2 (Seq.map T.encS ((0 : Int), (0 : Int)) b) Tip.none), (8, AV.sl 2 (Seq.map T.encS ((0 : Int), (0 : Int)) a) Tip.none),
         (9, AV.int IntKind.i64 n), (10, AV.int IntKind.i64 (IntKind.wrap IntKind.i64 (i + (1 : Int))))]
         [AObj.cells
         [AV.int IntKind.i64 (Prod.fst (List.getD a (Int.toNat i) ((0 : Int), (0 : Int)))), AV.int IntKind.i64 (Prod.snd (List.getD a (Int.toNat i) ((0 : Int), (0 : Int))))]]
         (q58_2 n_1 Post))))))))
      (Post (AV.bool true) []) →
    AWP Tryd.prog 43 n_1 c58_2
      [(1, AV.sl 2 (Seq.map T.encS ((0 : Int), (0 : Int)) b) Tip.none), (8, AV.sl 2 (Seq.map T.encS ((0 : Int), (0 : Int)) a) Tip.none),
        (9, AV.int IntKind.i64 n), (10, AV.int IntKind.i64 i)]
      [] (q58_2 n_1 Post) := fun a b n i n Post h => Go.Ab.AWP.loop' g58 (Cfg.live g58) c58_2 (by kernel_rfl) (by kernel_rfl) (Go.Ab.kc (by kernel_rfl) h)

-- 116
noncomputable def l116 : Nat → List Nat
  | _ => []
noncomputable def u116 : Nat → Bool
  | _ => false
noncomputable def m116 : Nat → Bool
  | _ => false
noncomputable def g116 : Cfg := { N := 3, live := l116, cut := u116, mu := m116, ret := rets }
theorem s116 : ∀ (Post : AV → List AObj → Prop), Post (AV.sl 2 (Seq.raw [[AV.int IntKind.i64 (0 : Int), AV.int IntKind.i64 (1000000000 : Int)]]) Tip.full) [] → ASpec Tryd.prog 116 [] [] Post := fun Post h => Go.Ab.ASpec.of_vc g116 Go.Proofs.Tryd.func116 (by kernel_rfl) (by kernel_rfl) (by kernel_rfl) (Go.Ab.kc (by kernel_rfl) h)

-- 120
noncomputable def l120 : Nat → List Nat
  | 4 => [0, 1, 2, 7, 8, 9]
  | 7 => [0, 1, 2, 7, 8, 9]
  | 11 => [7]
  | _ => []
noncomputable def u120 : Nat → Bool
  | 7 => true
  | 11 => true
  | _ => false
noncomputable def m120 : Nat → Bool
  | 79 => true
  | _ => false
noncomputable def g120 : Cfg := { N := 81, live := l120, cut := u120, mu := m120, ret := rets }
noncomputable def c120 : Go.Code := Go.Ab.bodyOf Go.Proofs.Tryd.f120
noncomputable def q120_0 : Nat → (AV → List AObj → Prop) → AQ := fun (n : Nat) (Post : AV → List AObj → Prop) => endQ Tryd.prog (resultsOf Tryd.f120) Post
noncomputable def c120_11 : Go.Code := codeSnd (codeSnd (codeSnd (codeSnd c120)))
noncomputable def q120_1 : Nat → (AV → List AObj → Prop) → AQ := fun (n : Nat) (Post : AV → List AObj → Prop) => seqQ (fun (s' : Slots) (H' : List AObj) => AWP Tryd.prog (Cfg.N g120) n c120_11 (restrict s' (Cfg.live g120 11)) H' (q120_0 n Post)) (q120_0 n Post)
noncomputable def q120_2 : Nat → (AV → List AObj → Prop) → AQ := fun (n : Nat) (Post : AV → List AObj → Prop) => blockQ 0 (q120_1 n Post)
noncomputable def c120_4 : Go.Code := codeFst (codeSnd (codeFst (codeSnd (codeSnd (codeSnd c120)))))
theorem s120 : ∀ (op : Int) (a b : List T.Span) (Post : AV → List AObj → Prop),
  (ASpec Tryd.prog 144 [AV.sl 2 (Seq.map T.encS ((0 : Int), (0 : Int)) a) Tip.none, AV.sl 2 (Seq.map T.encS ((0 : Int), (0 : Int)) b) Tip.none] []
      fun (r : AV) (H' : List AObj) =>
      ∃ (x : List Int),
        r = AV.sl 1 (Seq.map encI (0 : Int) x) Tip.none ∧
         H' = [] ∧
         AWP Tryd.prog 81 0 c120_4
         [(0, AV.int IntKind.i64 op), (1, AV.sl 2 (Seq.map T.encS ((0 : Int), (0 : Int)) a) Tip.none),
         (2, AV.sl 2 (Seq.map T.encS ((0 : Int), (0 : Int)) b) Tip.none), (7, AV.sl 0 (Seq.raw []) Tip.nil),
         (8, AV.sl 1 (Seq.map encI (0 : Int) x) Tip.none), (9, AV.int IntKind.i64 (0 : Int))]
         [] (q120_2 0 Post)) →
    ASpec Tryd.prog 120 [AV.int IntKind.i64 op, AV.sl 2 (Seq.map T.encS ((0 : Int), (0 : Int)) a) Tip.none, AV.sl 2 (Seq.map T.encS ((0 : Int), (0 : Int)) b) Tip.none] [] Post := fun op a b Post h => Go.Ab.ASpec.of_vc g120 Go.Proofs.Tryd.func120 (by kernel_rfl) (by kernel_rfl) (by kernel_rfl) (Go.Ab.kc (by kernel_rfl) h)
noncomputable def q120_3 : Nat → (AV → List AObj → Prop) → AQ := fun (n : Nat) (Post : AV → List AObj → Prop) => loopQ Tryd.prog 81 n c120_4 (q120_2 n Post) (Cfg.live g120)
noncomputable def q120_4 : Nat → (AV → List AObj → Prop) → AQ := fun (n : Nat) (Post : AV → List AObj → Prop) => seqQ (fun (s' : Slots) (H' : List AObj) => awp Tryd.prog g120 n (codeSnd (codeSnd (codeFst c120_4))) s' H' (q120_3 n Post)) (q120_3 n Post)
noncomputable def q120_5 : Nat → (AV → List AObj → Prop) → AQ := fun (n : Nat) (Post : AV → List AObj → Prop) => blockQ 1 (q120_4 n Post)
noncomputable def c120_7 : Go.Code := codeSnd (codeFst (codeFst (codeSnd (codeFst c120_4))))
theorem v120_4n : ∀ (op : Int) (a b : List T.Span) (l : List Int) (i : Int) (n : Nat) (Post : AV → List AObj → Prop),
  condP (decide (IntKind.wrap IntKind.i64 (i + (1 : Int)) < (↑(List.length l) : Int)))
      (needP ((0 : Int) ≤ i ∧ i < (↑(List.length l) : Int))
        (needP ((0 : Int) ≤ i ∧ i < (↑(List.length l) : Int))
         (ASpec Tryd.prog 67 [AV.sl 2 (Seq.map T.encS ((0 : Int), (0 : Int)) a) Tip.none, AV.int IntKind.i64 (List.getD l (Int.toNat i) (0 : Int))] [] fun (r : AV) (H' : List AObj) =>
         ∃ (x : Bool),
         r = AV.bool x ∧
         H' = [] ∧
         (AV.int IntKind.i64 (List.getD l (Int.toNat i) (0 : Int)) = AV.int IntKind.i64 (List.getD l (Int.toNat i) (0 : Int)) ∧ ([] : List AObj) = []) ∧
         ASpec Tryd.prog 67 [AV.sl 2 (Seq.map T.encS ((0 : Int), (0 : Int)) b) Tip.none, AV.int IntKind.i64 (List.getD l (Int.toNat i) (0 : Int))] []
         fun (r : AV) (H' : List AObj) =>
         ∃ (x_1 : Bool),
         r = AV.bool x_1 ∧
         H' = [] ∧
         ASpec Tryd.prog 145 [AV.int IntKind.i64 op, AV.bool x, AV.bool x_1] [] fun (r : AV) (H' : List AObj) =>
         ∃ (x : Bool),
         r = AV.bool x ∧
         H' = [] ∧
         condP (!x)
         (AWP Tryd.prog 81 n c120_4
         [(0, AV.int IntKind.i64 op), (1, AV.sl 2 (Seq.map T.encS ((0 : Int), (0 : Int)) a) Tip.none),
         (2, AV.sl 2 (Seq.map T.encS ((0 : Int), (0 : Int)) b) Tip.none), (7, AV.sl 0 (Seq.raw []) Tip.nil),
         (8, AV.sl 1 (Seq.map encI (0 : Int) l) Tip.none), (9, AV.int IntKind.i64 (IntKind.wrap IntKind.i64 (i + (1 : Int))))]
         [] (q120_2 n Post))
         (AWP Tryd.prog 81 n c120_7
         [(0, AV.int IntKind.i64 op), (1, AV.sl 2 (Seq.map T.encS ((0 : Int), (0 : Int)) a) Tip.none),
         (2, AV.sl 2 (Seq.map T.encS ((0 : Int), (0 : Int)) b) Tip.none), (7, AV.sl 0 (Seq.raw []) Tip.nil),
         (8, AV.sl 1 (Seq.map encI (0 : Int) l) Tip.none), (9, AV.int IntKind.i64 i)]
         [] (q120_5 n Post)))))
      (AWP Tryd.prog 81 n c120_11 [(7, AV.sl 0 (Seq.raw []) Tip.nil)] [] (q120_0 n Post)) →
    AWP Tryd.prog 81 n c120_4
      [(0, AV.int IntKind.i64 op), (1, AV.sl 2 (Seq.map T.encS ((0 : Int), (0 : Int)) a) Tip.none),
        (2, AV.sl 2 (Seq.map T.encS ((0 : Int), (0 : Int)) b) Tip.none), (7, AV.sl 0 (Seq.raw []) Tip.nil),
        (8, AV.sl 1 (Seq.map encI (0 : Int) l) Tip.none), (9, AV.int IntKind.i64 i)]
      [] (q120_2 n Post) := fun op a b l i n Post h => Go.Ab.AWP.loop' g120 (Cfg.live g120) c120_4 (by kernel_rfl) (by kernel_rfl) (Go.Ab.kc (by kernel_rfl) h)
theorem v120_4m : ∀ (op : Int) (a b o : List T.Span) (k : Nat) (l : List Int) (i : Int) (n : Nat) (Post : AV → List AObj → Prop),
  condP (decide (IntKind.wrap IntKind.i64 (i + (1 : Int)) < (↑(List.length l) : Int)))
      (needP ((0 : Int) ≤ i ∧ i < (↑(List.length l) : Int))
        (needP ((0 : Int) ≤ i ∧ i < (↑(List.length l) : Int))
         (ASpec Tryd.prog 67 [AV.sl 2 (Seq.map T.encS ((0 : Int), (0 : Int)) a) Tip.none, AV.int IntKind.i64 (List.getD l (Int.toNat i) (0 : Int))]
         [AObj.arr 2 (Seq.map T.encS ((0 : Int), (0 : Int)) o)] fun (r : AV) (H' : List AObj) =>
         ∃ (x : Bool),
         r = AV.bool x ∧
         H' = [AObj.arr 2 (Seq.map T.encS ((0 : Int), (0 : Int)) o)] ∧
         (AV.int IntKind.i64 (List.getD l (Int.toNat i) (0 : Int)) = AV.int IntKind.i64 (List.getD l (Int.toNat i) (0 : Int)) ∧
         [AObj.arr 2 (Seq.map T.encS ((0 : Int), (0 : Int)) o)] = [AObj.arr 2 (Seq.map T.encS ((0 : Int), (0 : Int)) o)]) ∧
         ASpec Tryd.prog 67 [AV.sl 2 (Seq.map T.encS ((0 : Int), (0 : Int)) b) Tip.none, AV.int IntKind.i64 (List.getD l (Int.toNat i) (0 : Int))]
         [AObj.arr 2 (Seq.map T.encS ((0 : Int), (0 : Int)) o)] fun (r : AV) (H' : List AObj) =>
         ∃ (x_1 : Bool),
         r = AV.bool x_1 ∧
         H' = [AObj.arr 2 (Seq.map T.encS ((0 : Int), (0 : Int)) o)] ∧
         ASpec Tryd.prog 145 [AV.int IntKind.i64 op, AV.bool x, AV.bool x_1] [AObj.arr 2 (Seq.map T.encS ((0 : Int), (0 : Int)) o)] fun (r : AV) (H' : List AObj) =>
         ∃ (x : Bool),
         r = AV.bool x ∧
         H' = [AObj.arr 2 (Seq.map T.encS ((0 : Int), (0 : Int)) o)] ∧
         condP (!x)
         (AWP Tryd.prog 81 n c120_4
         [(0, AV.int IntKind.i64 op), (1, AV.sl 2 (Seq.map T.encS ((0 : Int), (0 : Int)) a) Tip.none),
         (2, AV.sl 2 (Seq.map T.encS ((0 : Int), (0 : Int)) b) Tip.none), (7, AV.msl 2 0 0 k),
         (8, AV.sl 1 (Seq.map encI (0 : Int) l) Tip.none), (9, AV.int IntKind.i64 (IntKind.wrap IntKind.i64 (i + (1 : Int))))]
         [AObj.arr 2 (Seq.map T.encS ((0 : Int), (0 : Int)) o)] (q120_2 n Post))
         (AWP Tryd.prog 81 n c120_7
         [(0, AV.int IntKind.i64 op), (1, AV.sl 2 (Seq.map T.encS ((0 : Int), (0 : Int)) a) Tip.none),
         (2, AV.sl 2 (Seq.map T.encS ((0 : Int), (0 : Int)) b) Tip.none), (7, AV.msl 2 0 0 k),
         (8, AV.sl 1 (Seq.map encI (0 : Int) l) Tip.none), (9, AV.int IntKind.i64 i)]
         [AObj.arr 2 (Seq.map T.encS ((0 : Int), (0 : Int)) o)] (q120_5 n Post)))))
      (AWP Tryd.prog 81 n c120_11 [(7, AV.msl 2 0 0 k)] [AObj.arr 2 (Seq.map T.encS ((0 : Int), (0 : Int)) o)] (q120_0 n Post)) →
    AWP Tryd.prog 81 n c120_4
      [(0, AV.int IntKind.i64 op), (1, AV.sl 2 (Seq.map T.encS ((0 : Int), (0 : Int)) a) Tip.none),
        (2, AV.sl 2 (Seq.map T.encS ((0 : Int), (0 : Int)) b) Tip.none), (7, AV.msl 2 0 0 k),
        (8, AV.sl 1 (Seq.map encI (0 : Int) l) Tip.none), (9, AV.int IntKind.i64 i)]
      [AObj.arr 2 (Seq.map T.encS ((0 : Int), (0 : Int)) o)] (q120_2 n Post) := fun op a b o k l i n Post h => Go.Ab.AWP.loop' g120 (Cfg.live g120) c120_4 (by kernel_rfl) (by kernel_rfl) (Go.Ab.kc (by kernel_rfl) h)
theorem v120_7n : ∀ (op : Int) (a b : List T.Span) (l : List Int) (i : Int) (n : Nat) (Post : AV → List AObj → Prop),
  needP ((0 : Int) ≤ i ∧ i < (↑(List.length l) : Int))
      (needP ((0 : Int) ≤ IntKind.wrap IntKind.i64 (i + (1 : Int)) ∧ IntKind.wrap IntKind.i64 (i + (1 : Int)) < (↑(List.length l) : Int))
        (needP (16 ≤ 140737488351232)
         (needP (1 ≤ 1)
         (AWP Tryd.prog 81 n c120_4
         [(0, AV.int IntKind.i64 op), (1, AV.sl 2 (Seq.map T.encS ((0 : Int), (0 : Int)) a) Tip.none),
         (2, AV.sl 2 (Seq.map T.encS ((0 : Int), (0 : Int)) b) Tip.none), (7, AV.msl 2 0 0 1),
         (8, AV.sl 1 (Seq.map encI (0 : Int) l) Tip.none), (9, AV.int IntKind.i64 (IntKind.wrap IntKind.i64 (i + (1 : Int))))]
         [AObj.arr 2
         (Seq.raw [[AV.int IntKind.i64 (List.getD l (Int.toNat i) (0 : Int)), AV.int IntKind.i64 (List.getD l (Int.toNat (IntKind.wrap IntKind.i64 (i + (1 : Int)))) (0 : Int))]])]
         (q120_2 n Post))))) →
    AWP Tryd.prog 81 n c120_7
      [(0, AV.int IntKind.i64 op), (1, AV.sl 2 (Seq.map T.encS ((0 : Int), (0 : Int)) a) Tip.none),
        (2, AV.sl 2 (Seq.map T.encS ((0 : Int), (0 : Int)) b) Tip.none), (7, AV.sl 0 (Seq.raw []) Tip.nil),
        (8, AV.sl 1 (Seq.map encI (0 : Int) l) Tip.none), (9, AV.int IntKind.i64 i)]
      [] (q120_5 n Post) := fun op a b l i n Post h => Go.Ab.awp_sound g120 n _ _ _ _ (Go.Ab.kc (by kernel_rfl) h)
theorem v120_7m : ∀ (op : Int) (a b o : List T.Span) (k : Nat) (l : List Int) (i : Int) (n : Nat) (Post : AV → List AObj → Prop),
  condP (decide (IntKind.wrap IntKind.i64 ((↑k : Int) - (1 : Int)) ≥ (0 : Int)))
      (needP ((0 : Int) ≤ IntKind.wrap IntKind.i64 ((↑k : Int) - (1 : Int)) ∧ IntKind.wrap IntKind.i64 ((↑k : Int) - (1 : Int)) < (↑k : Int))
        (needP (0 + Int.toNat (IntKind.wrap IntKind.i64 ((↑k : Int) - (1 : Int))) < List.length o)
         (needP ((0 : Int) ≤ i ∧ i < (↑(List.length l) : Int))
         (condP (Prod.snd (List.getD o (0 + Int.toNat (IntKind.wrap IntKind.i64 ((↑k : Int) - (1 : Int)))) ((0 : Int), (0 : Int))) == List.getD l (Int.toNat i) (0 : Int))
         (needP ((0 : Int) ≤ IntKind.wrap IntKind.i64 ((↑k : Int) - (1 : Int)) ∧ IntKind.wrap IntKind.i64 ((↑k : Int) - (1 : Int)) < (↑k : Int))
         (needP (0 + Int.toNat (IntKind.wrap IntKind.i64 ((↑k : Int) - (1 : Int))) < List.length o)
         (needP ((0 : Int) ≤ IntKind.wrap IntKind.i64 (i + (1 : Int)) ∧ IntKind.wrap IntKind.i64 (i + (1 : Int)) < (↑(List.length l) : Int))
         (needP ((0 : Int) ≤ IntKind.wrap IntKind.i64 ((↑k : Int) - (1 : Int)) ∧ IntKind.wrap IntKind.i64 ((↑k : Int) - (1 : Int)) < (↑k : Int))
         (needP (0 + Int.toNat (IntKind.wrap IntKind.i64 ((↑k : Int) - (1 : Int))) < List.length o)
         (AWP Tryd.prog 81 n c120_4
         [(0, AV.int IntKind.i64 op), (1, AV.sl 2 (Seq.map T.encS ((0 : Int), (0 : Int)) a) Tip.none),
         (2, AV.sl 2 (Seq.map T.encS ((0 : Int), (0 : Int)) b) Tip.none), (7, AV.msl 2 0 0 k),
         (8, AV.sl 1 (Seq.map encI (0 : Int) l) Tip.none), (9, AV.int IntKind.i64 (IntKind.wrap IntKind.i64 (i + (1 : Int))))]
         [AObj.arr 2
         (Seq.raw
         (List.set (Seq.toList (Seq.map T.encS ((0 : Int), (0 : Int)) o)) (0 + Int.toNat (IntKind.wrap IntKind.i64 ((↑k : Int) - (1 : Int))))
         [AV.int IntKind.i64 (Prod.fst (List.getD o (0 + Int.toNat (IntKind.wrap IntKind.i64 ((↑k : Int) - (1 : Int)))) ((0 : Int), (0 : Int)))),
         AV.int IntKind.i64 (List.getD l (Int.toNat (IntKind.wrap IntKind.i64 (i + (1 : Int)))) (0 : Int))]))]
         (q120_2 n Post)))))))
         (needP ((0 : Int) ≤ i ∧ i < (↑(List.length l) : Int))
         (needP ((0 : Int) ≤ IntKind.wrap IntKind.i64 (i + (1 : Int)) ∧ IntKind.wrap IntKind.i64 (i + (1 : Int)) < (↑(List.length l) : Int))
         (needP (k = List.length o ∧ (k + 1) * 16 ≤ 140737488351232)
         (AWP Tryd.prog 81 n c120_4
         [(0, AV.int IntKind.i64 op), (1, AV.sl 2 (Seq.map T.encS ((0 : Int), (0 : Int)) a) Tip.none),
         (2, AV.sl 2 (Seq.map T.encS ((0 : Int), (0 : Int)) b) Tip.none), (7, AV.msl 2 1 0 (k + 1)),
         (8, AV.sl 1 (Seq.map encI (0 : Int) l) Tip.none), (9, AV.int IntKind.i64 (IntKind.wrap IntKind.i64 (i + (1 : Int))))]
         [AObj.gone,
         AObj.arr 2
         (Seq.app (Seq.map T.encS ((0 : Int), (0 : Int)) o)
         (Seq.raw [[AV.int IntKind.i64 (List.getD l (Int.toNat i) (0 : Int)), AV.int IntKind.i64 (List.getD l (Int.toNat (IntKind.wrap IntKind.i64 (i + (1 : Int)))) (0 : Int))]]))]
         (q120_2 n Post)))))))))
      (needP ((0 : Int) ≤ i ∧ i < (↑(List.length l) : Int))
        (needP ((0 : Int) ≤ IntKind.wrap IntKind.i64 (i + (1 : Int)) ∧ IntKind.wrap IntKind.i64 (i + (1 : Int)) < (↑(List.length l) : Int))
         (needP (k = List.length o ∧ (k + 1) * 16 ≤ 140737488351232)
         (AWP Tryd.prog 81 n c120_4
         [(0, AV.int IntKind.i64 op), (1, AV.sl 2 (Seq.map T.encS ((0 : Int), (0 : Int)) a) Tip.none),
         (2, AV.sl 2 (Seq.map T.encS ((0 : Int), (0 : Int)) b) Tip.none), (7, AV.msl 2 1 0 (k + 1)),
         (8, AV.sl 1 (Seq.map encI (0 : Int) l) Tip.none), (9, AV.int IntKind.i64 (IntKind.wrap IntKind.i64 (i + (1 : Int))))]
         [AObj.gone,
         AObj.arr 2
         (Seq.app (Seq.map T.encS ((0 : Int), (0 : Int)) o)
         (Seq.raw [[AV.int IntKind.i64 (List.getD l (Int.toNat i) (0 : Int)), AV.int IntKind.i64 (List.getD l (Int.toNat (IntKind.wrap IntKind.i64 (i + (1 : Int)))) (0 : Int))]]))]
         (q120_2 n Post))))) →
    AWP Tryd.prog 81 n c120_7
      [(0, AV.int IntKind.i64 op), (1, AV.sl 2 (Seq.map T.encS ((0 : Int), (0 : Int)) a) Tip.none),
        (2, AV.sl 2 (Seq.map T.encS ((0 : Int), (0 : Int)) b) Tip.none), (7, AV.msl 2 0 0 k),
        (8, AV.sl 1 (Seq.map encI (0 : Int) l) Tip.none), (9, AV.int IntKind.i64 i)]
      [AObj.arr 2 (Seq.map T.encS ((0 : Int), (0 : Int)) o)] (q120_5 n Post) := fun op a b o k l i n Post h => Go.Ab.awp_sound g120 n _ _ _ _ (Go.Ab.kc (by kernel_rfl) h)
theorem v120_11n : ∀ (n : Nat) (Post : AV → List AObj → Prop), Post (AV.sl 0 (Seq.raw []) Tip.nil) [] → AWP Tryd.prog 81 n c120_11 [(7, AV.sl 0 (Seq.raw []) Tip.nil)] [] (q120_0 n Post) := fun n Post h => Go.Ab.awp_sound g120 n _ _ _ _ (Go.Ab.kc (by kernel_rfl) h)
theorem v120_11s : ∀ (o : List T.Span) (n : Nat) (Post : AV → List AObj → Prop),
  Post (AV.sl 2 (Seq.map T.encS ((0 : Int), (0 : Int)) o) Tip.none) [] →
    AWP Tryd.prog 81 n c120_11 [(7, AV.sl 2 (Seq.map T.encS ((0 : Int), (0 : Int)) o) Tip.none)] [] (q120_0 n Post) := fun o n Post h => Go.Ab.awp_sound g120 n _ _ _ _ (Go.Ab.kc (by kernel_rfl) h)

-- 68
noncomputable def l68 : Nat → List Nat
  | _ => []
noncomputable def u68 : Nat → Bool
  | _ => false
noncomputable def m68 : Nat → Bool
  | _ => false
noncomputable def g68 : Cfg := { N := 8, live := l68, cut := u68, mu := m68, ret := rets }
theorem s68 : ∀ (a b : List T.Span) (Post : AV → List AObj → Prop),
  (ASpec Tryd.prog 120 [AV.int IntKind.i64 (1 : Int), AV.sl 2 (Seq.map T.encS ((0 : Int), (0 : Int)) a) Tip.none, AV.sl 2 (Seq.map T.encS ((0 : Int), (0 : Int)) b) Tip.none] []
      fun (r : AV) (H' : List AObj) =>
      ∃ (x : List T.Span), r = AV.sl 2 (Seq.map T.encS ((0 : Int), (0 : Int)) x) Tip.none ∧ H' = [] ∧ Post (AV.sl 2 (Seq.map T.encS ((0 : Int), (0 : Int)) x) Tip.none) []) →
    ASpec Tryd.prog 68 [AV.sl 2 (Seq.map T.encS ((0 : Int), (0 : Int)) a) Tip.none, AV.sl 2 (Seq.map T.encS ((0 : Int), (0 : Int)) b) Tip.none] [] Post := fun a b Post h => Go.Ab.ASpec.of_vc g68 Go.Proofs.Tryd.func68 (by kernel_rfl) (by kernel_rfl) (by kernel_rfl) (Go.Ab.kc (by kernel_rfl) h)

-- 70
noncomputable def l70 : Nat → List Nat
  | _ => []
noncomputable def u70 : Nat → Bool
  | _ => false
noncomputable def m70 : Nat → Bool
  | _ => false
noncomputable def g70 : Cfg := { N := 10, live := l70, cut := u70, mu := m70, ret := rets }
theorem s70 : ∀ (a b : List T.Span) (Post : AV → List AObj → Prop),
  (ASpec Tryd.prog 68 [AV.sl 2 (Seq.map T.encS ((0 : Int), (0 : Int)) a) Tip.none, AV.sl 2 (Seq.map T.encS ((0 : Int), (0 : Int)) b) Tip.none] []
      fun (r : AV) (H' : List AObj) =>
      ∃ (x : List T.Span),
        r = AV.sl 2 (Seq.map T.encS ((0 : Int), (0 : Int)) x) Tip.none ∧
         H' = [] ∧
         ASpec Tryd.prog 61 [AV.sl 2 (Seq.map T.encS ((0 : Int), (0 : Int)) x) Tip.none, AV.sl 2 (Seq.map T.encS ((0 : Int), (0 : Int)) a) Tip.none] []
         fun (r : AV) (H' : List AObj) => ∃ (x : Bool), r = AV.bool x ∧ H' = [] ∧ Post (AV.bool x) []) →
    ASpec Tryd.prog 70 [AV.sl 2 (Seq.map T.encS ((0 : Int), (0 : Int)) a) Tip.none, AV.sl 2 (Seq.map T.encS ((0 : Int), (0 : Int)) b) Tip.none] [] Post := fun a b Post h => Go.Ab.ASpec.of_vc g70 Go.Proofs.Tryd.func70 (by kernel_rfl) (by kernel_rfl) (by kernel_rfl) (Go.Ab.kc (by kernel_rfl) h)

-- 67
noncomputable def l67 : Nat → List Nat
  | 2 => [0, 1, 5]
  | _ => []
noncomputable def u67 : Nat → Bool
  | _ => false
noncomputable def m67 : Nat → Bool
  | _ => false
noncomputable def g67 : Cfg := { N := 34, live := l67, cut := u67, mu := m67, ret := rets }
noncomputable def c67 : Go.Code := Go.Ab.bodyOf Go.Proofs.Tryd.f67
noncomputable def q67_0 : Nat → (AV → List AObj → Prop) → AQ := fun (n : Nat) (Post : AV → List AObj → Prop) => endQ Tryd.prog (resultsOf Tryd.f67) Post
noncomputable def q67_1 : Nat → (AV → List AObj → Prop) → AQ := fun (n : Nat) (Post : AV → List AObj → Prop) => seqQ (fun (s' : Slots) (H' : List AObj) => awp Tryd.prog g67 n (codeSnd (codeSnd c67)) s' H' (q67_0 n Post)) (q67_0 n Post)
noncomputable def q67_2 : Nat → (AV → List AObj → Prop) → AQ := fun (n : Nat) (Post : AV → List AObj → Prop) => blockQ 0 (q67_1 n Post)
noncomputable def c67_2 : Go.Code := codeFst (codeSnd (codeFst (codeSnd c67)))
theorem s67 : ∀ (l : List T.Span) (p : Int) (Post : AV → List AObj → Prop),
  AWP Tryd.prog 34 0 c67_2
      [(0, AV.sl 2 (Seq.map T.encS ((0 : Int), (0 : Int)) l) Tip.none), (1, AV.int IntKind.i64 p), (5, AV.int IntKind.i64 (0 : Int))] [] (q67_2 0 Post) →
    ASpec Tryd.prog 67 [AV.sl 2 (Seq.map T.encS ((0 : Int), (0 : Int)) l) Tip.none, AV.int IntKind.i64 p] [] Post := fun l p Post h => Go.Ab.ASpec.of_vc g67 Go.Proofs.Tryd.func67 (by kernel_rfl) (by kernel_rfl) (by kernel_rfl) (Go.Ab.kc (by kernel_rfl) h)
theorem v67_2 : ∀ (l : List T.Span) (p i : Int) (n : Nat) (Post : AV → List AObj → Prop),
  condP (decide (i < (↑(List.length l) : Int)))
      (needP ((0 : Int) ≤ i ∧ i < (↑(List.length l) : Int))
        (condP (decide (Prod.fst (List.getD l (Int.toNat i) ((0 : Int), (0 : Int))) ≤ p))
         (needP ((0 : Int) ≤ i ∧ i < (↑(List.length l) : Int))
         (condP (decide (p < Prod.snd (List.getD l (Int.toNat i) ((0 : Int), (0 : Int)))))
         (condP (decide (p ≥ (0 : Int))) (Post (AV.bool (decide (p < (1000000000 : Int)))) []) (Post (AV.bool false) []))
         (AWP Tryd.prog 34 n c67_2
         [(0, AV.sl 2 (Seq.map T.encS ((0 : Int), (0 : Int)) l) Tip.none), (1, AV.int IntKind.i64 p),
         (5, AV.int IntKind.i64 (IntKind.wrap IntKind.i64 (i + (1 : Int))))]
         [] (q67_2 n Post))))
         (AWP Tryd.prog 34 n c67_2
         [(0, AV.sl 2 (Seq.map T.encS ((0 : Int), (0 : Int)) l) Tip.none), (1, AV.int IntKind.i64 p),
         (5, AV.int IntKind.i64 (IntKind.wrap IntKind.i64 (i + (1 : Int))))]
         [] (q67_2 n Post))))
      (Post (AV.bool false) []) →
    AWP Tryd.prog 34 n c67_2 [(0, AV.sl 2 (Seq.map T.encS ((0 : Int), (0 : Int)) l) Tip.none), (1, AV.int IntKind.i64 p), (5, AV.int IntKind.i64 i)] []
      (q67_2 n Post) := fun l p i n Post h => Go.Ab.AWP.loop' g67 (Cfg.live g67) c67_2 (by kernel_rfl) (by kernel_rfl) (Go.Ab.kc (by kernel_rfl) h)

-- 145
noncomputable def l145 : Nat → List Nat
  | _ => []
noncomputable def u145 : Nat → Bool
  | _ => false
noncomputable def m145 : Nat → Bool
  | _ => false
noncomputable def g145 : Cfg := { N := 21, live := l145, cut := u145, mu := m145, ret := rets }
theorem s145 : ∀ (op : Int) (x y : Bool) (Post : AV → List AObj → Prop),
  condP (op == (0 : Int)) (condP x (Post (AV.bool true) []) (Post (AV.bool y) [])) (condP (op == (1 : Int)) (condP x (Post (AV.bool y) []) (Post (AV.bool false) [])) (Post (AV.bool !x) [])) →
    ASpec Tryd.prog 145 [AV.int IntKind.i64 op, AV.bool x, AV.bool y] [] Post := fun op x y Post h => Go.Ab.ASpec.of_vc g145 Go.Proofs.Tryd.func145 (by kernel_rfl) (by kernel_rfl) (by kernel_rfl) (Go.Ab.kc (by kernel_rfl) h)

-- 154
noncomputable def l154 : Nat → List Nat
  | 5 => [0, 1, 5, 6, 7]
  | 11 => [0, 1, 5, 6, 7]
  | 12 => [1, 5, 6]
  | _ => []
noncomputable def u154 : Nat → Bool
  | 11 => true
  | 12 => true
  | _ => false
noncomputable def m154 : Nat → Bool
  | _ => false
noncomputable def g154 : Cfg := { N := 51, live := l154, cut := u154, mu := m154, ret := rets }
noncomputable def c154 : Go.Code := Go.Ab.bodyOf Go.Proofs.Tryd.f154
noncomputable def q154_0 : Nat → (AV → List AObj → Prop) → AQ := fun (n : Nat) (Post : AV → List AObj → Prop) => endQ Tryd.prog (resultsOf Tryd.f154) Post
noncomputable def c154_12 : Go.Code := codeSnd (codeSnd (codeSnd (codeSnd (codeSnd c154))))
noncomputable def q154_1 : Nat → (AV → List AObj → Prop) → AQ := fun (n : Nat) (Post : AV → List AObj → Prop) => seqQ (fun (s' : Slots) (H' : List AObj) => AWP Tryd.prog (Cfg.N g154) n c154_12 (restrict s' (Cfg.live g154 12)) H' (q154_0 n Post)) (q154_0 n Post)
noncomputable def q154_2 : Nat → (AV → List AObj → Prop) → AQ := fun (n : Nat) (Post : AV → List AObj → Prop) => blockQ 0 (q154_1 n Post)
noncomputable def c154_5 : Go.Code := codeFst (codeSnd (codeFst (codeSnd (codeSnd (codeSnd (codeSnd c154))))))
theorem s154 : ∀ (l : List Int) (p : Int) (Post : AV → List AObj → Prop),
  AWP Tryd.prog 51 0 c154_5
      [(0, AV.sl 1 (Seq.map encI (0 : Int) l) Tip.none),
        (1, AV.int IntKind.i64 (if (1000000000 : Int) < if (0 : Int) > p then (0 : Int) else p then (1000000000 : Int) else if (0 : Int) > p then (0 : Int) else p)),
        (5, AV.sl 0 (Seq.raw []) Tip.nil), (6, AV.bool false), (7, AV.int IntKind.i64 (0 : Int))]
      [] (q154_2 0 Post) →
    ASpec Tryd.prog 154 [AV.sl 1 (Seq.map encI (0 : Int) l) Tip.none, AV.int IntKind.i64 p] [] Post := fun l p Post h => Go.Ab.ASpec.of_vc g154 Go.Proofs.Tryd.func154 (by kernel_rfl) (by kernel_rfl) (by kernel_rfl) (Go.Ab.kc (by kernel_rfl) h)
noncomputable def q154_3 : Nat → (AV → List AObj → Prop) → AQ := fun (n : Nat) (Post : AV → List AObj → Prop) => loopQ Tryd.prog 51 n c154_5 (q154_2 n Post) (Cfg.live g154)
noncomputable def q154_4 : Nat → (AV → List AObj → Prop) → AQ := fun (n : Nat) (Post : AV → List AObj → Prop) => seqQ (fun (s' : Slots) (H' : List AObj) => awp Tryd.prog g154 n (codeSnd (codeSnd (codeFst c154_5))) s' H' (q154_3 n Post)) (q154_3 n Post)
noncomputable def q154_5 : Nat → (AV → List AObj → Prop) → AQ := fun (n : Nat) (Post : AV → List AObj → Prop) => blockQ 1 (q154_4 n Post)
noncomputable def c154_11 : Go.Code := codeSnd (codeFst (codeFst (codeSnd (codeFst c154_5))))
theorem v154_5 : ∀ (l : List Int) (p : Int) (o : List Int) (z : Bool) (i : Int) (n : Nat) (Post : AV → List AObj → Prop),
  condP (decide (i < (↑(List.length l) : Int)))
      (condP (!z)
        (needP ((0 : Int) ≤ i ∧ i < (↑(List.length l) : Int))
         (condP (decide (p ≤ List.getD l (Int.toNat i) (0 : Int)))
         (needP ((List.length o + 1) * 8 ≤ 140737488351232)
         (needP ((0 : Int) ≤ i ∧ i < (↑(List.length l) : Int))
         (condP (p == List.getD l (Int.toNat i) (0 : Int))
         (AWP Tryd.prog 51 n c154_5
         [(0, AV.sl 1 (Seq.map encI (0 : Int) l) Tip.none), (1, AV.int IntKind.i64 p),
         (5, AV.sl 1 (Seq.app (Seq.map encI (0 : Int) o) (Seq.raw [[AV.int IntKind.i64 p]])) (Tip.tok 1)), (6, AV.bool true),
         (7, AV.int IntKind.i64 (IntKind.wrap IntKind.i64 (i + (1 : Int))))]
         [AObj.gone, AObj.tok] (q154_2 n Post))
         (AWP Tryd.prog 51 n c154_11
         [(0, AV.sl 1 (Seq.map encI (0 : Int) l) Tip.none), (1, AV.int IntKind.i64 p),
         (5, AV.sl 1 (Seq.app (Seq.map encI (0 : Int) o) (Seq.raw [[AV.int IntKind.i64 p]])) (Tip.tok 1)), (6, AV.bool true),
         (7, AV.int IntKind.i64 i)]
         [AObj.gone, AObj.tok] (q154_5 n Post)))))
         (AWP Tryd.prog 51 n c154_11
         [(0, AV.sl 1 (Seq.map encI (0 : Int) l) Tip.none), (1, AV.int IntKind.i64 p), (5, AV.sl 1 (Seq.map encI (0 : Int) o) (Tip.tok 0)),
         (6, AV.bool z), (7, AV.int IntKind.i64 i)]
         [AObj.tok] (q154_5 n Post))))
        (AWP Tryd.prog 51 n c154_11
         [(0, AV.sl 1 (Seq.map encI (0 : Int) l) Tip.none), (1, AV.int IntKind.i64 p), (5, AV.sl 1 (Seq.map encI (0 : Int) o) (Tip.tok 0)),
         (6, AV.bool z), (7, AV.int IntKind.i64 i)]
         [AObj.tok] (q154_5 n Post)))
      (AWP Tryd.prog 51 n c154_12 [(1, AV.int IntKind.i64 p), (5, AV.sl 1 (Seq.map encI (0 : Int) o) (Tip.tok 0)), (6, AV.bool z)] [AObj.tok]
        (q154_0 n Post)) →
    AWP Tryd.prog 51 n c154_5
      [(0, AV.sl 1 (Seq.map encI (0 : Int) l) Tip.none), (1, AV.int IntKind.i64 p), (5, AV.sl 1 (Seq.map encI (0 : Int) o) (Tip.tok 0)),
        (6, AV.bool z), (7, AV.int IntKind.i64 i)]
      [AObj.tok] (q154_2 n Post) := fun l p o z i n Post h => Go.Ab.AWP.loop' g154 (Cfg.live g154) c154_5 (by kernel_rfl) (by kernel_rfl) (Go.Ab.kc (by kernel_rfl) h)
theorem v154_11 : ∀ (l : List Int) (p : Int) (o : List Int) (z : Bool) (i : Int) (n : Nat) (Post : AV → List AObj → Prop),
  needP ((0 : Int) ≤ i ∧ i < (↑(List.length l) : Int))
      (needP ((List.length o + 1) * 8 ≤ 140737488351232)
        (AWP Tryd.prog 51 n c154_5
         [(0, AV.sl 1 (Seq.map encI (0 : Int) l) Tip.none), (1, AV.int IntKind.i64 p),
         (5, AV.sl 1 (Seq.app (Seq.map encI (0 : Int) o) (Seq.raw [[AV.int IntKind.i64 (List.getD l (Int.toNat i) (0 : Int))]])) (Tip.tok 1)), (6, AV.bool z),
         (7, AV.int IntKind.i64 (IntKind.wrap IntKind.i64 (i + (1 : Int))))]
         [AObj.gone, AObj.tok] (q154_2 n Post))) →
    AWP Tryd.prog 51 n c154_11
      [(0, AV.sl 1 (Seq.map encI (0 : Int) l) Tip.none), (1, AV.int IntKind.i64 p), (5, AV.sl 1 (Seq.map encI (0 : Int) o) (Tip.tok 0)),
        (6, AV.bool z), (7, AV.int IntKind.i64 i)]
      [AObj.tok] (q154_5 n Post) := fun l p o z i n Post h => Go.Ab.awp_sound g154 n _ _ _ _ (Go.Ab.kc (by kernel_rfl) h)
theorem v154_12 : ∀ (p : Int) (o : List Int) (z : Bool) (n : Nat) (Post : AV → List AObj → Prop),
  condP (!z)
      (needP ((List.length o + 1) * 8 ≤ 140737488351232)
        (Post (AV.sl 1 (Seq.app (Seq.map encI (0 : Int) o) (Seq.raw [[AV.int IntKind.i64 p]])) (Tip.tok 1)) [AObj.gone, AObj.tok]))
      (Post (AV.sl 1 (Seq.map encI (0 : Int) o) (Tip.tok 0)) [AObj.tok]) →
    AWP Tryd.prog 51 n c154_12 [(1, AV.int IntKind.i64 p), (5, AV.sl 1 (Seq.map encI (0 : Int) o) (Tip.tok 0)), (6, AV.bool z)] [AObj.tok]
      (q154_0 n Post) := fun p o z n Post h => Go.Ab.awp_sound g154 n _ _ _ _ (Go.Ab.kc (by kernel_rfl) h)

-- 144
noncomputable def l144 : Nat → List Nat
  | 3 => [0, 1, 5, 6]
  | 6 => [1, 5]
  | 7 => [1, 5, 7]
  | _ => []
noncomputable def u144 : Nat → Bool
  | 6 => true
  | _ => false
noncomputable def m144 : Nat → Bool
  | _ => false
noncomputable def g144 : Cfg := { N := 48, live := l144, cut := u144, mu := m144, ret := rets }
noncomputable def c144 : Go.Code := Go.Ab.bodyOf Go.Proofs.Tryd.f144
noncomputable def q144_0 : Nat → (AV → List AObj → Prop) → AQ := fun (n : Nat) (Post : AV → List AObj → Prop) => endQ Tryd.prog (resultsOf Tryd.f144) Post
noncomputable def c144_6 : Go.Code := codeSnd (codeSnd (codeSnd c144))
noncomputable def q144_1 : Nat → (AV → List AObj → Prop) → AQ := fun (n : Nat) (Post : AV → List AObj → Prop) => seqQ (fun (s' : Slots) (H' : List AObj) => AWP Tryd.prog (Cfg.N g144) n c144_6 (restrict s' (Cfg.live g144 6)) H' (q144_0 n Post)) (q144_0 n Post)
noncomputable def q144_2 : Nat → (AV → List AObj → Prop) → AQ := fun (n : Nat) (Post : AV → List AObj → Prop) => blockQ 0 (q144_1 n Post)
noncomputable def c144_3 : Go.Code := codeFst (codeSnd (codeFst (codeSnd (codeSnd c144))))
theorem s144 : ∀ (a b : List T.Span) (Post : AV → List AObj → Prop),
  AWP Tryd.prog 48 0 c144_3
      [(0, AV.sl 2 (Seq.map T.encS ((0 : Int), (0 : Int)) a) Tip.none), (1, AV.sl 2 (Seq.map T.encS ((0 : Int), (0 : Int)) b) Tip.none),
        (5, AV.sl 1 (Seq.raw [[AV.int IntKind.i64 (0 : Int)], [AV.int IntKind.i64 (1000000000 : Int)]]) Tip.full), (6, AV.int IntKind.i64 (0 : Int))]
      [] (q144_2 0 Post) →
    ASpec Tryd.prog 144 [AV.sl 2 (Seq.map T.encS ((0 : Int), (0 : Int)) a) Tip.none, AV.sl 2 (Seq.map T.encS ((0 : Int), (0 : Int)) b) Tip.none] [] Post := fun a b Post h => Go.Ab.ASpec.of_vc g144 Go.Proofs.Tryd.func144 (by kernel_rfl) (by kernel_rfl) (by kernel_rfl) (Go.Ab.kc (by kernel_rfl) h)
theorem v144_3 : ∀ (a b : List T.Span) (l : List Int) (i : Int) (n : Nat) (Post : AV → List AObj → Prop),
  condP (decide (i < (↑(List.length a) : Int)))
      (needP ((0 : Int) ≤ i ∧ i < (↑(List.length a) : Int))
        (needP ((0 : Int) ≤ i ∧ i < (↑(List.length a) : Int))
         (ASpec Tryd.prog 154 [AV.sl 1 (Seq.map encI (0 : Int) l) Tip.none, AV.int IntKind.i64 (Prod.fst (List.getD a (Int.toNat i) ((0 : Int), (0 : Int))))] []
         fun (r : AV) (H' : List AObj) =>
         ∃ (x : List Int),
         r = AV.sl 1 (Seq.map encI (0 : Int) x) Tip.none ∧
         H' = [] ∧
         (AV.int IntKind.i64 (Prod.snd (List.getD a (Int.toNat i) ((0 : Int), (0 : Int)))) = AV.int IntKind.i64 (Prod.snd (List.getD a (Int.toNat i) ((0 : Int), (0 : Int)))) ∧ ([] : List AObj) = []) ∧
         ASpec Tryd.prog 154 [AV.sl 1 (Seq.map encI (0 : Int) x) Tip.none, AV.int IntKind.i64 (Prod.snd (List.getD a (Int.toNat i) ((0 : Int), (0 : Int))))] []
         fun (r : AV) (H' : List AObj) =>
         ∃ (x : List Int),
         r = AV.sl 1 (Seq.map encI (0 : Int) x) Tip.none ∧
         H' = [] ∧
         AWP Tryd.prog 48 n c144_3
         [(0, AV.sl 2 (Seq.map T.encS ((0 : Int), (0 : Int)) a) Tip.none), (1, AV.sl 2 (Seq.map T.encS ((0 : Int), (0 : Int)) b) Tip.none),
         (5, AV.sl 1 (Seq.map encI (0 : Int) x) Tip.none), (6, AV.int IntKind.i64 (IntKind.wrap IntKind.i64 (i + (1 : Int))))]
         [] (q144_2 n Post))))
      (AWP Tryd.prog 48 n c144_6 [(1, AV.sl 2 (Seq.map T.encS ((0 : Int), (0 : Int)) b) Tip.none), (5, AV.sl 1 (Seq.map encI (0 : Int) l) Tip.none)] []
        (q144_0 n Post)) →
    AWP Tryd.prog 48 n c144_3
      [(0, AV.sl 2 (Seq.map T.encS ((0 : Int), (0 : Int)) a) Tip.none), (1, AV.sl 2 (Seq.map T.encS ((0 : Int), (0 : Int)) b) Tip.none),
        (5, AV.sl 1 (Seq.map encI (0 : Int) l) Tip.none), (6, AV.int IntKind.i64 i)]
      [] (q144_2 n Post) := fun a b l i n Post h => Go.Ab.AWP.loop' g144 (Cfg.live g144) c144_3 (by kernel_rfl) (by kernel_rfl) (Go.Ab.kc (by kernel_rfl) h)
noncomputable def q144_3 : Nat → (AV → List AObj → Prop) → AQ := fun (n : Nat) (Post : AV → List AObj → Prop) => seqQ (fun (s' : Slots) (H' : List AObj) => awp Tryd.prog g144 n (codeSnd c144_6) s' H' (q144_0 n Post)) (q144_0 n Post)
noncomputable def q144_4 : Nat → (AV → List AObj → Prop) → AQ := fun (n : Nat) (Post : AV → List AObj → Prop) => blockQ 2 (q144_3 n Post)
noncomputable def c144_7 : Go.Code := codeFst (codeSnd (codeFst c144_6))
theorem v144_6 : ∀ (b : List T.Span) (l : List Int) (n : Nat) (Post : AV → List AObj → Prop),
  AWP Tryd.prog 48 n c144_7
      [(1, AV.sl 2 (Seq.map T.encS ((0 : Int), (0 : Int)) b) Tip.none), (5, AV.sl 1 (Seq.map encI (0 : Int) l) Tip.none), (7, AV.int IntKind.i64 (0 : Int))] []
      (q144_4 n Post) →
    AWP Tryd.prog 48 n c144_6 [(1, AV.sl 2 (Seq.map T.encS ((0 : Int), (0 : Int)) b) Tip.none), (5, AV.sl 1 (Seq.map encI (0 : Int) l) Tip.none)] []
      (q144_0 n Post) := fun b l n Post h => Go.Ab.awp_sound g144 n _ _ _ _ (Go.Ab.kc (by kernel_rfl) h)
theorem v144_7 : ∀ (b : List T.Span) (l : List Int) (i : Int) (n : Nat) (Post : AV → List AObj → Prop),
  condP (decide (i < (↑(List.length b) : Int)))
      (needP ((0 : Int) ≤ i ∧ i < (↑(List.length b) : Int))
        (needP ((0 : Int) ≤ i ∧ i < (↑(List.length b) : Int))
         (ASpec Tryd.prog 154 [AV.sl 1 (Seq.map encI (0 : Int) l) Tip.none, AV.int IntKind.i64 (Prod.fst (List.getD b (Int.toNat i) ((0 : Int), (0 : Int))))] []
         fun (r : AV) (H' : List AObj) =>
         ∃ (x : List Int),
         r = AV.sl 1 (Seq.map encI (0 : Int) x) Tip.none ∧
         H' = [] ∧
         (AV.int IntKind.i64 (Prod.snd (List.getD b (Int.toNat i) ((0 : Int), (0 : Int)))) = AV.int IntKind.i64 (Prod.snd (List.getD b (Int.toNat i) ((0 : Int), (0 : Int)))) ∧ ([] : List AObj) = []) ∧
         ASpec Tryd.prog 154 [AV.sl 1 (Seq.map encI (0 : Int) x) Tip.none, AV.int IntKind.i64 (Prod.snd (List.getD b (Int.toNat i) ((0 : Int), (0 : Int))))] []
         fun (r : AV) (H' : List AObj) =>
         ∃ (x : List Int),
         r = AV.sl 1 (Seq.map encI (0 : Int) x) Tip.none ∧
         H' = [] ∧
         AWP Tryd.prog 48 n c144_7
         [(1, AV.sl 2 (Seq.map T.encS ((0 : Int), (0 : Int)) b) Tip.none), (5, AV.sl 1 (Seq.map encI (0 : Int) x) Tip.none),
         (7, AV.int IntKind.i64 (IntKind.wrap IntKind.i64 (i + (1 : Int))))]
         [] (q144_4 n Post))))
      (Post (AV.sl 1 (Seq.map encI (0 : Int) l) Tip.none) []) →
    AWP Tryd.prog 48 n c144_7
      [(1, AV.sl 2 (Seq.map T.encS ((0 : Int), (0 : Int)) b) Tip.none), (5, AV.sl 1 (Seq.map encI (0 : Int) l) Tip.none), (7, AV.int IntKind.i64 i)] []
      (q144_4 n Post) := fun b l i n Post h => Go.Ab.AWP.loop' g144 (Cfg.live g144) c144_7 (by kernel_rfl) (by kernel_rfl) (Go.Ab.kc (by kernel_rfl) h)

-- 53
noncomputable def l17 : Nat → List Nat
  | _ => []
noncomputable def u17 : Nat → Bool
  | _ => false
noncomputable def m17 : Nat → Bool
  | _ => false
noncomputable def g17 : Cfg := { N := 26, live := l17, cut := u17, mu := m17, ret := rets }
theorem s17 : ∀ (a b : T.Term) (Post : AV → List AObj → Prop),
  condP (ByteArray.toList { data := List.toArray (Prod.fst a) } == ByteArray.toList { data := List.toArray (Prod.fst b) })
      (condP (!Prod.snd (Prod.snd a))
        (ASpec Tryd.prog 58
         [AV.sl 2 (Seq.map T.encS ((0 : Int), (0 : Int)) (Prod.fst (Prod.snd a))) Tip.none, AV.sl 2 (Seq.map T.encS ((0 : Int), (0 : Int)) (Prod.fst (Prod.snd b))) Tip.none]
         [AObj.cells [AV.str { data := List.toArray (Prod.fst a) }, AV.sl 2 (Seq.map T.encS ((0 : Int), (0 : Int)) (Prod.fst (Prod.snd a))) Tip.none, AV.bool (Prod.snd (Prod.snd a))],
         AObj.cells [AV.str { data := List.toArray (Prod.fst b) }, AV.sl 2 (Seq.map T.encS ((0 : Int), (0 : Int)) (Prod.fst (Prod.snd b))) Tip.none, AV.bool (Prod.snd (Prod.snd b))]]
         fun (r : AV) (H' : List AObj) =>
         ∃ (x : Bool),
         r = AV.bool x ∧
         H' =
         [AObj.cells [AV.str { data := List.toArray (Prod.fst a) }, AV.sl 2 (Seq.map T.encS ((0 : Int), (0 : Int)) (Prod.fst (Prod.snd a))) Tip.none, AV.bool (Prod.snd (Prod.snd a))],
         AObj.cells
         [AV.str { data := List.toArray (Prod.fst b) }, AV.sl 2 (Seq.map T.encS ((0 : Int), (0 : Int)) (Prod.fst (Prod.snd b))) Tip.none, AV.bool (Prod.snd (Prod.snd b))]] ∧
         Post (AV.bool x)
         [AObj.cells [AV.str { data := List.toArray (Prod.fst a) }, AV.sl 2 (Seq.map T.encS ((0 : Int), (0 : Int)) (Prod.fst (Prod.snd a))) Tip.none, AV.bool (Prod.snd (Prod.snd a))],
         AObj.cells
         [AV.str { data := List.toArray (Prod.fst b) }, AV.sl 2 (Seq.map T.encS ((0 : Int), (0 : Int)) (Prod.fst (Prod.snd b))) Tip.none, AV.bool (Prod.snd (Prod.snd b))]])
        (condP (Prod.snd (Prod.snd b))
         (ASpec Tryd.prog 58
         [AV.sl 2 (Seq.map T.encS ((0 : Int), (0 : Int)) (Prod.fst (Prod.snd a))) Tip.none, AV.sl 2 (Seq.map T.encS ((0 : Int), (0 : Int)) (Prod.fst (Prod.snd b))) Tip.none]
         [AObj.cells [AV.str { data := List.toArray (Prod.fst a) }, AV.sl 2 (Seq.map T.encS ((0 : Int), (0 : Int)) (Prod.fst (Prod.snd a))) Tip.none, AV.bool (Prod.snd (Prod.snd a))],
         AObj.cells [AV.str { data := List.toArray (Prod.fst b) }, AV.sl 2 (Seq.map T.encS ((0 : Int), (0 : Int)) (Prod.fst (Prod.snd b))) Tip.none, AV.bool (Prod.snd (Prod.snd b))]]
         fun (r : AV) (H' : List AObj) =>
         ∃ (x : Bool),
         r = AV.bool x ∧
         H' =
         [AObj.cells
         [AV.str { data := List.toArray (Prod.fst a) }, AV.sl 2 (Seq.map T.encS ((0 : Int), (0 : Int)) (Prod.fst (Prod.snd a))) Tip.none, AV.bool (Prod.snd (Prod.snd a))],
         AObj.cells
         [AV.str { data := List.toArray (Prod.fst b) }, AV.sl 2 (Seq.map T.encS ((0 : Int), (0 : Int)) (Prod.fst (Prod.snd b))) Tip.none, AV.bool (Prod.snd (Prod.snd b))]] ∧
         Post (AV.bool x)
         [AObj.cells
         [AV.str { data := List.toArray (Prod.fst a) }, AV.sl 2 (Seq.map T.encS ((0 : Int), (0 : Int)) (Prod.fst (Prod.snd a))) Tip.none, AV.bool (Prod.snd (Prod.snd a))],
         AObj.cells
         [AV.str { data := List.toArray (Prod.fst b) }, AV.sl 2 (Seq.map T.encS ((0 : Int), (0 : Int)) (Prod.fst (Prod.snd b))) Tip.none, AV.bool (Prod.snd (Prod.snd b))]])
         (Post (AV.bool false)
         [AObj.cells [AV.str { data := List.toArray (Prod.fst a) }, AV.sl 2 (Seq.map T.encS ((0 : Int), (0 : Int)) (Prod.fst (Prod.snd a))) Tip.none, AV.bool (Prod.snd (Prod.snd a))],
         AObj.cells [AV.str { data := List.toArray (Prod.fst b) }, AV.sl 2 (Seq.map T.encS ((0 : Int), (0 : Int)) (Prod.fst (Prod.snd b))) Tip.none, AV.bool (Prod.snd (Prod.snd b))]])))
      (Post (AV.bool false)
        [AObj.cells [AV.str { data := List.toArray (Prod.fst a) }, AV.sl 2 (Seq.map T.encS ((0 : Int), (0 : Int)) (Prod.fst (Prod.snd a))) Tip.none, AV.bool (Prod.snd (Prod.snd a))],
         AObj.cells [AV.str { data := List.toArray (Prod.fst b) }, AV.sl 2 (Seq.map T.encS ((0 : Int), (0 : Int)) (Prod.fst (Prod.snd b))) Tip.none, AV.bool (Prod.snd (Prod.snd b))]]) →
    ASpec Tryd.prog 17 [AV.agg (T.encT a), AV.agg (T.encT b)] [] Post := fun a b Post h => Go.Ab.ASpec.of_vc g17 Go.Proofs.Tryd.func17 (by kernel_rfl) (by kernel_rfl) (by kernel_rfl) (Go.Ab.kc (by kernel_rfl) h)

-- 25
noncomputable def l25 : Nat → List Nat
  | _ => []
noncomputable def u25 : Nat → Bool
  | _ => false
noncomputable def m25 : Nat → Bool
  | _ => false
noncomputable def g25 : Cfg := { N := 15, live := l25, cut := u25, mu := m25, ret := rets }
theorem s25 : ∀ (a : T.Term) (v : Int) (c : Bool) (Post : AV → List AObj → Prop),
  condP (!c)
      (Post (AV.bool (Prod.snd (Prod.snd a)))
        [AObj.cells [AV.str { data := List.toArray (Prod.fst a) }, AV.sl 2 (Seq.map T.encS ((0 : Int), (0 : Int)) (Prod.fst (Prod.snd a))) Tip.none, AV.bool (Prod.snd (Prod.snd a))]])
      (ASpec Tryd.prog 66 [AV.sl 2 (Seq.map T.encS ((0 : Int), (0 : Int)) (Prod.fst (Prod.snd a))) Tip.none, AV.int IntKind.i64 v]
        [AObj.cells [AV.str { data := List.toArray (Prod.fst a) }, AV.sl 2 (Seq.map T.encS ((0 : Int), (0 : Int)) (Prod.fst (Prod.snd a))) Tip.none, AV.bool (Prod.snd (Prod.snd a))]]
        fun (r : AV) (H' : List AObj) =>
        ∃ (x : Bool),
         r = AV.bool x ∧
         H' =
         [AObj.cells [AV.str { data := List.toArray (Prod.fst a) }, AV.sl 2 (Seq.map T.encS ((0 : Int), (0 : Int)) (Prod.fst (Prod.snd a))) Tip.none, AV.bool (Prod.snd (Prod.snd a))]] ∧
         Post (AV.bool x)
         [AObj.cells
         [AV.str { data := List.toArray (Prod.fst a) }, AV.sl 2 (Seq.map T.encS ((0 : Int), (0 : Int)) (Prod.fst (Prod.snd a))) Tip.none, AV.bool (Prod.snd (Prod.snd a))]]) →
    ASpec Tryd.prog 25 [AV.agg (T.encT a), AV.int IntKind.i64 v, AV.bool c] [] Post := fun a v c Post h => Go.Ab.ASpec.of_vc g25 Go.Proofs.Tryd.func25 (by kernel_rfl) (by kernel_rfl) (by kernel_rfl) (Go.Ab.kc (by kernel_rfl) h)

-- 12
noncomputable def l12 : Nat → List Nat
  | _ => []
noncomputable def u12 : Nat → Bool
  | _ => false
noncomputable def m12 : Nat → Bool
  | _ => false
noncomputable def g12 : Cfg := { N := 12, live := l12, cut := u12, mu := m12, ret := rets }
theorem s12 : ∀ (a : T.Term) (Post : AV → List AObj → Prop),
  condP (!Prod.snd (Prod.snd a))
      (Post (AV.bool ((↑(List.length (Prod.fst (Prod.snd a))) : Int) == (0 : Int)))
        [AObj.cells [AV.str { data := List.toArray (Prod.fst a) }, AV.sl 2 (Seq.map T.encS ((0 : Int), (0 : Int)) (Prod.fst (Prod.snd a))) Tip.none, AV.bool (Prod.snd (Prod.snd a))]])
      (Post (AV.bool false)
        [AObj.cells [AV.str { data := List.toArray (Prod.fst a) }, AV.sl 2 (Seq.map T.encS ((0 : Int), (0 : Int)) (Prod.fst (Prod.snd a))) Tip.none, AV.bool (Prod.snd (Prod.snd a))]]) →
    ASpec Tryd.prog 12 [AV.agg (T.encT a)] [] Post := fun a Post h => Go.Ab.ASpec.of_vc g12 Go.Proofs.Tryd.func12 (by kernel_rfl) (by kernel_rfl) (by kernel_rfl) (Go.Ab.kc (by kernel_rfl) h)

-- 9
noncomputable def l9 : Nat → List Nat
  | _ => []
noncomputable def u9 : Nat → Bool
  | _ => false
noncomputable def m9 : Nat → Bool
  | _ => false
noncomputable def g9 : Cfg := { N := 11, live := l9, cut := u9, mu := m9, ret := rets }
theorem s9 : ∀ (a : T.Term) (Post : AV → List AObj → Prop),
  (ASpec Tryd.prog 50 [AV.str { data := List.toArray (Prod.fst a) }]
      [AObj.cells [AV.str { data := List.toArray (Prod.fst a) }, AV.sl 2 (Seq.map T.encS ((0 : Int), (0 : Int)) (Prod.fst (Prod.snd a))) Tip.none, AV.bool (Prod.snd (Prod.snd a))]]
      fun (r : AV) (H' : List AObj) =>
      ∃ (x : Bool),
        r = AV.bool x ∧
         H' = [AObj.cells [AV.str { data := List.toArray (Prod.fst a) }, AV.sl 2 (Seq.map T.encS ((0 : Int), (0 : Int)) (Prod.fst (Prod.snd a))) Tip.none, AV.bool (Prod.snd (Prod.snd a))]] ∧
         condP x
         (ASpec Tryd.prog 51 [AV.sl 2 (Seq.map T.encS ((0 : Int), (0 : Int)) (Prod.fst (Prod.snd a))) Tip.none]
         [AObj.cells [AV.str { data := List.toArray (Prod.fst a) }, AV.sl 2 (Seq.map T.encS ((0 : Int), (0 : Int)) (Prod.fst (Prod.snd a))) Tip.none, AV.bool (Prod.snd (Prod.snd a))]]
         fun (r : AV) (H' : List AObj) =>
         ∃ (x : Bool),
         r = AV.bool x ∧
         H' =
         [AObj.cells
         [AV.str { data := List.toArray (Prod.fst a) }, AV.sl 2 (Seq.map T.encS ((0 : Int), (0 : Int)) (Prod.fst (Prod.snd a))) Tip.none, AV.bool (Prod.snd (Prod.snd a))]] ∧
         Post (AV.bool x)
         [AObj.cells
         [AV.str { data := List.toArray (Prod.fst a) }, AV.sl 2 (Seq.map T.encS ((0 : Int), (0 : Int)) (Prod.fst (Prod.snd a))) Tip.none, AV.bool (Prod.snd (Prod.snd a))]])
         (Post (AV.bool false)
         [AObj.cells
         [AV.str { data := List.toArray (Prod.fst a) }, AV.sl 2 (Seq.map T.encS ((0 : Int), (0 : Int)) (Prod.fst (Prod.snd a))) Tip.none, AV.bool (Prod.snd (Prod.snd a))]])) →
    ASpec Tryd.prog 9 [AV.agg (T.encT a)] [] Post := fun a Post h => Go.Ab.ASpec.of_vc g9 Go.Proofs.Tryd.func9 (by kernel_rfl) (by kernel_rfl) (by kernel_rfl) (Go.Ab.kc (by kernel_rfl) h)

-- 29
noncomputable def l29 : Nat → List Nat
  | _ => []
noncomputable def u29 : Nat → Bool
  | _ => false
noncomputable def m29 : Nat → Bool
  | _ => false
noncomputable def g29 : Cfg := { N := 26, live := l29, cut := u29, mu := m29, ret := rets }
theorem s29 : ∀ (a b : T.Term) (Post : AV → List AObj → Prop),
  condP (ByteArray.toList { data := List.toArray (Prod.fst a) } == ByteArray.toList { data := List.toArray (Prod.fst b) })
      (ASpec Tryd.prog 70
        [AV.sl 2 (Seq.map T.encS ((0 : Int), (0 : Int)) (Prod.fst (Prod.snd a))) Tip.none, AV.sl 2 (Seq.map T.encS ((0 : Int), (0 : Int)) (Prod.fst (Prod.snd b))) Tip.none]
        [AObj.cells [AV.str { data := List.toArray (Prod.fst a) }, AV.sl 2 (Seq.map T.encS ((0 : Int), (0 : Int)) (Prod.fst (Prod.snd a))) Tip.none, AV.bool (Prod.snd (Prod.snd a))],
         AObj.cells [AV.str { data := List.toArray (Prod.fst b) }, AV.sl 2 (Seq.map T.encS ((0 : Int), (0 : Int)) (Prod.fst (Prod.snd b))) Tip.none, AV.bool (Prod.snd (Prod.snd b))]]
        fun (r : AV) (H' : List AObj) =>
        ∃ (x : Bool),
         r = AV.bool x ∧
         H' =
         [AObj.cells [AV.str { data := List.toArray (Prod.fst a) }, AV.sl 2 (Seq.map T.encS ((0 : Int), (0 : Int)) (Prod.fst (Prod.snd a))) Tip.none, AV.bool (Prod.snd (Prod.snd a))],
         AObj.cells
         [AV.str { data := List.toArray (Prod.fst b) }, AV.sl 2 (Seq.map T.encS ((0 : Int), (0 : Int)) (Prod.fst (Prod.snd b))) Tip.none, AV.bool (Prod.snd (Prod.snd b))]] ∧
         condP x
         (condP (Prod.snd (Prod.snd b))
         (Post (AV.bool true)
         [AObj.cells
         [AV.str { data := List.toArray (Prod.fst a) }, AV.sl 2 (Seq.map T.encS ((0 : Int), (0 : Int)) (Prod.fst (Prod.snd a))) Tip.none, AV.bool (Prod.snd (Prod.snd a))],
         AObj.cells
         [AV.str { data := List.toArray (Prod.fst b) }, AV.sl 2 (Seq.map T.encS ((0 : Int), (0 : Int)) (Prod.fst (Prod.snd b))) Tip.none, AV.bool (Prod.snd (Prod.snd b))]])
         (Post (AV.bool !Prod.snd (Prod.snd a))
         [AObj.cells
         [AV.str { data := List.toArray (Prod.fst a) }, AV.sl 2 (Seq.map T.encS ((0 : Int), (0 : Int)) (Prod.fst (Prod.snd a))) Tip.none, AV.bool (Prod.snd (Prod.snd a))],
         AObj.cells
         [AV.str { data := List.toArray (Prod.fst b) }, AV.sl 2 (Seq.map T.encS ((0 : Int), (0 : Int)) (Prod.fst (Prod.snd b))) Tip.none, AV.bool (Prod.snd (Prod.snd b))]]))
         (Post (AV.bool false)
         [AObj.cells [AV.str { data := List.toArray (Prod.fst a) }, AV.sl 2 (Seq.map T.encS ((0 : Int), (0 : Int)) (Prod.fst (Prod.snd a))) Tip.none, AV.bool (Prod.snd (Prod.snd a))],
         AObj.cells
         [AV.str { data := List.toArray (Prod.fst b) }, AV.sl 2 (Seq.map T.encS ((0 : Int), (0 : Int)) (Prod.fst (Prod.snd b))) Tip.none, AV.bool (Prod.snd (Prod.snd b))]]))
      (Post (AV.bool false)
        [AObj.cells [AV.str { data := List.toArray (Prod.fst a) }, AV.sl 2 (Seq.map T.encS ((0 : Int), (0 : Int)) (Prod.fst (Prod.snd a))) Tip.none, AV.bool (Prod.snd (Prod.snd a))],
         AObj.cells [AV.str { data := List.toArray (Prod.fst b) }, AV.sl 2 (Seq.map T.encS ((0 : Int), (0 : Int)) (Prod.fst (Prod.snd b))) Tip.none, AV.bool (Prod.snd (Prod.snd b))]]) →
    ASpec Tryd.prog 29 [AV.agg (T.encT a), AV.agg (T.encT b)] [] Post := fun a b Post h => Go.Ab.ASpec.of_vc g29 Go.Proofs.Tryd.func29 (by kernel_rfl) (by kernel_rfl) (by kernel_rfl) (Go.Ab.kc (by kernel_rfl) h)

-- 23
noncomputable def l23 : Nat → List Nat
  | _ => []
noncomputable def u23 : Nat → Bool
  | _ => false
noncomputable def m23 : Nat → Bool
  | _ => false
noncomputable def g23 : Cfg := { N := 12, live := l23, cut := u23, mu := m23, ret := rets }
theorem s23 : ∀ (a : T.Term) (Post : AV → List AObj → Prop),
  condP (!Prod.snd (Prod.snd a))
      (Post (AV.bool ((↑(List.length (Prod.fst (Prod.snd a))) : Int) == (0 : Int)))
        [AObj.cells [AV.str { data := List.toArray (Prod.fst a) }, AV.sl 2 (Seq.map T.encS ((0 : Int), (0 : Int)) (Prod.fst (Prod.snd a))) Tip.none, AV.bool (Prod.snd (Prod.snd a))]])
      (Post (AV.bool false)
        [AObj.cells [AV.str { data := List.toArray (Prod.fst a) }, AV.sl 2 (Seq.map T.encS ((0 : Int), (0 : Int)) (Prod.fst (Prod.snd a))) Tip.none, AV.bool (Prod.snd (Prod.snd a))]]) →
    ASpec Tryd.prog 23 [AV.agg (T.encT a)] [] Post := fun a Post h => Go.Ab.ASpec.of_vc g23 Go.Proofs.Tryd.func23 (by kernel_rfl) (by kernel_rfl) (by kernel_rfl) (Go.Ab.kc (by kernel_rfl) h)

-- 19
noncomputable def l19 : Nat → List Nat
  | _ => []
noncomputable def u19 : Nat → Bool
  | _ => false
noncomputable def m19 : Nat → Bool
  | _ => false
noncomputable def g19 : Cfg := { N := 24, live := l19, cut := u19, mu := m19, ret := rets }
theorem s19 : ∀ (a b : T.Term) (Post : AV → List AObj → Prop),
  condP (ByteArray.toList { data := List.toArray (Prod.fst a) } == ByteArray.toList { data := List.toArray (Prod.fst b) })
      (condP (Prod.snd (Prod.snd a) == Prod.snd (Prod.snd b))
        (ASpec Tryd.prog 61
         [AV.sl 2 (Seq.map T.encS ((0 : Int), (0 : Int)) (Prod.fst (Prod.snd a))) Tip.none, AV.sl 2 (Seq.map T.encS ((0 : Int), (0 : Int)) (Prod.fst (Prod.snd b))) Tip.none]
         [AObj.cells [AV.str { data := List.toArray (Prod.fst a) }, AV.sl 2 (Seq.map T.encS ((0 : Int), (0 : Int)) (Prod.fst (Prod.snd a))) Tip.none, AV.bool (Prod.snd (Prod.snd a))],
         AObj.cells [AV.str { data := List.toArray (Prod.fst b) }, AV.sl 2 (Seq.map T.encS ((0 : Int), (0 : Int)) (Prod.fst (Prod.snd b))) Tip.none, AV.bool (Prod.snd (Prod.snd b))]]
         fun (r : AV) (H' : List AObj) =>
         ∃ (x : Bool),
         r = AV.bool x ∧
         H' =
         [AObj.cells [AV.str { data := List.toArray (Prod.fst a) }, AV.sl 2 (Seq.map T.encS ((0 : Int), (0 : Int)) (Prod.fst (Prod.snd a))) Tip.none, AV.bool (Prod.snd (Prod.snd a))],
         AObj.cells
         [AV.str { data := List.toArray (Prod.fst b) }, AV.sl 2 (Seq.map T.encS ((0 : Int), (0 : Int)) (Prod.fst (Prod.snd b))) Tip.none, AV.bool (Prod.snd (Prod.snd b))]] ∧
         Post (AV.bool x)
         [AObj.cells [AV.str { data := List.toArray (Prod.fst a) }, AV.sl 2 (Seq.map T.encS ((0 : Int), (0 : Int)) (Prod.fst (Prod.snd a))) Tip.none, AV.bool (Prod.snd (Prod.snd a))],
         AObj.cells
         [AV.str { data := List.toArray (Prod.fst b) }, AV.sl 2 (Seq.map T.encS ((0 : Int), (0 : Int)) (Prod.fst (Prod.snd b))) Tip.none, AV.bool (Prod.snd (Prod.snd b))]])
        (Post (AV.bool false)
         [AObj.cells [AV.str { data := List.toArray (Prod.fst a) }, AV.sl 2 (Seq.map T.encS ((0 : Int), (0 : Int)) (Prod.fst (Prod.snd a))) Tip.none, AV.bool (Prod.snd (Prod.snd a))],
         AObj.cells [AV.str { data := List.toArray (Prod.fst b) }, AV.sl 2 (Seq.map T.encS ((0 : Int), (0 : Int)) (Prod.fst (Prod.snd b))) Tip.none, AV.bool (Prod.snd (Prod.snd b))]]))
      (Post (AV.bool false)
        [AObj.cells [AV.str { data := List.toArray (Prod.fst a) }, AV.sl 2 (Seq.map T.encS ((0 : Int), (0 : Int)) (Prod.fst (Prod.snd a))) Tip.none, AV.bool (Prod.snd (Prod.snd a))],
         AObj.cells [AV.str { data := List.toArray (Prod.fst b) }, AV.sl 2 (Seq.map T.encS ((0 : Int), (0 : Int)) (Prod.fst (Prod.snd b))) Tip.none, AV.bool (Prod.snd (Prod.snd b))]]) →
    ASpec Tryd.prog 19 [AV.agg (T.encT a), AV.agg (T.encT b)] [] Post := fun a b Post h => Go.Ab.ASpec.of_vc g19 Go.Proofs.Tryd.func19 (by kernel_rfl) (by kernel_rfl) (by kernel_rfl) (Go.Ab.kc (by kernel_rfl) h)

-- 8
noncomputable def l8 : Nat → List Nat
  | _ => []
noncomputable def u8 : Nat → Bool
  | _ => false
noncomputable def m8 : Nat → Bool
  | _ => false
noncomputable def g8 : Cfg := { N := 13, live := l8, cut := u8, mu := m8, ret := rets }
theorem s8 : ∀ (a : T.Term) (Post : AV → List AObj → Prop),
  condP (decide ((↑(List.length (Prod.fst (Prod.snd a))) : Int) > (60 : Int)))
      (Post (AV.bool true)
        [AObj.cells [AV.str { data := List.toArray (Prod.fst a) }, AV.sl 2 (Seq.map T.encS ((0 : Int), (0 : Int)) (Prod.fst (Prod.snd a))) Tip.none, AV.bool (Prod.snd (Prod.snd a))]])
      (Post (AV.bool (decide ((↑(ByteArray.size { data := List.toArray (Prod.fst a) }) : Int) > (200 : Int))))
        [AObj.cells [AV.str { data := List.toArray (Prod.fst a) }, AV.sl 2 (Seq.map T.encS ((0 : Int), (0 : Int)) (Prod.fst (Prod.snd a))) Tip.none, AV.bool (Prod.snd (Prod.snd a))]]) →
    ASpec Tryd.prog 8 [AV.agg (T.encT a)] [] Post := fun a Post h => Go.Ab.ASpec.of_vc g8 Go.Proofs.Tryd.func8 (by kernel_rfl) (by kernel_rfl) (by kernel_rfl) (Go.Ab.kc (by kernel_rfl) h)

end
end Sg
end

section
/- Printed: what the code of functions 107, 115, 50, 152, 142, 114, 59 asks for, by the framework's own reading of it; each line is checked against the code. -/

set_option linter.unusedVariables false
set_option maxRecDepth 100000
set_option maxHeartbeats 4000000
open Go Go.Ab Go.Proofs
namespace S
noncomputable section

noncomputable def retS : List (Nat × Ret) := [
  (18032, ⟨Unit, fun _ _ _ => .bool true, fun _ H _ => H⟩),
  (18033, ⟨ByteArray × List UInt8 × Int, fun _ _ x => .tup [.str x.1, .sl 1 (.map encB 0 x.2.1) .none, .int .i64 x.2.2], fun _ H _ => H⟩),
  (9045, ⟨ByteArray × ByteArray × Int, fun _ _ x => .tup [.str x.1, .str x.2.1, .int .i64 x.2.2], fun _ H _ => H⟩),
  (9262, ⟨List UInt8, fun _ _ x => .sl 1 (.map encB 0 x) .none, fun _ H _ => H⟩),
  (9325, ⟨ByteArray, fun _ _ x => .str x, fun _ H _ => H⟩),
  (59, ⟨Bool, fun _ _ x => .bool x, fun _ H _ => H⟩),
  (18090, ⟨List UInt8 × Bool, fun _ _ x => .tup [.sl 1 (.map encB 0 x.1) .none, .bool x.2], fun _ H _ => H⟩),
  (50, ⟨Bool, fun _ _ x => .bool x, fun _ H _ => H⟩),
  (9170, ⟨ByteArray × Bool, fun _ _ x => .tup [.str x.1, .bool x.2], fun _ H _ => H⟩),
  (9323, ⟨List UInt8, fun _ _ x => .sl 1 (.map encB 0 x) .none, fun _ H _ => H⟩),
  (9263, ⟨ByteArray, fun _ _ x => .str x, fun _ H _ => H⟩),
  (114, ⟨List Int, fun _ _ x => .sl 1 (.map encI 0 x) .none, fun _ H _ => H⟩),
  (115, ⟨Int, fun _ _ x => .int .i64 x, fun _ H _ => H⟩),
  (9372, ⟨Int, fun _ _ x => .int .u32 x, fun _ H _ => H⟩),
  (107, ⟨Int, fun _ _ x => .int .i64 x, fun _ H _ => H⟩),
  (9324, ⟨Int, fun _ _ x => .int .i64 x, fun _ H _ => H⟩),
  (142, ⟨Int × Int, fun _ _ x => .tup [.int .i64 x.1, .int .i64 x.2], fun _ H _ => H⟩),
  (9393, ⟨Int, fun _ _ x => .int .u32 x, fun _ H _ => H⟩),
  (9373, ⟨Int, fun _ _ x => .int .i64 x, fun _ H _ => H⟩),
  (152, ⟨Int, fun _ _ x => .int .i64 x, fun _ H _ => H⟩)]
noncomputable def rets : FuncId → List Ret := lookupR (retS ++ V.retL)

-- 107
noncomputable def l107 : Nat → List Nat
  | _ => []
noncomputable def u107 : Nat → Bool
  | _ => false
noncomputable def m107 : Nat → Bool
  | _ => false
noncomputable def g107 : Cfg := { N := 27, live := l107, cut := u107, mu := m107, ret := rets }
theorem s107 : ∀ (c : Int) (Post : AV → List AObj → Prop),
  condP (decide (c ≥ (97 : Int)))
      (condP (decide (c ≤ (122 : Int))) (Post (AV.int IntKind.i64 (0 : Int)) [])
        (condP (decide (c ≥ (945 : Int)))
         (condP (decide (c ≤ (969 : Int))) (Post (AV.int IntKind.i64 (1 : Int)) [])
         (condP (decide (c ≥ (48 : Int)))
         (condP (decide (c ≤ (57 : Int))) (Post (AV.int IntKind.i64 (2 : Int)) []) (condP (c == (45 : Int)) (Post (AV.int IntKind.i64 (3 : Int)) []) (Post (AV.int IntKind.i64 (4 : Int)) [])))
         (condP (c == (45 : Int)) (Post (AV.int IntKind.i64 (3 : Int)) []) (Post (AV.int IntKind.i64 (4 : Int)) []))))
         (condP (decide (c ≥ (48 : Int)))
         (condP (decide (c ≤ (57 : Int))) (Post (AV.int IntKind.i64 (2 : Int)) []) (condP (c == (45 : Int)) (Post (AV.int IntKind.i64 (3 : Int)) []) (Post (AV.int IntKind.i64 (4 : Int)) [])))
         (condP (c == (45 : Int)) (Post (AV.int IntKind.i64 (3 : Int)) []) (Post (AV.int IntKind.i64 (4 : Int)) [])))))
      (condP (decide (c ≥ (945 : Int)))
        (condP (decide (c ≤ (969 : Int))) (Post (AV.int IntKind.i64 (1 : Int)) [])
         (condP (decide (c ≥ (48 : Int)))
         (condP (decide (c ≤ (57 : Int))) (Post (AV.int IntKind.i64 (2 : Int)) []) (condP (c == (45 : Int)) (Post (AV.int IntKind.i64 (3 : Int)) []) (Post (AV.int IntKind.i64 (4 : Int)) [])))
         (condP (c == (45 : Int)) (Post (AV.int IntKind.i64 (3 : Int)) []) (Post (AV.int IntKind.i64 (4 : Int)) []))))
        (condP (decide (c ≥ (48 : Int)))
         (condP (decide (c ≤ (57 : Int))) (Post (AV.int IntKind.i64 (2 : Int)) []) (condP (c == (45 : Int)) (Post (AV.int IntKind.i64 (3 : Int)) []) (Post (AV.int IntKind.i64 (4 : Int)) [])))
         (condP (c == (45 : Int)) (Post (AV.int IntKind.i64 (3 : Int)) []) (Post (AV.int IntKind.i64 (4 : Int)) [])))) →
    ASpec Tryd.prog 107 [AV.int IntKind.i32 c] [] Post := fun c Post h => Go.Ab.ASpec.of_vc g107 Go.Proofs.Tryd.func107 (by kernel_rfl) (by kernel_rfl) (by kernel_rfl) (Go.Ab.kc (by kernel_rfl) h)

-- 115
noncomputable def l115 : Nat → List Nat
  | _ => []
noncomputable def u115 : Nat → Bool
  | _ => false
noncomputable def m115 : Nat → Bool
  | _ => false
noncomputable def g115 : Cfg := { N := 23, live := l115, cut := u115, mu := m115, ret := rets }
theorem s115 : ∀ (c : Int) (Post : AV → List AObj → Prop),
  condP (decide (c ≥ (97 : Int)))
      (condP (decide (c ≤ (122 : Int))) (Post (AV.int IntKind.i64 (0 : Int)) [])
        (condP (decide (c ≥ (945 : Int)))
         (condP (decide (c ≤ (969 : Int))) (Post (AV.int IntKind.i64 (1 : Int)) [])
         (condP (decide (c ≥ (48 : Int)))
         (condP (decide (c ≤ (57 : Int))) (Post (AV.int IntKind.i64 (2 : Int)) []) (condP (c == (45 : Int)) (Post (AV.int IntKind.i64 (3 : Int)) []) (Post (AV.int IntKind.i64 (4 : Int)) [])))
         (condP (c == (45 : Int)) (Post (AV.int IntKind.i64 (3 : Int)) []) (Post (AV.int IntKind.i64 (4 : Int)) []))))
         (condP (decide (c ≥ (48 : Int)))
         (condP (decide (c ≤ (57 : Int))) (Post (AV.int IntKind.i64 (2 : Int)) []) (condP (c == (45 : Int)) (Post (AV.int IntKind.i64 (3 : Int)) []) (Post (AV.int IntKind.i64 (4 : Int)) [])))
         (condP (c == (45 : Int)) (Post (AV.int IntKind.i64 (3 : Int)) []) (Post (AV.int IntKind.i64 (4 : Int)) [])))))
      (condP (decide (c ≥ (945 : Int)))
        (condP (decide (c ≤ (969 : Int))) (Post (AV.int IntKind.i64 (1 : Int)) [])
         (condP (decide (c ≥ (48 : Int)))
         (condP (decide (c ≤ (57 : Int))) (Post (AV.int IntKind.i64 (2 : Int)) []) (condP (c == (45 : Int)) (Post (AV.int IntKind.i64 (3 : Int)) []) (Post (AV.int IntKind.i64 (4 : Int)) [])))
         (condP (c == (45 : Int)) (Post (AV.int IntKind.i64 (3 : Int)) []) (Post (AV.int IntKind.i64 (4 : Int)) []))))
        (condP (decide (c ≥ (48 : Int)))
         (condP (decide (c ≤ (57 : Int))) (Post (AV.int IntKind.i64 (2 : Int)) []) (condP (c == (45 : Int)) (Post (AV.int IntKind.i64 (3 : Int)) []) (Post (AV.int IntKind.i64 (4 : Int)) [])))
         (condP (c == (45 : Int)) (Post (AV.int IntKind.i64 (3 : Int)) []) (Post (AV.int IntKind.i64 (4 : Int)) [])))) →
    ASpec Tryd.prog 115 [AV.int IntKind.i64 c] [] Post := fun c Post h => Go.Ab.ASpec.of_vc g115 Go.Proofs.Tryd.func115 (by kernel_rfl) (by kernel_rfl) (by kernel_rfl) (Go.Ab.kc (by kernel_rfl) h)

-- 50
noncomputable def l50 : Nat → List Nat
  | 3 => [3, 8]
  | _ => []
noncomputable def u50 : Nat → Bool
  | _ => false
noncomputable def m50 : Nat → Bool
  | _ => false
noncomputable def g50 : Cfg := { N := 32, live := l50, cut := u50, mu := m50, ret := rets }
noncomputable def c50 : Go.Code := Go.Ab.bodyOf Go.Proofs.Tryd.f50
noncomputable def q50_0 : Nat → (AV → List AObj → Prop) → AQ := fun (n : Nat) (Post : AV → List AObj → Prop) => endQ Tryd.prog (resultsOf Tryd.f50) Post
noncomputable def q50_1 : Nat → (AV → List AObj → Prop) → AQ := fun (n : Nat) (Post : AV → List AObj → Prop) => seqQ (fun (s' : Slots) (H' : List AObj) => awp Tryd.prog g50 n (codeSnd (codeSnd (codeSnd c50))) s' H' (q50_0 n Post)) (q50_0 n Post)
noncomputable def q50_2 : Nat → (AV → List AObj → Prop) → AQ := fun (n : Nat) (Post : AV → List AObj → Prop) => blockQ 0 (q50_1 n Post)
noncomputable def c50_3 : Go.Code := codeFst (codeSnd (codeFst (codeSnd (codeSnd c50))))
theorem s50 : ∀ (s : ByteArray) (Post : AV → List AObj → Prop),
  AWP Tryd.prog 32 0 c50_3 [(3, AV.int IntKind.i64 (0 : Int)), (8, AV.ptr 0 0)] [AObj.siter s 0] (q50_2 0 Post) →
    ASpec Tryd.prog 50 [AV.str s] [] Post := fun s Post h => Go.Ab.ASpec.of_vc g50 Go.Proofs.Tryd.func50 (by kernel_rfl) (by kernel_rfl) (by kernel_rfl) (Go.Ab.kc (by kernel_rfl) h)
theorem v50_3 : ∀ (s : ByteArray) (pos : Nat) (n : Int) (n_1 : Nat) (Post : AV → List AObj → Prop),
  condP (decide (pos < ByteArray.size s))
      (ASpec Tryd.prog 107 [AV.int IntKind.i32 (↑(Prod.fst (Utf8.decode s pos)) : Int)] [AObj.siter s (pos + Prod.snd (Utf8.decode s pos))] fun (r : AV) (H' : List AObj) =>
        ∃ (x : Int),
         r = AV.int IntKind.i64 x ∧
         H' = [AObj.siter s (pos + Prod.snd (Utf8.decode s pos))] ∧
         condP (decide (x > (3 : Int))) (Post (AV.bool false) [AObj.siter s (pos + Prod.snd (Utf8.decode s pos))])
         (condP (n == (0 : Int))
         (condP (decide (x > (1 : Int))) (Post (AV.bool false) [AObj.siter s (pos + Prod.snd (Utf8.decode s pos))])
         (condP (n == (12 : Int)) (Post (AV.bool false) [AObj.siter s (pos + Prod.snd (Utf8.decode s pos))])
         (AWP Tryd.prog 32 n_1 c50_3 [(3, AV.int IntKind.i64 (IntKind.wrap IntKind.i64 (n + (1 : Int)))), (8, AV.ptr 0 0)]
         [AObj.siter s (pos + Prod.snd (Utf8.decode s pos))] (q50_2 n_1 Post))))
         (condP (n == (12 : Int)) (Post (AV.bool false) [AObj.siter s (pos + Prod.snd (Utf8.decode s pos))])
         (AWP Tryd.prog 32 n_1 c50_3 [(3, AV.int IntKind.i64 (IntKind.wrap IntKind.i64 (n + (1 : Int)))), (8, AV.ptr 0 0)]
         [AObj.siter s (pos + Prod.snd (Utf8.decode s pos))] (q50_2 n_1 Post)))))
      (Post (AV.bool (decide (n > (0 : Int)))) [AObj.siter s pos]) →
    AWP Tryd.prog 32 n_1 c50_3 [(3, AV.int IntKind.i64 n), (8, AV.ptr 0 0)] [AObj.siter s pos] (q50_2 n_1 Post) := fun s pos n n Post h => Go.Ab.AWP.loop' g50 (Cfg.live g50) c50_3 (by kernel_rfl) (by kernel_rfl) (Go.Ab.kc (by kernel_rfl) h)

-- 152
noncomputable def l152 : Nat → List Nat
  | 5 => [0, 1, 5, 6]
  | 7 => [0, 1, 5, 6]
  | 9 => [0, 1, 5, 6]
  | 11 => [0, 1, 5, 6]
  | 12 => [0, 1, 5, 6, 7]
  | 16 => [0, 1, 5, 6]
  | _ => []
noncomputable def u152 : Nat → Bool
  | 5 => true
  | 7 => true
  | 9 => true
  | 11 => true
  | 16 => true
  | _ => false
noncomputable def m152 : Nat → Bool
  | _ => false
noncomputable def g152 : Cfg := { N := 96, live := l152, cut := u152, mu := m152, ret := rets }
noncomputable def c152 : Go.Code := Go.Ab.bodyOf Go.Proofs.Tryd.f152
noncomputable def q152_0 : Nat → (AV → List AObj → Prop) → AQ := fun (n : Nat) (Post : AV → List AObj → Prop) => endQ Tryd.prog (resultsOf Tryd.f152) Post
noncomputable def c152_5 : Go.Code := codeSnd (codeSnd (codeSnd (codeSnd c152)))
theorem s152 : ∀ (s : ByteArray) (p : Int) (Post : AV → List AObj → Prop),
  needP ((0 : Int) ≤ p ∧ p < (↑(ByteArray.size s) : Int))
      (condP (decide (IntKind.wrap IntKind.i64 (↑(UInt8.toNat (List.getD (Array.toList (ByteArray.data s)) (Int.toNat p) (0 : UInt8))) : Int) ≥ (194 : Int)))
        (condP (decide (IntKind.wrap IntKind.i64 (↑(UInt8.toNat (List.getD (Array.toList (ByteArray.data s)) (Int.toNat p) (0 : UInt8))) : Int) ≤ (223 : Int)))
         (AWP Tryd.prog 96 0 c152_5
         [(0, AV.str s), (1, AV.int IntKind.i64 p), (5, AV.int IntKind.i64 (2 : Int)),
         (6, AV.int IntKind.i64 (IntKind.wrap IntKind.i64 (↑(UInt8.toNat (List.getD (Array.toList (ByteArray.data s)) (Int.toNat p) (0 : UInt8))) : Int)))]
         [] (q152_0 0 Post))
         (AWP Tryd.prog 96 0 c152_5
         [(0, AV.str s), (1, AV.int IntKind.i64 p), (5, AV.int IntKind.i64 (0 : Int)),
         (6, AV.int IntKind.i64 (IntKind.wrap IntKind.i64 (↑(UInt8.toNat (List.getD (Array.toList (ByteArray.data s)) (Int.toNat p) (0 : UInt8))) : Int)))]
         [] (q152_0 0 Post)))
        (AWP Tryd.prog 96 0 c152_5
         [(0, AV.str s), (1, AV.int IntKind.i64 p), (5, AV.int IntKind.i64 (0 : Int)),
         (6, AV.int IntKind.i64 (IntKind.wrap IntKind.i64 (↑(UInt8.toNat (List.getD (Array.toList (ByteArray.data s)) (Int.toNat p) (0 : UInt8))) : Int)))]
         [] (q152_0 0 Post))) →
    ASpec Tryd.prog 152 [AV.str s, AV.int IntKind.i64 p] [] Post := fun s p Post h => Go.Ab.ASpec.of_vc g152 Go.Proofs.Tryd.func152 (by kernel_rfl) (by kernel_rfl) (by kernel_rfl) (Go.Ab.kc (by kernel_rfl) h)
noncomputable def c152_7 : Go.Code := codeSnd c152_5
theorem v152_5 : ∀ (s : ByteArray) (p n c : Int) (n_1 : Nat) (Post : AV → List AObj → Prop),
  condP (decide (c ≥ (224 : Int)))
      (condP (decide (c ≤ (239 : Int)))
        (AWP Tryd.prog 96 n_1 c152_7 [(0, AV.str s), (1, AV.int IntKind.i64 p), (5, AV.int IntKind.i64 (3 : Int)), (6, AV.int IntKind.i64 c)] []
         (q152_0 n_1 Post))
        (AWP Tryd.prog 96 n_1 c152_7 [(0, AV.str s), (1, AV.int IntKind.i64 p), (5, AV.int IntKind.i64 n), (6, AV.int IntKind.i64 c)] [] (q152_0 n_1 Post)))
      (AWP Tryd.prog 96 n_1 c152_7 [(0, AV.str s), (1, AV.int IntKind.i64 p), (5, AV.int IntKind.i64 n), (6, AV.int IntKind.i64 c)] [] (q152_0 n_1 Post)) →
    AWP Tryd.prog 96 n_1 c152_5 [(0, AV.str s), (1, AV.int IntKind.i64 p), (5, AV.int IntKind.i64 n), (6, AV.int IntKind.i64 c)] [] (q152_0 n_1 Post) := fun s p n c n Post h => Go.Ab.awp_sound g152 n _ _ _ _ (Go.Ab.kc (by kernel_rfl) h)
noncomputable def c152_9 : Go.Code := codeSnd c152_7
theorem v152_7 : ∀ (s : ByteArray) (p n c : Int) (n_1 : Nat) (Post : AV → List AObj → Prop),
  condP (decide (c ≥ (240 : Int)))
      (condP (decide (c ≤ (244 : Int)))
        (AWP Tryd.prog 96 n_1 c152_9 [(0, AV.str s), (1, AV.int IntKind.i64 p), (5, AV.int IntKind.i64 (4 : Int)), (6, AV.int IntKind.i64 c)] []
         (q152_0 n_1 Post))
        (AWP Tryd.prog 96 n_1 c152_9 [(0, AV.str s), (1, AV.int IntKind.i64 p), (5, AV.int IntKind.i64 n), (6, AV.int IntKind.i64 c)] [] (q152_0 n_1 Post)))
      (AWP Tryd.prog 96 n_1 c152_9 [(0, AV.str s), (1, AV.int IntKind.i64 p), (5, AV.int IntKind.i64 n), (6, AV.int IntKind.i64 c)] [] (q152_0 n_1 Post)) →
    AWP Tryd.prog 96 n_1 c152_7 [(0, AV.str s), (1, AV.int IntKind.i64 p), (5, AV.int IntKind.i64 n), (6, AV.int IntKind.i64 c)] [] (q152_0 n_1 Post) := fun s p n c n Post h => Go.Ab.awp_sound g152 n _ _ _ _ (Go.Ab.kc (by kernel_rfl) h)
noncomputable def c152_11 : Go.Code := codeSnd c152_9
theorem v152_9 : ∀ (s : ByteArray) (p n c : Int) (n_1 : Nat) (Post : AV → List AObj → Prop),
  condP (n == (0 : Int)) (Post (AV.int IntKind.i64 (0 : Int)) [])
      (condP (decide (IntKind.wrap IntKind.i64 ((↑(ByteArray.size s) : Int) - p) < n)) (Post (AV.int IntKind.i64 (0 : Int)) [])
        (AWP Tryd.prog 96 n_1 c152_11 [(0, AV.str s), (1, AV.int IntKind.i64 p), (5, AV.int IntKind.i64 n), (6, AV.int IntKind.i64 c)] [] (q152_0 n_1 Post))) →
    AWP Tryd.prog 96 n_1 c152_9 [(0, AV.str s), (1, AV.int IntKind.i64 p), (5, AV.int IntKind.i64 n), (6, AV.int IntKind.i64 c)] [] (q152_0 n_1 Post) := fun s p n c n Post h => Go.Ab.awp_sound g152 n _ _ _ _ (Go.Ab.kc (by kernel_rfl) h)
noncomputable def c152_16 : Go.Code := codeSnd c152_11
noncomputable def q152_1 : Nat → (AV → List AObj → Prop) → AQ := fun (n : Nat) (Post : AV → List AObj → Prop) => seqQ (fun (s' : Slots) (H' : List AObj) => AWP Tryd.prog (Cfg.N g152) n c152_16 (restrict s' (Cfg.live g152 16)) H' (q152_0 n Post)) (q152_0 n Post)
noncomputable def q152_2 : Nat → (AV → List AObj → Prop) → AQ := fun (n : Nat) (Post : AV → List AObj → Prop) => blockQ 0 (q152_1 n Post)
noncomputable def c152_12 : Go.Code := codeFst (codeSnd (codeFst c152_11))
theorem v152_11 : ∀ (s : ByteArray) (p n c : Int) (n_1 : Nat) (Post : AV → List AObj → Prop),
  AWP Tryd.prog 96 n_1 c152_12
      [(0, AV.str s), (1, AV.int IntKind.i64 p), (5, AV.int IntKind.i64 n), (6, AV.int IntKind.i64 c), (7, AV.int IntKind.i64 (1 : Int))] [] (q152_2 n_1 Post) →
    AWP Tryd.prog 96 n_1 c152_11 [(0, AV.str s), (1, AV.int IntKind.i64 p), (5, AV.int IntKind.i64 n), (6, AV.int IntKind.i64 c)] [] (q152_0 n_1 Post) := fun s p n c n Post h => Go.Ab.awp_sound g152 n _ _ _ _ (Go.Ab.kc (by kernel_rfl) h)
theorem v152_16 : ∀ (s : ByteArray) (p n c : Int) (n_1 : Nat) (Post : AV → List AObj → Prop),
  needP ((0 : Int) ≤ IntKind.wrap IntKind.i64 (p + (1 : Int)) ∧ IntKind.wrap IntKind.i64 (p + (1 : Int)) < (↑(ByteArray.size s) : Int))
      (condP (c == (224 : Int))
        (condP (decide (IntKind.wrap IntKind.i64 (↑(UInt8.toNat (List.getD (Array.toList (ByteArray.data s)) (Int.toNat (IntKind.wrap IntKind.i64 (p + (1 : Int)))) (0 : UInt8))) : Int) < (160 : Int)))
         (Post (AV.int IntKind.i64 (0 : Int)) [])
         (condP (c == (237 : Int))
         (condP
         (decide (IntKind.wrap IntKind.i64 (↑(UInt8.toNat (List.getD (Array.toList (ByteArray.data s)) (Int.toNat (IntKind.wrap IntKind.i64 (p + (1 : Int)))) (0 : UInt8))) : Int) > (159 : Int)))
         (Post (AV.int IntKind.i64 (0 : Int)) [])
         (condP (c == (240 : Int))
         (condP
         (decide
         (IntKind.wrap IntKind.i64 (↑(UInt8.toNat (List.getD (Array.toList (ByteArray.data s)) (Int.toNat (IntKind.wrap IntKind.i64 (p + (1 : Int)))) (0 : UInt8))) : Int) < (144 : Int)))
         (Post (AV.int IntKind.i64 (0 : Int)) [])
         (condP (c == (244 : Int))
         (condP
         (decide
         (IntKind.wrap IntKind.i64 (↑(UInt8.toNat (List.getD (Array.toList (ByteArray.data s)) (Int.toNat (IntKind.wrap IntKind.i64 (p + (1 : Int)))) (0 : UInt8))) : Int) >
         (143 : Int)))
         (Post (AV.int IntKind.i64 (0 : Int)) []) (Post (AV.int IntKind.i64 n) []))
         (Post (AV.int IntKind.i64 n) [])))
         (condP (c == (244 : Int))
         (condP
         (decide
         (IntKind.wrap IntKind.i64 (↑(UInt8.toNat (List.getD (Array.toList (ByteArray.data s)) (Int.toNat (IntKind.wrap IntKind.i64 (p + (1 : Int)))) (0 : UInt8))) : Int) > (143 : Int)))
         (Post (AV.int IntKind.i64 (0 : Int)) []) (Post (AV.int IntKind.i64 n) []))
         (Post (AV.int IntKind.i64 n) []))))
         (condP (c == (240 : Int))
         (condP
         (decide
         (IntKind.wrap IntKind.i64 (↑(UInt8.toNat (List.getD (Array.toList (ByteArray.data s)) (Int.toNat (IntKind.wrap IntKind.i64 (p + (1 : Int)))) (0 : UInt8))) : Int) < (144 : Int)))
         (Post (AV.int IntKind.i64 (0 : Int)) [])
         (condP (c == (244 : Int))
         (condP
         (decide
         (IntKind.wrap IntKind.i64 (↑(UInt8.toNat (List.getD (Array.toList (ByteArray.data s)) (Int.toNat (IntKind.wrap IntKind.i64 (p + (1 : Int)))) (0 : UInt8))) : Int) > (143 : Int)))
         (Post (AV.int IntKind.i64 (0 : Int)) []) (Post (AV.int IntKind.i64 n) []))
         (Post (AV.int IntKind.i64 n) [])))
         (condP (c == (244 : Int))
         (condP
         (decide
         (IntKind.wrap IntKind.i64 (↑(UInt8.toNat (List.getD (Array.toList (ByteArray.data s)) (Int.toNat (IntKind.wrap IntKind.i64 (p + (1 : Int)))) (0 : UInt8))) : Int) > (143 : Int)))
         (Post (AV.int IntKind.i64 (0 : Int)) []) (Post (AV.int IntKind.i64 n) []))
         (Post (AV.int IntKind.i64 n) [])))))
        (condP (c == (237 : Int))
         (condP
         (decide (IntKind.wrap IntKind.i64 (↑(UInt8.toNat (List.getD (Array.toList (ByteArray.data s)) (Int.toNat (IntKind.wrap IntKind.i64 (p + (1 : Int)))) (0 : UInt8))) : Int) > (159 : Int)))
         (Post (AV.int IntKind.i64 (0 : Int)) [])
         (condP (c == (240 : Int))
         (condP
         (decide
         (IntKind.wrap IntKind.i64 (↑(UInt8.toNat (List.getD (Array.toList (ByteArray.data s)) (Int.toNat (IntKind.wrap IntKind.i64 (p + (1 : Int)))) (0 : UInt8))) : Int) < (144 : Int)))
         (Post (AV.int IntKind.i64 (0 : Int)) [])
         (condP (c == (244 : Int))
         (condP
         (decide
         (IntKind.wrap IntKind.i64 (↑(UInt8.toNat (List.getD (Array.toList (ByteArray.data s)) (Int.toNat (IntKind.wrap IntKind.i64 (p + (1 : Int)))) (0 : UInt8))) : Int) > (143 : Int)))
         (Post (AV.int IntKind.i64 (0 : Int)) []) (Post (AV.int IntKind.i64 n) []))
         (Post (AV.int IntKind.i64 n) [])))
         (condP (c == (244 : Int))
         (condP
         (decide
         (IntKind.wrap IntKind.i64 (↑(UInt8.toNat (List.getD (Array.toList (ByteArray.data s)) (Int.toNat (IntKind.wrap IntKind.i64 (p + (1 : Int)))) (0 : UInt8))) : Int) > (143 : Int)))
         (Post (AV.int IntKind.i64 (0 : Int)) []) (Post (AV.int IntKind.i64 n) []))
         (Post (AV.int IntKind.i64 n) []))))
         (condP (c == (240 : Int))
         (condP
         (decide (IntKind.wrap IntKind.i64 (↑(UInt8.toNat (List.getD (Array.toList (ByteArray.data s)) (Int.toNat (IntKind.wrap IntKind.i64 (p + (1 : Int)))) (0 : UInt8))) : Int) < (144 : Int)))
         (Post (AV.int IntKind.i64 (0 : Int)) [])
         (condP (c == (244 : Int))
         (condP
         (decide
         (IntKind.wrap IntKind.i64 (↑(UInt8.toNat (List.getD (Array.toList (ByteArray.data s)) (Int.toNat (IntKind.wrap IntKind.i64 (p + (1 : Int)))) (0 : UInt8))) : Int) > (143 : Int)))
         (Post (AV.int IntKind.i64 (0 : Int)) []) (Post (AV.int IntKind.i64 n) []))
         (Post (AV.int IntKind.i64 n) [])))
         (condP (c == (244 : Int))
         (condP
         (decide
         (IntKind.wrap IntKind.i64 (↑(UInt8.toNat (List.getD (Array.toList (ByteArray.data s)) (Int.toNat (IntKind.wrap IntKind.i64 (p + (1 : Int)))) (0 : UInt8))) : Int) > (143 : Int)))
         (Post (AV.int IntKind.i64 (0 : Int)) []) (Post (AV.int IntKind.i64 n) []))
         (Post (AV.int IntKind.i64 n) []))))) →
    AWP Tryd.prog 96 n_1 c152_16 [(0, AV.str s), (1, AV.int IntKind.i64 p), (5, AV.int IntKind.i64 n), (6, AV.int IntKind.i64 c)] [] (q152_0 n_1 Post) := fun s p n c n Post h => Go.Ab.awp_sound g152 n _ _ _ _ (Go.Ab.kc (by kernel_rfl) h)
theorem v152_12 : ∀ (s : ByteArray) (p n c i : Int) (n_1 : Nat) (Post : AV → List AObj → Prop),
  condP (decide (i < n))
      (needP ((0 : Int) ≤ IntKind.wrap IntKind.i64 (p + i) ∧ IntKind.wrap IntKind.i64 (p + i) < (↑(ByteArray.size s) : Int))
        (condP (decide ((↑(UInt8.toNat (List.getD (Array.toList (ByteArray.data s)) (Int.toNat (IntKind.wrap IntKind.i64 (p + i))) (0 : UInt8))) : Int) < (128 : Int)))
         (Post (AV.int IntKind.i64 (0 : Int)) [])
         (needP ((0 : Int) ≤ IntKind.wrap IntKind.i64 (p + i) ∧ IntKind.wrap IntKind.i64 (p + i) < (↑(ByteArray.size s) : Int))
         (condP (decide ((↑(UInt8.toNat (List.getD (Array.toList (ByteArray.data s)) (Int.toNat (IntKind.wrap IntKind.i64 (p + i))) (0 : UInt8))) : Int) > (191 : Int)))
         (Post (AV.int IntKind.i64 (0 : Int)) [])
         (AWP Tryd.prog 96 n_1 c152_12
         [(0, AV.str s), (1, AV.int IntKind.i64 p), (5, AV.int IntKind.i64 n), (6, AV.int IntKind.i64 c),
         (7, AV.int IntKind.i64 (IntKind.wrap IntKind.i64 (i + (1 : Int))))]
         [] (q152_2 n_1 Post))))))
      (AWP Tryd.prog 96 n_1 c152_16 [(0, AV.str s), (1, AV.int IntKind.i64 p), (5, AV.int IntKind.i64 n), (6, AV.int IntKind.i64 c)] [] (q152_0 n_1 Post)) →
    AWP Tryd.prog 96 n_1 c152_12
      [(0, AV.str s), (1, AV.int IntKind.i64 p), (5, AV.int IntKind.i64 n), (6, AV.int IntKind.i64 c), (7, AV.int IntKind.i64 i)] [] (q152_2 n_1 Post) := fun s p n c i n Post h => Go.Ab.AWP.loop' g152 (Cfg.live g152) c152_12 (by kernel_rfl) (by kernel_rfl) (Go.Ab.kc (by kernel_rfl) h)

-- 142
noncomputable def l142 : Nat → List Nat
  | 9 => [0, 1, 6, 7]
  | 11 => [0, 1, 6, 7]
  | 12 => [0, 1, 6, 7, 8]
  | _ => []
noncomputable def u142 : Nat → Bool
  | 9 => true
  | 11 => true
  | _ => false
noncomputable def m142 : Nat → Bool
  | _ => false
noncomputable def g142 : Cfg := { N := 58, live := l142, cut := u142, mu := m142, ret := rets }
noncomputable def c142 : Go.Code := Go.Ab.bodyOf Go.Proofs.Tryd.f142
noncomputable def q142_0 : Nat → (AV → List AObj → Prop) → AQ := fun (n : Nat) (Post : AV → List AObj → Prop) => endQ Tryd.prog (resultsOf Tryd.f142) Post
noncomputable def c142_9 : Go.Code := codeSnd (codeSnd (codeSnd (codeSnd (codeSnd (codeSnd c142)))))
theorem s142 : ∀ (s : ByteArray) (p : Int) (Post : AV → List AObj → Prop),
  needP ((0 : Int) ≤ p ∧ p < (↑(ByteArray.size s) : Int))
      (condP (decide ((↑(UInt8.toNat (List.getD (Array.toList (ByteArray.data s)) (Int.toNat p) (0 : UInt8))) : Int) < (128 : Int)))
        (needP ((0 : Int) ≤ p ∧ p < (↑(ByteArray.size s) : Int))
         (Post (AV.tup [AV.int IntKind.i64 (IntKind.wrap IntKind.i64 (↑(UInt8.toNat (List.getD (Array.toList (ByteArray.data s)) (Int.toNat p) (0 : UInt8))) : Int)), AV.int IntKind.i64 (1 : Int)])
         []))
        (ASpec Tryd.prog 152 [AV.str s, AV.int IntKind.i64 p] [] fun (r : AV) (H' : List AObj) =>
         ∃ (x : Int),
         r = AV.int IntKind.i64 x ∧
         H' = [] ∧
         condP (x == (0 : Int)) (Post (AV.tup [AV.int IntKind.i64 (65533 : Int), AV.int IntKind.i64 (1 : Int)]) [])
         (needP ((0 : Int) ≤ p ∧ p < (↑(ByteArray.size s) : Int))
         (needP ((32 : Int) ≠ (0 : Int))
         (condP (x == (3 : Int))
         (needP ((0 : Int) ≤ p ∧ p < (↑(ByteArray.size s) : Int))
         (needP ((16 : Int) ≠ (0 : Int))
         (AWP Tryd.prog 58 0 c142_9
         [(0, AV.str s), (1, AV.int IntKind.i64 p), (6, AV.int IntKind.i64 x),
         (7,
         AV.int IntKind.i64 (Int.tmod (IntKind.wrap IntKind.i64 (↑(UInt8.toNat (List.getD (Array.toList (ByteArray.data s)) (Int.toNat p) (0 : UInt8))) : Int)) (16 : Int)))]
         [] (q142_0 0 Post))))
         (AWP Tryd.prog 58 0 c142_9
         [(0, AV.str s), (1, AV.int IntKind.i64 p), (6, AV.int IntKind.i64 x),
         (7,
         AV.int IntKind.i64 (Int.tmod (IntKind.wrap IntKind.i64 (↑(UInt8.toNat (List.getD (Array.toList (ByteArray.data s)) (Int.toNat p) (0 : UInt8))) : Int)) (32 : Int)))]
         [] (q142_0 0 Post))))))) →
    ASpec Tryd.prog 142 [AV.str s, AV.int IntKind.i64 p] [] Post := fun s p Post h => Go.Ab.ASpec.of_vc g142 Go.Proofs.Tryd.func142 (by kernel_rfl) (by kernel_rfl) (by kernel_rfl) (Go.Ab.kc (by kernel_rfl) h)
noncomputable def c142_11 : Go.Code := codeSnd c142_9
theorem v142_9 : ∀ (s : ByteArray) (p n x : Int) (n_1 : Nat) (Post : AV → List AObj → Prop),
  condP (n == (4 : Int))
      (needP ((0 : Int) ≤ p ∧ p < (↑(ByteArray.size s) : Int))
        (needP ((8 : Int) ≠ (0 : Int))
         (AWP Tryd.prog 58 n_1 c142_11
         [(0, AV.str s), (1, AV.int IntKind.i64 p), (6, AV.int IntKind.i64 n),
         (7, AV.int IntKind.i64 (Int.tmod (IntKind.wrap IntKind.i64 (↑(UInt8.toNat (List.getD (Array.toList (ByteArray.data s)) (Int.toNat p) (0 : UInt8))) : Int)) (8 : Int)))]
         [] (q142_0 n_1 Post))))
      (AWP Tryd.prog 58 n_1 c142_11 [(0, AV.str s), (1, AV.int IntKind.i64 p), (6, AV.int IntKind.i64 n), (7, AV.int IntKind.i64 x)] [] (q142_0 n_1 Post)) →
    AWP Tryd.prog 58 n_1 c142_9 [(0, AV.str s), (1, AV.int IntKind.i64 p), (6, AV.int IntKind.i64 n), (7, AV.int IntKind.i64 x)] [] (q142_0 n_1 Post) := fun s p n x n Post h => Go.Ab.awp_sound g142 n _ _ _ _ (Go.Ab.kc (by kernel_rfl) h)
noncomputable def q142_1 : Nat → (AV → List AObj → Prop) → AQ := fun (n : Nat) (Post : AV → List AObj → Prop) => seqQ (fun (s' : Slots) (H' : List AObj) => awp Tryd.prog g142 n (codeSnd c142_11) s' H' (q142_0 n Post)) (q142_0 n Post)
noncomputable def q142_2 : Nat → (AV → List AObj → Prop) → AQ := fun (n : Nat) (Post : AV → List AObj → Prop) => blockQ 0 (q142_1 n Post)
noncomputable def c142_12 : Go.Code := codeFst (codeSnd (codeFst c142_11))
theorem v142_11 : ∀ (s : ByteArray) (p n x : Int) (n_1 : Nat) (Post : AV → List AObj → Prop),
  AWP Tryd.prog 58 n_1 c142_12
      [(0, AV.str s), (1, AV.int IntKind.i64 p), (6, AV.int IntKind.i64 n), (7, AV.int IntKind.i64 x), (8, AV.int IntKind.i64 (1 : Int))] [] (q142_2 n_1 Post) →
    AWP Tryd.prog 58 n_1 c142_11 [(0, AV.str s), (1, AV.int IntKind.i64 p), (6, AV.int IntKind.i64 n), (7, AV.int IntKind.i64 x)] [] (q142_0 n_1 Post) := fun s p n x n Post h => Go.Ab.awp_sound g142 n _ _ _ _ (Go.Ab.kc (by kernel_rfl) h)
theorem v142_12 : ∀ (s : ByteArray) (p n x i : Int) (n_1 : Nat) (Post : AV → List AObj → Prop),
  condP (decide (i < n))
      (needP ((0 : Int) ≤ IntKind.wrap IntKind.i64 (p + i) ∧ IntKind.wrap IntKind.i64 (p + i) < (↑(ByteArray.size s) : Int))
        (needP ((64 : Int) ≠ (0 : Int))
         (AWP Tryd.prog 58 n_1 c142_12
         [(0, AV.str s), (1, AV.int IntKind.i64 p), (6, AV.int IntKind.i64 n),
         (7,
         AV.int IntKind.i64
         (IntKind.wrap IntKind.i64
         (IntKind.wrap IntKind.i64 (x * (64 : Int)) +
         Int.tmod (IntKind.wrap IntKind.i64 (↑(UInt8.toNat (List.getD (Array.toList (ByteArray.data s)) (Int.toNat (IntKind.wrap IntKind.i64 (p + i))) (0 : UInt8))) : Int)) (64 : Int)))),
         (8, AV.int IntKind.i64 (IntKind.wrap IntKind.i64 (i + (1 : Int))))]
         [] (q142_2 n_1 Post))))
      (Post (AV.tup [AV.int IntKind.i64 x, AV.int IntKind.i64 n]) []) →
    AWP Tryd.prog 58 n_1 c142_12
      [(0, AV.str s), (1, AV.int IntKind.i64 p), (6, AV.int IntKind.i64 n), (7, AV.int IntKind.i64 x), (8, AV.int IntKind.i64 i)] [] (q142_2 n_1 Post) := fun s p n x i n Post h => Go.Ab.AWP.loop' g142 (Cfg.live g142) c142_12 (by kernel_rfl) (by kernel_rfl) (Go.Ab.kc (by kernel_rfl) h)

-- 114
noncomputable def l114 : Nat → List Nat
  | 3 => [0, 3, 4]
  | _ => []
noncomputable def u114 : Nat → Bool
  | _ => false
noncomputable def m114 : Nat → Bool
  | _ => false
noncomputable def g114 : Cfg := { N := 25, live := l114, cut := u114, mu := m114, ret := rets }
noncomputable def c114 : Go.Code := Go.Ab.bodyOf Go.Proofs.Tryd.f114
noncomputable def q114_0 : Nat → (AV → List AObj → Prop) → AQ := fun (n : Nat) (Post : AV → List AObj → Prop) => endQ Tryd.prog (resultsOf Tryd.f114) Post
noncomputable def q114_1 : Nat → (AV → List AObj → Prop) → AQ := fun (n : Nat) (Post : AV → List AObj → Prop) => seqQ (fun (s' : Slots) (H' : List AObj) => awp Tryd.prog g114 n (codeSnd (codeSnd (codeSnd (codeSnd c114)))) s' H' (q114_0 n Post)) (q114_0 n Post)
noncomputable def q114_2 : Nat → (AV → List AObj → Prop) → AQ := fun (n : Nat) (Post : AV → List AObj → Prop) => blockQ 0 (q114_1 n Post)
noncomputable def c114_3 : Go.Code := codeFst (codeFst (codeSnd (codeSnd (codeSnd c114))))
theorem s114 : ∀ (s : ByteArray) (Post : AV → List AObj → Prop),
  AWP Tryd.prog 25 0 c114_3 [(0, AV.str s), (3, AV.sl 0 (Seq.raw []) Tip.nil), (4, AV.int IntKind.i64 (0 : Int))] [] (q114_2 0 Post) →
    ASpec Tryd.prog 114 [AV.str s] [] Post := fun s Post h => Go.Ab.ASpec.of_vc g114 Go.Proofs.Tryd.func114 (by kernel_rfl) (by kernel_rfl) (by kernel_rfl) (Go.Ab.kc (by kernel_rfl) h)
theorem v114_3 : ∀ (s : ByteArray) (l : List Int) (p : Int) (n : Nat) (Post : AV → List AObj → Prop),
  condP (decide (p < (↑(ByteArray.size s) : Int)))
      (ASpec Tryd.prog 142 [AV.str s, AV.int IntKind.i64 p] [AObj.tok] fun (r : AV) (H' : List AObj) =>
        ∃ (x : Int × Int),
         r = AV.tup [AV.int IntKind.i64 (Prod.fst x), AV.int IntKind.i64 (Prod.snd x)] ∧
         H' = [AObj.tok] ∧
         needP ((List.length l + 1) * 8 ≤ 140737488351232)
         (AWP Tryd.prog 25 n c114_3
         [(0, AV.str s), (3, AV.sl 1 (Seq.app (Seq.map encI (0 : Int) l) (Seq.raw [[AV.int IntKind.i64 (Prod.fst x)]])) (Tip.tok 1)),
         (4, AV.int IntKind.i64 (IntKind.wrap IntKind.i64 (p + Prod.snd x)))]
         [AObj.gone, AObj.tok] (q114_2 n Post)))
      (Post (AV.sl 1 (Seq.map encI (0 : Int) l) (Tip.tok 0)) [AObj.tok]) →
    AWP Tryd.prog 25 n c114_3 [(0, AV.str s), (3, AV.sl 1 (Seq.map encI (0 : Int) l) (Tip.tok 0)), (4, AV.int IntKind.i64 p)] [AObj.tok] (q114_2 n Post) := fun s l p n Post h => Go.Ab.AWP.loop' g114 (Cfg.live g114) c114_3 (by kernel_rfl) (by kernel_rfl) (Go.Ab.kc (by kernel_rfl) h)

-- 59
noncomputable def l59 : Nat → List Nat
  | 5 => [3, 4]
  | _ => []
noncomputable def u59 : Nat → Bool
  | _ => false
noncomputable def m59 : Nat → Bool
  | _ => false
noncomputable def g59 : Cfg := { N := 42, live := l59, cut := u59, mu := m59, ret := rets }
noncomputable def c59 : Go.Code := Go.Ab.bodyOf Go.Proofs.Tryd.f59
noncomputable def q59_0 : Nat → (AV → List AObj → Prop) → AQ := fun (n : Nat) (Post : AV → List AObj → Prop) => endQ Tryd.prog (resultsOf Tryd.f59) Post
noncomputable def q59_1 : Nat → (AV → List AObj → Prop) → AQ := fun (n : Nat) (Post : AV → List AObj → Prop) => seqQ (fun (s' : Slots) (H' : List AObj) => awp Tryd.prog g59 n (codeSnd (codeSnd (codeSnd (codeSnd c59)))) s' H' (q59_0 n Post)) (q59_0 n Post)
noncomputable def q59_2 : Nat → (AV → List AObj → Prop) → AQ := fun (n : Nat) (Post : AV → List AObj → Prop) => blockQ 0 (q59_1 n Post)
noncomputable def c59_5 : Go.Code := codeFst (codeSnd (codeFst (codeSnd (codeSnd (codeSnd c59)))))
theorem s59 : ∀ (s : ByteArray) (Post : AV → List AObj → Prop),
  condP (decide ((↑(ByteArray.size s) : Int) > (100 : Int))) (Post (AV.bool false) [])
      (ASpec Tryd.prog 114 [AV.str s] [] fun (r : AV) (H' : List AObj) =>
        ∃ (x : List Int),
         r = AV.sl 1 (Seq.map encI (0 : Int) x) Tip.none ∧
         H' = [] ∧
         AWP Tryd.prog 42 0 c59_5 [(3, AV.sl 1 (Seq.map encI (0 : Int) x) Tip.none), (4, AV.int IntKind.i64 (0 : Int))] [] (q59_2 0 Post)) →
    ASpec Tryd.prog 59 [AV.str s] [] Post := fun s Post h => Go.Ab.ASpec.of_vc g59 Go.Proofs.Tryd.func59 (by kernel_rfl) (by kernel_rfl) (by kernel_rfl) (Go.Ab.kc (by kernel_rfl) h)
theorem v59_5 : ∀ (l : List Int) (i : Int) (n : Nat) (Post : AV → List AObj → Prop),
  condP (decide (i < (↑(List.length l) : Int)))
      (needP ((0 : Int) ≤ i ∧ i < (↑(List.length l) : Int))
        (ASpec Tryd.prog 115 [AV.int IntKind.i64 (List.getD l (Int.toNat i) (0 : Int))] [] fun (r : AV) (H' : List AObj) =>
         ∃ (x : Int),
         r = AV.int IntKind.i64 x ∧
         H' = [] ∧
         condP (x == (4 : Int)) (Post (AV.bool false) [])
         (condP (i == (0 : Int))
         (needP ((0 : Int) ≤ i ∧ i < (↑(List.length l) : Int))
         (ASpec Tryd.prog 115 [AV.int IntKind.i64 (List.getD l (Int.toNat i) (0 : Int))] [] fun (r : AV) (H' : List AObj) =>
         ∃ (x : Int),
         r = AV.int IntKind.i64 x ∧
         H' = [] ∧
         condP (decide (x > (1 : Int))) (Post (AV.bool false) [])
         (AWP Tryd.prog 42 n c59_5
         [(3, AV.sl 1 (Seq.map encI (0 : Int) l) Tip.none), (4, AV.int IntKind.i64 (IntKind.wrap IntKind.i64 (i + (1 : Int))))] [] (q59_2 n Post))))
         (AWP Tryd.prog 42 n c59_5 [(3, AV.sl 1 (Seq.map encI (0 : Int) l) Tip.none), (4, AV.int IntKind.i64 (IntKind.wrap IntKind.i64 (i + (1 : Int))))] []
         (q59_2 n Post)))))
      (condP (decide ((↑(List.length l) : Int) ≥ (1 : Int))) (Post (AV.bool (decide ((↑(List.length l) : Int) ≤ (12 : Int)))) []) (Post (AV.bool false) [])) →
    AWP Tryd.prog 42 n c59_5 [(3, AV.sl 1 (Seq.map encI (0 : Int) l) Tip.none), (4, AV.int IntKind.i64 i)] [] (q59_2 n Post) := fun l i n Post h => Go.Ab.AWP.loop' g59 (Cfg.live g59) c59_5 (by kernel_rfl) (by kernel_rfl) (Go.Ab.kc (by kernel_rfl) h)

end
end S
end

section
/- The plain law of numbers as bytes. -/

namespace V

/-- the digits that go on -/
def lead (v : Nat) : List UInt8 := if _h : v = 0 then [] else lead (v / 128) ++ [UInt8.ofNat (128 + v % 128)]
  termination_by v
  decreasing_by omega

def enc (v : Nat) : List UInt8 := lead (v / 128) ++ [UInt8.ofNat (v % 128)]

/-- a number that is held -/
def held (x : Int) : Nat := (min (max x 0) 1099511627776).toNat

end V
end

section
/- vlq.Put: what it computes. -/

set_option linter.unusedVariables false
set_option linter.unusedSimpArgs false
open Go Go.Ab Go.Proofs
namespace V

def big : Nat := 140737488351232

theorem tmodN (a b : Nat) : Int.tmod (a : Int) (b : Int) = ((a % b : Nat) : Int) := by rfl

theorem selTok : Sel 0 [1] [AObj.gone, AObj.tok] [AObj.tok] := Sel.one 1 rfl rfl

end V
end

section
/- The reader of bytes: what its methods compute. -/

set_option linter.unusedVariables false
set_option linter.unusedSimpArgs false
open Go Go.Ab Go.Proofs
namespace V

end V
end

section
/- The document's numbers, texts and reader: what they compute. -/

set_option linter.unusedVariables false
set_option linter.unusedSimpArgs false
open Go Go.Ab Go.Proofs
namespace V

abbrev B (l : List UInt8) : ByteArray := ⟨l.toArray⟩

theorem B_size (l : List UInt8) : (B l).size = l.length := by simp [ByteArray.size]
theorem B_toList (l : List UInt8) : (B l).toList = l := by rw [ByteArray.toList_eq]
theorem B_beq (a b : List UInt8) : ((B a).toList == (B b).toList) = (a == b) := by rw [B_toList, B_toList]
/-! ### numbers -/

/-! ### the document's look -/

end V
end

section
/- Readers as objects, in any heap; the chapter's examples. -/

set_option linter.unusedVariables false
set_option linter.unusedSimpArgs false
open Go Go.Ab Go.Proofs
namespace V

end V
end

section
/- VlqOrder: the law's function returns true. -/

set_option linter.unusedVariables false
set_option linter.unusedSimpArgs false
open Go Go.Ab Go.Proofs
namespace V

end V
end

section
/- VlqBack: what was put is read: the law's function returns true. -/

set_option linter.unusedVariables false
set_option linter.unusedSimpArgs false
open Go Go.Ab Go.Proofs
namespace V

end V
end

section
/- The document's reader, and a reader that is none: what their methods compute, in any heap. -/

set_option linter.unusedVariables false
set_option linter.unusedSimpArgs false
open Go Go.Ab Go.Proofs
namespace V

theorem condSn {a b : List UInt8} {A C : Prop} (h1 : a ≠ b → A) (h2 : a = b → C) : condP (!(B a).toList == (B b).toList) A C := by
  rw [B_beq]
  by_cases h : a = b
  · rw [beq_iff_eq.2 h]; exact h2 h
  · rw [beq_eq_false_iff_ne.2 h]; exact h1 h

/-! ### a reader that is none -/

/-! ### the reader and the document's -/

end V
end

section
/- Stamps: what the code and the document sum up, close and open. -/

set_option linter.unusedVariables false
set_option linter.unusedSimpArgs false
open Go Go.Ab Go.Proofs V
namespace Go.Ab

theorem Le.tup {l r : List AV} (h : Les l r) : Le (.tup l) (.tup r) := by
  intro M w loc v hv
  cases hv with
  | tup _ vs hs hr =>
    have hl := h.len
    exact .tup _ vs (by omega) fun i hi => h.get i (by omega) hi M w loc _ (hr i (by omega))

theorem Le.agg {l r : List AV} (h : Les l r) : Le (.agg l) (.agg r) := by
  intro M w loc v hv
  cases hv with
  | agg _ vs hs hr =>
    have hl := h.len
    exact .agg _ vs (by omega) fun i hi => h.get i (by omega) hi M w loc _ (hr i (by omega))

end Go.Ab
namespace S

def fnv : Nat → List UInt8 → Nat
  | n, [] => n
  | n, c :: l => fnv ((n ^^^ c.toNat) * 16777619 % 4294967296) l

abbrev sum (l : List UInt8) : Nat := fnv 2166136261 l
/-! ### xor, bit by bit -/

/-! ### sums -/

/-! ### sealing -/

/-! ### opening -/

end S
end

section
/- Labels: runes, kinds, and which names may be. -/

set_option linter.unusedVariables false
set_option linter.unusedSimpArgs false
set_option maxRecDepth 100000
open Go Go.Ab Go.Proofs V
namespace S

def kindM (c : Int) : Int := if 97 ≤ c ∧ c ≤ 122 then 0 else if 945 ≤ c ∧ c ≤ 969 then 1 else if 48 ≤ c ∧ c ≤ 57 then 2 else if c = 45 then 3 else 4

theorem kind_spec (c : Int) (H : List AObj) : ASpec Tryd.prog 107 [.int .i32 c] H (fun r H' => r = .int .i64 (kindM c) ∧ H' = H) := by
  have k : ASpec Tryd.prog 107 [.int .i32 c] [] (fun r H' => r = .int .i64 (kindM c) ∧ H' = []) := by
    refine s107 _ _ ?_
    repeat' (first | refine condD (fun _ => ?_) fun _ => ?_ | refine condE (fun _ => ?_) fun _ => ?_)
    all_goals (refine ⟨?_, rfl⟩; congr 1; unfold kindM; repeat' split)
    all_goals omega
  exact ASpec.pureH H k _ _ rfl rfl

theorem rkind_spec (c : Int) (H : List AObj) : ASpec Tryd.prog 115 [.int .i64 c] H (fun r H' => r = .int .i64 (kindM c) ∧ H' = H) := by
  have k : ASpec Tryd.prog 115 [.int .i64 c] [] (fun r H' => r = .int .i64 (kindM c) ∧ H' = []) := by
    refine s115 _ _ ?_
    repeat' (first | refine condD (fun _ => ?_) fun _ => ?_ | refine condE (fun _ => ?_) fun _ => ?_)
    all_goals (refine ⟨?_, rfl⟩; congr 1; unfold kindM; repeat' split)
    all_goals omega
  exact ASpec.pureH H k _ _ rfl rfl

theorem kindM_range (c : Int) : 0 ≤ kindM c ∧ kindM c ≤ 4 := by
  unfold kindM; repeat' split
  all_goals omega

/-! ### the rune at a place -/

/-- a byte behind a place -/
abbrev bt (l : List UInt8) (p k : Nat) : Nat := (l.getD (p + k) 0).toNat

theorem bt_lt (l : List UInt8) (p k : Nat) : bt l p k < 256 := (l.getD (p + k) 0).toNat_lt

theorem get_B (l : List UInt8) (j : Nat) : (B l).get! j = l.getD j 0 := by
  show l.toArray[j]! = _
  rw [getElem!_def]
  simp [List.getD]
  rfl

abbrev wideC (a b0 b1 b2 b3 : Nat) : Nat :=
  if 194 ≤ b0 ∧ b0 ≤ 223 then (if 2 ≤ a ∧ (128 ≤ b1 ∧ b1 ≤ 191) then 2 else 0)
  else if 224 ≤ b0 ∧ b0 ≤ 239 then (if 3 ≤ a ∧ (128 ≤ b1 ∧ b1 ≤ 191) ∧ (128 ≤ b2 ∧ b2 ≤ 191) ∧ ¬ (b0 = 224 ∧ b1 < 160) ∧ ¬ (b0 = 237 ∧ 159 < b1) then 3 else 0)
  else if 240 ≤ b0 ∧ b0 ≤ 244 then (if 4 ≤ a ∧ (128 ≤ b1 ∧ b1 ≤ 191) ∧ (128 ≤ b2 ∧ b2 ≤ 191) ∧ (128 ≤ b3 ∧ b3 ≤ 191) ∧ ¬ (b0 = 240 ∧ b1 < 144) ∧ ¬ (b0 = 244 ∧ 143 < b1) then 4 else 0)
  else 0

def wideM (l : List UInt8) (p : Nat) : Nat := wideC (l.length - p) (bt l p 0) (bt l p 1) (bt l p 2) (bt l p 3)

abbrev runeC (w b0 b1 b2 b3 : Nat) : Nat × Nat :=
  if b0 < 128 then (b0, 1) else if w = 0 then (65533, 1) else if w = 2 then (b0 % 32 * 64 + b1 % 64, 2)
  else if w = 3 then ((b0 % 16 * 64 + b1 % 64) * 64 + b2 % 64, 3) else (((b0 % 8 * 64 + b1 % 64) * 64 + b2 % 64) * 64 + b3 % 64, 4)

def runeM (l : List UInt8) (p : Nat) : Nat × Nat := runeC (wideM l p) (bt l p 0) (bt l p 1) (bt l p 2) (bt l p 3)

theorem decode_core (a b0 b1 b2 b3 : Nat) (h0 : b0 < 256) (h1 : b1 < 256) (h2 : b2 < 256) (h3 : b3 < 256) :
    (if b0 < 128 then (b0, 1)
     else if b0 / 32 = 6 ∧ (1 < a ∧ b1 / 64 = 2) then (if 128 ≤ b0 % 32 * 64 + b1 % 64 then (b0 % 32 * 64 + b1 % 64, 2) else (65533, 1))
     else if b0 / 16 = 14 ∧ (1 < a ∧ b1 / 64 = 2) ∧ (2 < a ∧ b2 / 64 = 2) then
       (if 2048 ≤ b0 % 16 * 4096 + b1 % 64 * 64 + b2 % 64 ∧ (b0 % 16 * 4096 + b1 % 64 * 64 + b2 % 64 < 55296 ∨ (57344 ≤ b0 % 16 * 4096 + b1 % 64 * 64 + b2 % 64 ∧ b0 % 16 * 4096 + b1 % 64 * 64 + b2 % 64 ≤ 1114111))
        then (b0 % 16 * 4096 + b1 % 64 * 64 + b2 % 64, 3) else (65533, 1))
     else if b0 / 8 = 30 ∧ (1 < a ∧ b1 / 64 = 2) ∧ (2 < a ∧ b2 / 64 = 2) ∧ (3 < a ∧ b3 / 64 = 2) then
       (if 65536 ≤ b0 % 8 * 262144 + b1 % 64 * 4096 + b2 % 64 * 64 + b3 % 64 ∧ (b0 % 8 * 262144 + b1 % 64 * 4096 + b2 % 64 * 64 + b3 % 64 < 55296 ∨ (57344 ≤ b0 % 8 * 262144 + b1 % 64 * 4096 + b2 % 64 * 64 + b3 % 64 ∧ b0 % 8 * 262144 + b1 % 64 * 4096 + b2 % 64 * 64 + b3 % 64 ≤ 1114111))
        then (b0 % 8 * 262144 + b1 % 64 * 4096 + b2 % 64 * 64 + b3 % 64, 4) else (65533, 1))
     else ((65533 : Nat), (1 : Nat))) = runeC (wideC a b0 b1 b2 b3) b0 b1 b2 b3 := by
  have e2 : ∀ w : Nat, w = 0 ∨ w = 2 ∨ w = 3 ∨ w = 4 ∨ 4 < w ∨ w = 1 := by omega
  by_cases c0 : b0 < 128
  · rw [if_pos c0]; unfold runeC; rw [if_pos c0]
  rw [if_neg c0]
  unfold runeC
  rw [if_neg c0]
  by_cases c1 : 194 ≤ b0 ∧ b0 ≤ 223
  · unfold wideC
    rw [if_pos c1]
    by_cases d : 1 < a ∧ b1 / 64 = 2
    · rw [if_pos ⟨by omega, d⟩, if_pos (by omega), if_pos (show 2 ≤ a ∧ (128 ≤ b1 ∧ b1 ≤ 191) by omega)]; rfl
    · rw [if_neg (fun h => d h.2), if_neg (fun h => d h.2.1), if_neg (fun h => d h.2.1), if_neg (show ¬ (2 ≤ a ∧ (128 ≤ b1 ∧ b1 ≤ 191)) by omega)]; rfl
  by_cases c2 : 224 ≤ b0 ∧ b0 ≤ 239
  · unfold wideC
    rw [if_neg c1, if_pos c2]
    rw [if_neg (show ¬ (b0 / 32 = 6 ∧ (1 < a ∧ b1 / 64 = 2)) by omega)]
    by_cases d : (1 < a ∧ b1 / 64 = 2) ∧ (2 < a ∧ b2 / 64 = 2)
    · rw [if_pos ⟨by omega, d⟩]
      by_cases f : ¬ (b0 = 224 ∧ b1 < 160) ∧ ¬ (b0 = 237 ∧ 159 < b1)
      · rw [if_pos (show 3 ≤ a ∧ (128 ≤ b1 ∧ b1 ≤ 191) ∧ (128 ≤ b2 ∧ b2 ≤ 191) ∧ ¬ (b0 = 224 ∧ b1 < 160) ∧ ¬ (b0 = 237 ∧ 159 < b1) by omega), if_pos (by omega)]
        simp only [if_neg (show ¬ (3 = 0) by omega), if_neg (show ¬ (3 = 2) by omega), if_true]
        rw [show b0 % 16 * 4096 + b1 % 64 * 64 + b2 % 64 = (b0 % 16 * 64 + b1 % 64) * 64 + b2 % 64 by omega]
      · rw [if_neg (show ¬ (3 ≤ a ∧ (128 ≤ b1 ∧ b1 ≤ 191) ∧ (128 ≤ b2 ∧ b2 ≤ 191) ∧ ¬ (b0 = 224 ∧ b1 < 160) ∧ ¬ (b0 = 237 ∧ 159 < b1)) by omega), if_neg (by omega)]; rfl
    · rw [if_neg (fun h => d h.2), if_neg (show ¬ (b0 / 8 = 30 ∧ (1 < a ∧ b1 / 64 = 2) ∧ (2 < a ∧ b2 / 64 = 2) ∧ (3 < a ∧ b3 / 64 = 2)) by omega),
        if_neg (show ¬ (3 ≤ a ∧ (128 ≤ b1 ∧ b1 ≤ 191) ∧ (128 ≤ b2 ∧ b2 ≤ 191) ∧ ¬ (b0 = 224 ∧ b1 < 160) ∧ ¬ (b0 = 237 ∧ 159 < b1)) by omega)]; rfl
  by_cases c3 : 240 ≤ b0 ∧ b0 ≤ 244
  · unfold wideC
    rw [if_neg c1, if_neg c2, if_pos c3]
    rw [if_neg (show ¬ (b0 / 32 = 6 ∧ (1 < a ∧ b1 / 64 = 2)) by omega), if_neg (show ¬ (b0 / 16 = 14 ∧ (1 < a ∧ b1 / 64 = 2) ∧ (2 < a ∧ b2 / 64 = 2)) by omega)]
    by_cases d : (1 < a ∧ b1 / 64 = 2) ∧ (2 < a ∧ b2 / 64 = 2) ∧ (3 < a ∧ b3 / 64 = 2)
    · rw [if_pos ⟨by omega, d⟩]
      by_cases f : ¬ (b0 = 240 ∧ b1 < 144) ∧ ¬ (b0 = 244 ∧ 143 < b1)
      · rw [if_pos (show 4 ≤ a ∧ (128 ≤ b1 ∧ b1 ≤ 191) ∧ (128 ≤ b2 ∧ b2 ≤ 191) ∧ (128 ≤ b3 ∧ b3 ≤ 191) ∧ ¬ (b0 = 240 ∧ b1 < 144) ∧ ¬ (b0 = 244 ∧ 143 < b1) by omega), if_pos (by omega)]
        simp only [if_neg (show ¬ (4 = 0) by omega), if_neg (show ¬ (4 = 2) by omega), if_neg (show ¬ (4 = 3) by omega)]
        rw [show b0 % 8 * 262144 + b1 % 64 * 4096 + b2 % 64 * 64 + b3 % 64 = ((b0 % 8 * 64 + b1 % 64) * 64 + b2 % 64) * 64 + b3 % 64 by omega]
      · rw [if_neg (show ¬ (4 ≤ a ∧ (128 ≤ b1 ∧ b1 ≤ 191) ∧ (128 ≤ b2 ∧ b2 ≤ 191) ∧ (128 ≤ b3 ∧ b3 ≤ 191) ∧ ¬ (b0 = 240 ∧ b1 < 144) ∧ ¬ (b0 = 244 ∧ 143 < b1)) by omega), if_neg (by omega)]; rfl
    · rw [if_neg (fun h => d h.2), if_neg (show ¬ (4 ≤ a ∧ (128 ≤ b1 ∧ b1 ≤ 191) ∧ (128 ≤ b2 ∧ b2 ≤ 191) ∧ (128 ≤ b3 ∧ b3 ≤ 191) ∧ ¬ (b0 = 240 ∧ b1 < 144) ∧ ¬ (b0 = 244 ∧ 143 < b1)) by omega)]; rfl
  · unfold wideC
    rw [if_neg c1, if_neg c2, if_neg c3]
    by_cases d : b0 / 32 = 6 ∧ (1 < a ∧ b1 / 64 = 2)
    · rw [if_pos d, if_neg (by omega)]; rfl
    rw [if_neg d, if_neg (show ¬ (b0 / 16 = 14 ∧ (1 < a ∧ b1 / 64 = 2) ∧ (2 < a ∧ b2 / 64 = 2)) by omega)]
    by_cases f : b0 / 8 = 30 ∧ (1 < a ∧ b1 / 64 = 2) ∧ (2 < a ∧ b2 / 64 = 2) ∧ (3 < a ∧ b3 / 64 = 2)
    · rw [if_pos f, if_neg (by omega)]; rfl
    · rw [if_neg f]; rfl

theorem validN (n : Nat) : Utf8.valid (n : Int) = (decide (n < 55296) || (decide (57344 ≤ n) && decide (n ≤ 1114111))) := by
  unfold Utf8.valid
  rw [Bool.eq_iff_iff]
  simp only [Bool.and_eq_true, Bool.or_eq_true, decide_eq_true_eq]
  omega

set_option maxRecDepth 100000 in
theorem decode_eq (l : List UInt8) (p : Nat) (hp : p < l.length) : Utf8.decode (B l) p = runeM l p := by
  unfold runeM wideM
  rw [← decode_core (l.length - p) _ _ _ _ (bt_lt l p 0) (bt_lt l p 1) (bt_lt l p 2) (bt_lt l p 3)]
  have hb : ∀ k, ((B l).get! (p + k)).toNat = bt l p k := fun k => by rw [get_B]
  have hc : ∀ k, decide (p + k < (B l).size) = decide (k < l.length - p) := fun k => by rw [B_size]; apply decide_eq_decide.2; omega
  unfold Utf8.decode
  simp only [hb, hc, validN]
  generalize bt l p 0 = b0
  generalize bt l p 1 = b1
  generalize bt l p 2 = b2
  generalize bt l p 3 = b3
  generalize l.length - p = a
  simp only [Utf8.runeError, Bool.and_eq_true, Bool.or_eq_true, decide_eq_true_eq, beq_iff_eq, ge_iff_le, and_assoc]

theorem runeM_width (l : List UInt8) (p : Nat) : 1 ≤ (runeM l p).2 ∧ (runeM l p).2 ≤ 4 := by
  unfold runeM runeC
  repeat' split
  all_goals simp

theorem wideM_cases (l : List UInt8) (p : Nat) : wideM l p = 0 ∨ (wideM l p = 2 ∧ 194 ≤ bt l p 0 ∧ bt l p 0 ≤ 223 ∧ p + 2 ≤ l.length) ∨
    (wideM l p = 3 ∧ 224 ≤ bt l p 0 ∧ bt l p 0 ≤ 239 ∧ p + 3 ≤ l.length ∧ (128 ≤ bt l p 1 ∧ bt l p 1 ≤ 191) ∧ ¬ (bt l p 0 = 224 ∧ bt l p 1 < 160)) ∨
    (wideM l p = 4 ∧ 240 ≤ bt l p 0 ∧ bt l p 0 ≤ 244 ∧ p + 4 ≤ l.length ∧ (128 ≤ bt l p 1 ∧ bt l p 1 ≤ 191) ∧ ¬ (bt l p 0 = 240 ∧ bt l p 1 < 144)) := by
  unfold wideM wideC
  repeat' split
  all_goals omega

/-- a rune that a name may have has two bytes at most -/
theorem runeM_small {l : List UInt8} {p : Nat} (h : kindM ((runeM l p).1 : Nat) ≤ 3) : (runeM l p).2 ≤ 2 := by
  have hk : ((runeM l p).1 : Int) ≤ 969 := by
    unfold kindM at h
    repeat' split at h
    all_goals omega
  rcases wideM_cases l p with e | ⟨e, h1⟩ | ⟨e, h1, h2, h3, h4, h5⟩ | ⟨e, h1, h2, h3, h4, h5⟩
  · unfold runeM runeC
    repeat' split
    all_goals simp_all
  · unfold runeM runeC
    repeat' split
    all_goals simp_all
  · exfalso
    unfold runeM runeC at hk
    rw [e] at hk
    rw [if_neg (by omega), if_neg (by omega), if_neg (by omega), if_pos rfl] at hk
    simp only at hk
    omega
  · exfalso
    unfold runeM runeC at hk
    rw [e] at hk
    rw [if_neg (by omega), if_neg (by omega), if_neg (by omega), if_neg (by omega)] at hk
    simp only at hk
    omega

/-! ### the document's walk over a rune's bytes -/

section
variable {l : List UInt8} {p : Nat} {Post : AV → List AObj → Prop}

theorem btInt (hl : l.length ≤ 10 * big) (i : Nat) (hp : p + i < l.length) :
    IntKind.wrap .i64 ((p : Int) + (i : Int)) = ((p + i : Nat) : Int) := by
  unfold big at hl
  rw [wrap64 (by omega) (by omega)]; simp

theorem btGet (i : Nat) : ((List.getD (Array.toList (ByteArray.data (B l))) (p + i) 0).toNat : Int) = (bt l p i : Nat) := rfl

def nOf (b0 : Nat) : Nat := if 194 ≤ b0 ∧ b0 ≤ 223 then 2 else if 224 ≤ b0 ∧ b0 ≤ 239 then 3 else if 240 ≤ b0 ∧ b0 ≤ 244 then 4 else 0

theorem nOf_cases (b0 : Nat) : (nOf b0 = 2 ∧ 194 ≤ b0 ∧ b0 ≤ 223) ∨ (nOf b0 = 3 ∧ 224 ≤ b0 ∧ b0 ≤ 239) ∨ (nOf b0 = 4 ∧ 240 ≤ b0 ∧ b0 ≤ 244) ∨ (nOf b0 = 0 ∧ ¬ (194 ≤ b0 ∧ b0 ≤ 244)) := by
  unfold nOf
  repeat' split
  all_goals omega

theorem wide_short (h : l.length - p < nOf (bt l p 0) ∨ nOf (bt l p 0) = 0) : wideM l p = 0 := by
  have := nOf_cases (bt l p 0)
  unfold wideM wideC
  repeat' split
  all_goals omega

theorem wide_bad {i : Nat} (h1 : 1 ≤ i) (h2 : i < nOf (bt l p 0)) (h : bt l p i < 128 ∨ 191 < bt l p i) : wideM l p = 0 := by
  have := nOf_cases (bt l p 0)
  have hi : i = 1 ∨ i = 2 ∨ i = 3 := by omega
  unfold wideM wideC
  rcases hi with rfl | rfl | rfl <;> repeat' split
  all_goals omega

theorem wideC_no {a b0 b1 b2 b3 : Nat} (h : (b0 = 224 ∧ b1 < 160) ∨ (b0 = 237 ∧ 159 < b1) ∨ (b0 = 240 ∧ b1 < 144) ∨ (b0 = 244 ∧ 143 < b1)) : wideC a b0 b1 b2 b3 = 0 := by
  unfold wideC
  repeat' split
  all_goals omega

theorem wideC_yes {a n b0 b1 b2 b3 : Nat} (hcs : (n = 2 ∧ 194 ≤ b0 ∧ b0 ≤ 223) ∨ (n = 3 ∧ 224 ≤ b0 ∧ b0 ≤ 239) ∨ (n = 4 ∧ 240 ≤ b0 ∧ b0 ≤ 244)) (ha : n ≤ a) (hc1 : 128 ≤ b1 ∧ b1 ≤ 191) (hc2 : 2 < n → 128 ≤ b2 ∧ b2 ≤ 191) (hc3 : 3 < n → 128 ≤ b3 ∧ b3 ≤ 191)
    (k1 : ¬ (b0 = 224 ∧ b1 < 160)) (k2 : ¬ (b0 = 237 ∧ 159 < b1)) (k3 : ¬ (b0 = 240 ∧ b1 < 144)) (k4 : ¬ (b0 = 244 ∧ 143 < b1)) : wideC a b0 b1 b2 b3 = n := by
  unfold wideC
  rcases hcs with ⟨rfl, g1, g2⟩ | ⟨rfl, g1, g2⟩ | ⟨rfl, g1, g2⟩
  · rw [if_pos ⟨g1, g2⟩, if_pos ⟨ha, hc1⟩]
  · rw [if_neg (by omega), if_pos ⟨g1, g2⟩, if_pos ⟨ha, hc1, hc2 (by omega), k1, k2⟩]
  · rw [if_neg (by omega), if_neg (by omega), if_pos ⟨g1, g2⟩, if_pos ⟨ha, hc1, hc2 (by omega), hc3 (by omega), k3, k4⟩]

theorem w16 (hl : l.length ≤ 10 * big) (hn : nOf (bt l p 0) ≠ 0) (hp : p + nOf (bt l p 0) ≤ l.length) (hc : ∀ i, 1 ≤ i → i < nOf (bt l p 0) → 128 ≤ bt l p i ∧ bt l p i ≤ 191) (h : Post (.int .i64 (wideM l p : Nat)) []) :
    AWP Tryd.prog 96 0 c152_16 [(0, .str (B l)), (1, .int .i64 p), (5, .int .i64 (nOf (bt l p 0) : Nat)), (6, .int .i64 (bt l p 0 : Nat))] [] (q152_0 0 Post) := by
  have hcs := nOf_cases (bt l p 0)
  have h256 := bt_lt l p 1
  have e1 : IntKind.wrap .i64 ((p : Int) + 1) = ((p + 1 : Nat) : Int) := by unfold big at hl; rw [wrap64 (by omega) (by omega)]; simp
  have hc1 := hc 1 (by omega) (by omega)
  have hc2 : 2 < nOf (bt l p 0) → 128 ≤ bt l p 2 ∧ bt l p 2 ≤ 191 := hc 2 (by omega)
  have hc3 : 3 < nOf (bt l p 0) → 128 ≤ bt l p 3 ∧ bt l p 3 ≤ 191 := hc 3 (by omega)
  have hcs3 : (nOf (bt l p 0) = 2 ∧ 194 ≤ bt l p 0 ∧ bt l p 0 ≤ 223) ∨ (nOf (bt l p 0) = 3 ∧ 224 ≤ bt l p 0 ∧ bt l p 0 ≤ 239) ∨ (nOf (bt l p 0) = 4 ∧ 240 ≤ bt l p 0 ∧ bt l p 0 ≤ 244) := by omega
  have fin0 : (bt l p 0 = 224 ∧ bt l p 1 < 160) ∨ (bt l p 0 = 237 ∧ 159 < bt l p 1) ∨ (bt l p 0 = 240 ∧ bt l p 1 < 144) ∨ (bt l p 0 = 244 ∧ 143 < bt l p 1) → Post (.int .i64 0) [] := by
    intro hh
    have := wideC_no (a := l.length - p) (b2 := bt l p 2) (b3 := bt l p 3) hh
    unfold wideM at h
    rw [this] at h
    exact h
  have finn : ¬ (bt l p 0 = 224 ∧ bt l p 1 < 160) → ¬ (bt l p 0 = 237 ∧ 159 < bt l p 1) → ¬ (bt l p 0 = 240 ∧ bt l p 1 < 144) → ¬ (bt l p 0 = 244 ∧ 143 < bt l p 1) → Post (.int .i64 (nOf (bt l p 0) : Nat)) [] := by
    intro k1 k2 k3 k4
    have := wideC_yes (a := l.length - p) (b2 := bt l p 2) (b3 := bt l p 3) hcs3 (by omega) hc1 hc2 hc3 k1 k2 k3 k4
    unfold wideM at h
    rw [this] at h
    exact h
  have hn2 : 2 ≤ nOf (bt l p 0) := by omega
  clear hc hcs hcs3 hc2 hc3 h
  refine v152_16 _ _ _ _ _ _ ?_
  rw [e1, Int.toNat_natCast, btGet 1, wrapN (n := bt l p 1) (by omega)]
  refine needJ ⟨by omega, by rw [B_size]; omega⟩ ?_
  generalize nOf (bt l p 0) = n at *
  generalize bt l p 0 = b0 at *
  generalize bt l p 1 = b1 at *
  repeat' (first | refine condD (fun _ => ?_) fun _ => ?_ | refine condE (fun _ => ?_) fun _ => ?_)
  all_goals first
    | exact fin0 (by omega)
    | exact finn (by omega) (by omega) (by omega) (by omega)

theorem w12 (hl : l.length ≤ 10 * big) (hn : nOf (bt l p 0) ≠ 0) (hp : p + nOf (bt l p 0) ≤ l.length) (h : Post (.int .i64 (wideM l p : Nat)) []) :
    ∀ (m i : Nat), m + i = nOf (bt l p 0) → 1 ≤ i → (∀ j, 1 ≤ j → j < i → 128 ≤ bt l p j ∧ bt l p j ≤ 191) →
    AWP Tryd.prog 96 0 c152_12 [(0, .str (B l)), (1, .int .i64 p), (5, .int .i64 (nOf (bt l p 0) : Nat)), (6, .int .i64 (bt l p 0 : Nat)), (7, .int .i64 i)] [] (q152_2 0 Post) := by
  have hcs := nOf_cases (bt l p 0)
  intro m
  induction m with
  | zero =>
    intro i hm h1 hc
    refine v152_12 _ _ _ _ _ _ _ (condD (fun hi => by omega) fun _ => w16 hl hn hp (fun j a b => hc j a (by omega)) h)
  | succ m ih =>
    intro i hm h1 hc
    have e1 := btInt (p := p) hl i (by omega)
    refine v152_12 _ _ _ _ _ _ _ (condD (fun hi => ?_) fun hi => by omega)
    rw [e1, Int.toNat_natCast, btGet i]
    refine needJ ⟨by omega, by rw [B_size]; omega⟩ (condD (fun hb => ?_) fun hb => needJ ⟨by omega, by rw [B_size]; omega⟩ (condD (fun hb2 => ?_) fun hb2 => ?_))
    · rw [wide_bad (l := l) (p := p) h1 (by omega) (.inl (by omega))] at h; exact h
    · rw [wide_bad (l := l) (p := p) h1 (by omega) (.inr (by omega))] at h; exact h
    · rw [show IntKind.wrap .i64 ((i : Int) + 1) = ((i + 1 : Nat) : Int) by rw [wrap64 (by omega) (by omega)]; simp]
      refine ih (i + 1) (by omega) (by omega) (fun j a b => ?_)
      by_cases e : j = i
      · subst e; omega
      · exact hc j a (by omega)

theorem w9 (hl : l.length ≤ 10 * big) (hp : p < l.length) (h : Post (.int .i64 (wideM l p : Nat)) []) :
    AWP Tryd.prog 96 0 c152_9 [(0, .str (B l)), (1, .int .i64 p), (5, .int .i64 (nOf (bt l p 0) : Nat)), (6, .int .i64 (bt l p 0 : Nat))] [] (q152_0 0 Post) := by
  have hcs := nOf_cases (bt l p 0)
  have hl' := hl
  unfold big at hl'
  refine v152_9 _ _ _ _ _ _ (condE (fun e => ?_) fun e => ?_)
  · rw [wide_short (l := l) (p := p) (.inr (by omega))] at h; exact h
  rw [B_size, wrap64 (x := (l.length : Int) - (p : Int)) (by omega) (by omega)]
  refine condD (fun e2 => ?_) fun e2 => ?_
  · rw [wide_short (l := l) (p := p) (.inl (by omega))] at h; exact h
  · refine v152_11 _ _ _ _ _ _ ?_
    exact w12 hl (by omega) (by omega) h (nOf (bt l p 0) - 1) 1 (by omega) (by omega) (fun j a b => by omega)

theorem wide_spec0 (hl : l.length ≤ 10 * big) (hp : p < l.length) : ASpec Tryd.prog 152 [.str (B l), .int .i64 p] [] (fun r H' => r = .int .i64 (wideM l p : Nat) ∧ H' = []) := by
  have h256 := bt_lt l p 0
  have hcs := nOf_cases (bt l p 0)
  have k9 : ∀ n : Int, n = (nOf (bt l p 0) : Nat) → AWP Tryd.prog 96 0 c152_9 [(0, .str (B l)), (1, .int .i64 p), (5, .int .i64 n), (6, .int .i64 (bt l p 0 : Nat))] [] (q152_0 0 (fun r H' => r = .int .i64 (wideM l p : Nat) ∧ H' = [])) := by
    intro n e; subst e; exact w9 hl hp ⟨rfl, rfl⟩
  refine s152 _ _ _ (needJ ⟨by omega, by rw [B_size]; omega⟩ ?_)
  rw [Int.toNat_natCast, show ((List.getD (Array.toList (ByteArray.data (B l))) p 0).toNat : Int) = (bt l p 0 : Nat) from rfl, wrapN (n := bt l p 0) (by omega)]
  generalize nOf (bt l p 0) = n at *
  generalize bt l p 0 = b0 at *
  have k7 : ∀ m : Int, m = (if 240 ≤ b0 ∧ b0 ≤ 244 then m else (n : Int)) → AWP Tryd.prog 96 0 c152_7 [(0, .str (B l)), (1, .int .i64 p), (5, .int .i64 m), (6, .int .i64 (b0 : Nat))] [] (q152_0 0 (fun r H' => r = .int .i64 (wideM l p : Nat) ∧ H' = [])) := by
    intro m hm
    refine v152_7 _ _ _ _ _ _ (condD (fun _ => condD (fun _ => k9 _ (by omega)) fun _ => k9 _ ?_) fun _ => k9 _ ?_)
    · rw [if_neg (by omega)] at hm; exact hm
    · rw [if_neg (by omega)] at hm; exact hm
  have k5 : ∀ m : Int, m = (if 224 ≤ b0 ∧ b0 ≤ 244 then m else (n : Int)) → AWP Tryd.prog 96 0 c152_5 [(0, .str (B l)), (1, .int .i64 p), (5, .int .i64 m), (6, .int .i64 (b0 : Nat))] [] (q152_0 0 (fun r H' => r = .int .i64 (wideM l p : Nat) ∧ H' = [])) := by
    intro m hm
    refine v152_5 _ _ _ _ _ _ (condD (fun _ => condD (fun _ => k7 _ ?_) fun _ => k7 _ ?_) fun _ => k7 _ ?_)
    · rw [if_neg (by omega)]; omega
    · split
      · rfl
      · rw [if_neg (by omega)] at hm; exact hm
    · split
      · rfl
      · rw [if_neg (by omega)] at hm; exact hm
  refine condD (fun _ => condD (fun _ => k5 _ ?_) fun _ => k5 _ ?_) fun _ => k5 _ ?_
  · rw [if_neg (by omega)]; omega
  · split
    · rfl
    · omega
  · split
    · rfl
    · omega

theorem wide_spec (hl : l.length ≤ 10 * big) (hp : p < l.length) (H : List AObj) : ASpec Tryd.prog 152 [.str (B l), .int .i64 p] H (fun r H' => r = .int .i64 (wideM l p : Nat) ∧ H' = H) :=
  ASpec.pureH H (wide_spec0 hl hp) _ _ rfl rfl

end
end S
end

section
/- Which names may be: the code's walk and the document's. -/

set_option linter.unusedVariables false
set_option linter.unusedSimpArgs false
set_option maxRecDepth 100000
open Go Go.Ab Go.Proofs V
namespace S
theorem condBn {b : Bool} {A C : Prop} (h1 : b = false → A) (h2 : b = true → C) : condP (!b) A C := by cases b <;> simp_all [condP]
section
variable {l : List UInt8} {p : Nat}

def foldx (l : List UInt8) (p : Nat) : Nat → Nat → Nat → Nat
  | 0, _, x => x
  | m + 1, i, x => foldx l p m (i + 1) (x * 64 + bt l p i % 64)

theorem u12 {Post : AV → List AObj → Prop} (hl : l.length ≤ 10 * big) {n : Nat} (hn : n ≤ 4) (hp : p + n ≤ l.length) : ∀ (m i x : Nat), m + i = n → x < 64 ^ i → Post (.tup [.int .i64 (foldx l p m i x : Nat), .int .i64 n]) [] →
    AWP Tryd.prog 58 0 c142_12 [(0, .str (B l)), (1, .int .i64 p), (6, .int .i64 n), (7, .int .i64 x), (8, .int .i64 i)] [] (q142_2 0 Post) := by
  intro m
  induction m with
  | zero =>
    intro i x hm hx h
    exact v142_12 _ _ _ _ _ _ _ (condD (fun hi => by omega) fun _ => h)
  | succ m ih =>
    intro i x hm hx h
    have e1 := btInt (p := p) hl i (by omega)
    have h256 := bt_lt l p i
    have h4 : (64 : Nat) ^ i ≤ 64 ^ 4 := Nat.pow_le_pow_right (by omega) (by omega)
    have e4 : (64 : Nat) ^ 4 = 16777216 := by decide
    have hn := ih (i + 1) (x * 64 + bt l p i % 64) (by omega) (by rw [Nat.pow_succ]; omega) h
    refine v142_12 _ _ _ _ _ _ _ (condD (fun hi => ?_) fun hi => by omega)
    rw [e1, Int.toNat_natCast, btGet i]
    refine needJ ⟨by omega, by rw [B_size]; omega⟩ (needJ (by decide) ?_)
    generalize bt l p i = b at h256 hn ⊢
    have m64 : Int.tmod (b : Int) 64 = ((b % 64 : Nat) : Int) := tmodN b 64
    rw [wrapN (n := b) (by omega), m64, wrap64 (x := (x : Int) * 64) (by omega) (by omega), wrap64 (x := (x : Int) * 64 + ((b % 64 : Nat) : Int)) (by omega) (by omega)]
    rw [show IntKind.wrap .i64 ((i : Int) + 1) = ((i + 1 : Nat) : Int) by rw [wrap64 (by omega) (by omega)]; simp]
    rw [show (x : Int) * 64 + ((b % 64 : Nat) : Int) = ((x * 64 + b % 64 : Nat) : Int) by simp]
    exact hn

theorem rune_spec0 (hl : l.length ≤ 10 * big) (hp : p < l.length) :
    ASpec Tryd.prog 142 [.str (B l), .int .i64 p] [] (fun r H' => r = .tup [.int .i64 ((runeM l p).1 : Nat), .int .i64 ((runeM l p).2 : Nat)] ∧ H' = []) := by
  have h256 := bt_lt l p 0
  have hin : (0 : Int) ≤ (p : Int) ∧ (p : Int) < ((B l).size : Int) := ⟨by omega, by rw [B_size]; omega⟩
  have hcs := wideM_cases l p
  have hR : runeM l p = runeC (wideM l p) (bt l p 0) (bt l p 1) (bt l p 2) (bt l p 3) := rfl
  refine s142 _ _ _ (needJ hin ?_)
  rw [Int.toNat_natCast, show ((List.getD (Array.toList (ByteArray.data (B l))) p 0).toNat : Int) = (bt l p 0 : Nat) from rfl, wrapN (n := bt l p 0) (by omega)]
  have m32 : Int.tmod (bt l p 0 : Nat) 32 = ((bt l p 0 % 32 : Nat) : Int) := tmodN _ 32
  have m16 : Int.tmod (bt l p 0 : Nat) 16 = ((bt l p 0 % 16 : Nat) : Int) := tmodN _ 16
  have m8 : Int.tmod (bt l p 0 : Nat) 8 = ((bt l p 0 % 8 : Nat) : Int) := tmodN _ 8
  refine condD (fun hc => needJ hin ?_) fun hc => ?_
  · rw [hR, runeC, if_pos (by omega)]
    exact ⟨rfl, rfl⟩
  refine ASpec.call (wide_spec hl hp []) (Les.refl _) ⟨_, rfl, rfl, condE (fun h0 => ?_) fun h0 => needJ hin (needJ (by decide) ?_)⟩
  · rw [hR, runeC, if_neg (by omega), if_pos (by omega)]
    exact ⟨rfl, rfl⟩
  have key : ∀ (n x0 : Nat), n = wideM l p → x0 < 64 → foldx l p (n - 1) 1 x0 = (runeM l p).1 → n = (runeM l p).2 →
      AWP Tryd.prog 58 0 c142_11 [(0, .str (B l)), (1, .int .i64 p), (6, .int .i64 n), (7, .int .i64 x0)] [] (q142_0 0 (fun r H' => r = .tup [.int .i64 ((runeM l p).1 : Nat), .int .i64 ((runeM l p).2 : Nat)] ∧ H' = [])) := by
    intro n x0 hn hx e1 e2
    refine v142_11 _ _ _ _ _ _ (u12 hl (n := n) (by omega) (by omega) (n - 1) 1 x0 (by omega) hx ?_)
    rw [e1, e2]
    exact ⟨rfl, rfl⟩
  refine condE (fun h3 => needJ hin (needJ (by decide) ?_)) fun h3 => ?_
  · have hw : wideM l p = 3 := by omega
    rw [m16]
    refine v142_9 _ _ _ _ _ _ (condE (fun h => by omega) fun _ => key _ _ rfl (by omega) ?_ ?_)
    · rw [hR, runeC, if_neg (by omega), if_neg (by omega), if_neg (by omega), if_pos hw, hw]; rfl
    · rw [hR, runeC, if_neg (by omega), if_neg (by omega), if_neg (by omega), if_pos hw, hw]
  · rw [m32]
    refine v142_9 _ _ _ _ _ _ (condE (fun h => needJ hin (needJ (by decide) ?_)) fun h => key _ _ rfl (by omega) ?_ ?_)
    · have hw : wideM l p = 4 := by omega
      rw [Int.toNat_natCast, show ((List.getD (Array.toList (ByteArray.data (B l))) p 0).toNat : Int) = (bt l p 0 : Nat) from rfl, wrapN (n := bt l p 0) (by omega), m8]
      refine key _ _ rfl (by omega) ?_ ?_
      · rw [hR, runeC, if_neg (by omega), if_neg (by omega), if_neg (by omega), if_neg (by omega), hw]; rfl
      · rw [hR, runeC, if_neg (by omega), if_neg (by omega), if_neg (by omega), if_neg (by omega), hw]
    · have hw : wideM l p = 2 := by omega
      rw [hR, runeC, if_neg (by omega), if_neg (by omega), if_pos hw, hw]; rfl
    · have hw : wideM l p = 2 := by omega
      rw [hR, runeC, if_neg (by omega), if_neg (by omega), if_pos hw, hw]

theorem rune_spec (hl : l.length ≤ 10 * big) (hp : p < l.length) (H : List AObj) :
    ASpec Tryd.prog 142 [.str (B l), .int .i64 p] H (fun r H' => r = .tup [.int .i64 ((runeM l p).1 : Nat), .int .i64 ((runeM l p).2 : Nat)] ∧ H' = H) :=
  ASpec.pureH H (rune_spec0 hl hp) _ _ rfl rfl

/-! ### all runes -/

def runesF : Nat → List UInt8 → Nat → List Int
  | 0, _, _ => []
  | f + 1, l, p => if p < l.length then ((runeM l p).1 : Int) :: runesF f l (p + (runeM l p).2) else []
def runesM (l : List UInt8) : List Int := runesF l.length l 0

theorem leAppI {l : List Int} {x : Int} {H : List AObj} : Le (.sl 1 (.app (.map encI 0 l) (.raw [[.int .i64 x]])) (.tok 1)) (AV.ren (selR [1] H.length) (.sl 1 (.map encI 0 (l ++ [x])) (.tok 0))) := by
  refine Le.sl ?_ (.inl rfl) (.inl rfl)
  simp [Ab.Seq.toList, Seq.ren, encI, renL, AV.ren]

theorem runes3 {Post : AV → List AObj → Prop} (hl : l.length ≤ 1000000) : ∀ (f p : Nat) (acc : List Int), l.length - p ≤ f → acc.length ≤ p → p ≤ l.length + 4 → Post (.sl 1 (.map encI 0 (acc ++ runesF f l p)) (.tok 0)) [.tok] →
    AWP Tryd.prog 25 0 c114_3 [(0, .str (B l)), (3, .sl 1 (.map encI 0 acc) (.tok 0)), (4, .int .i64 p)] [.tok] (q114_2 0 Post) := by
  intro f
  induction f with
  | zero =>
    intro p acc hf ha hp h
    refine v114_3 _ _ _ _ _ (condD (fun hc => by rw [B_size] at hc; omega) fun _ => ?_)
    simpa [runesF] using h
  | succ f ih =>
    intro p acc hf ha hp h
    refine v114_3 _ _ _ _ _ (condD (fun hc => ?_) fun hc => ?_)
    · rw [B_size] at hc
      have hpl : p < l.length := by omega
      have hw := runeM_width l p
      refine ASpec.call (rune_spec (by unfold big; omega) hpl _) (Les.refl _) ⟨(((runeM l p).1 : Int), ((runeM l p).2 : Int)), rfl, rfl, needJ (by omega) ?_⟩
      rw [show IntKind.wrap .i64 ((p : Int) + ((runeM l p).2 : Int)) = ((p + (runeM l p).2 : Nat) : Int) by rw [wrap64 (by omega) (by omega)]; simp]
      refine AWP.shape [1] [(0, .str (B l)), (3, .sl 1 (.map encI 0 (acc ++ [((runeM l p).1 : Int)])) (.tok 0)), (4, .int .i64 (p + (runeM l p).2 : Nat))] _ selTok ⟨rfl, Le.refl _, rfl, leAppI, rfl, Le.refl _, trivial⟩ (ih (p + (runeM l p).2) (acc ++ [((runeM l p).1 : Int)]) (by omega) (by simp; omega) (by omega) ?_)
      simp only [runesF, if_pos hpl] at h
      simpa using h
    · rw [B_size] at hc
      simp only [runesF, if_neg (show ¬ p < l.length by omega)] at h
      simpa using h

theorem runes_spec (hl : l.length ≤ 1000000) (H : List AObj) : ASpec Tryd.prog 114 [.str (B l)] H (fun r H' => r = .sl 1 (.map encI 0 (runesM l)) .none ∧ H' = H) := by
  have k : ASpec Tryd.prog 114 [.str (B l)] [] (fun r H' => r = .sl 1 (.map encI 0 (runesM l)) .none ∧ H' = []) := by
    refine ASpec.sel (s114 _ _ ?_)
    refine AWP.re (ReSt.tok (k := 3) (q' := .map encI 0 []) (sz' := 1) (s2 := [(0, .str (B l)), (3, .sl 1 (.map encI 0 []) (.tok 0)), (4, .int .i64 0)]) rfl (.inl rfl) rfl (.inr rfl) (fun d hd => ?_) rfl) ?_
    · simp only [Ab.get]
      have e : Nat.beq 3 d = false := by
        cases hx : Nat.beq 3 d with
        | false => rfl
        | true => exact absurd (Nat.eq_of_beq_eq_true hx).symm hd
      rw [e]; rfl
    · refine runes3 hl l.length 0 [] (by omega) (by simp) (by omega) ?_
      refine ⟨[], [], .sl 1 (.map encI 0 (runesM l)) .none, Sel.none, ?_, rfl, rfl⟩
      exact Le.sl (s' := Seq.ren _ (.map encI 0 (runesM l))) (by simp [Ab.Seq.toList, Seq.ren, encI, renL, AV.ren, runesM]) (.inl rfl) (.inr rfl)
  exact ASpec.pureH H k _ _ rfl rfl

/-! ### names -/

def fitF (n : Nat) : List Int → Bool
  | [] => decide (0 < n)
  | c :: r => if 3 < kindM c ∨ (n = 0 ∧ 1 < kindM c) ∨ n = 12 then false else fitF (n + 1) r

def fitM (l : List UInt8) : Bool := fitF 0 (runesM l)

theorem fit3 {Post : AV → List AObj → Prop} (hl : l.length ≤ 10 * big) : ∀ (f p n : Nat), l.length - p ≤ f → n ≤ 12 → (∀ q, Post (.bool (fitF n (runesF f l p))) [.siter (B l) q]) →
    AWP Tryd.prog 32 0 c50_3 [(3, .int .i64 n), (8, .ptr 0 0)] [.siter (B l) p] (q50_2 0 Post) := by
  intro f
  induction f with
  | zero =>
    intro p n hf hn h
    refine v50_3 _ _ _ _ _ (condD (fun hc => by rw [B_size] at hc; omega) fun _ => ?_)
    have := h p
    simp only [runesF, fitF] at this
    rw [show decide ((n : Int) > 0) = decide (0 < n) from decide_eq_decide.2 (by omega)]
    exact this
  | succ f ih =>
    intro p n hf hn h
    refine v50_3 _ _ _ _ _ (condD (fun hc => ?_) fun hc => ?_)
    · rw [B_size] at hc
      rw [decode_eq l p hc]
      have hw := runeM_width l p
      simp only [runesF, if_pos hc, fitF] at h
      refine ASpec.call (kind_spec _ _) (Les.refl _) ⟨_, rfl, rfl, ?_⟩
      generalize kindM ((runeM l p).1 : Nat) = k at h ⊢
      have no : (3 < k ∨ (n = 0 ∧ 1 < k) ∨ n = 12) → Post (.bool false) [.siter (B l) (p + (runeM l p).2)] := by
        intro hh
        have := h (p + (runeM l p).2)
        rw [if_pos hh] at this
        exact this
      have yes : ¬ (3 < k ∨ (n = 0 ∧ 1 < k) ∨ n = 12) → AWP Tryd.prog 32 0 c50_3 [(3, .int .i64 (IntKind.wrap .i64 ((n : Int) + 1))), (8, .ptr 0 0)] [.siter (B l) (p + (runeM l p).2)] (q50_2 0 Post) := by
        intro hh
        rw [show IntKind.wrap .i64 ((n : Int) + 1) = ((n + 1 : Nat) : Int) by rw [wrap64 (by omega) (by omega)]; simp]
        refine ih (p + (runeM l p).2) (n + 1) (by omega) (by omega) (fun q => ?_)
        have := h q
        rw [if_neg hh] at this
        exact this
      refine condD (fun h1 => no (.inl h1)) fun h1 => condE (fun h2 => condD (fun h3 => no (.inr (.inl ⟨by omega, h3⟩))) fun h3 => condE (fun h4 => no (.inr (.inr (by omega)))) fun h4 => yes (by omega)) fun h2 => condE (fun h4 => no (.inr (.inr (by omega)))) fun h4 => yes (by omega)
    · rw [B_size] at hc
      have := h p
      simp only [runesF, if_neg hc, fitF] at this
      rw [show decide ((n : Int) > 0) = decide (0 < n) from decide_eq_decide.2 (by omega)]
      exact this

theorem fit_spec (hl : l.length ≤ 10 * big) (H : List AObj) : ASpec Tryd.prog 50 [.str (B l)] H (fun r H' => r = .bool (fitM l) ∧ H' = H) := by
  have k : ASpec Tryd.prog 50 [.str (B l)] [] (fun r H' => r = .bool (fitM l) ∧ H' = []) := by
    refine ASpec.sel (s50 _ _ (fit3 hl l.length 0 0 (by omega) (by omega) (fun q => ⟨[], [], .bool (fitM l), Sel.none, Le.refl _, rfl, rfl⟩)))
  exact ASpec.pureH H k _ _ rfl rfl

theorem fitF_short (hl : True) : ∀ (f p n : Nat), l.length - p ≤ f → n ≤ 12 → fitF n (runesF f l p) = true → l.length - p ≤ 2 * (12 - n) := by
  intro f
  induction f with
  | zero => intro p n hf hn h; omega
  | succ f ih =>
    intro p n hf hn h
    by_cases hc : p < l.length
    · simp only [runesF, if_pos hc, fitF] at h
      split at h
      · cases h
      rename_i hh
      have hw := runeM_small (l := l) (p := p) (by omega)
      have := ih (p + (runeM l p).2) (n + 1) (by have := runeM_width l p; omega) (by omega) h
      omega
    · omega

theorem fitM_short (h : fitM l = true) : l.length ≤ 24 := by
  have := fitF_short (l := l) trivial l.length 0 0 (by omega) (by omega) h
  omega

/-- the document's: by places in a list -/
def fitD (i : Nat) : List Int → Bool
  | [] => true
  | c :: r => if kindM c = 4 ∨ (i = 0 ∧ 1 < kindM c) then false else fitD (i + 1) r

theorem fitF_fitD : ∀ (r : List Int) (i : Nat), i ≤ 12 → fitF i r = (fitD i r && decide (1 ≤ i + r.length) && decide (i + r.length ≤ 12))
  | [], i, hi => by
    simp only [fitF, fitD, List.length_nil, Nat.add_zero, Bool.true_and]
    rw [Bool.eq_iff_iff]; simp; omega
  | c :: r, i, hi => by
    have hk := kindM_range c
    simp only [fitF, fitD, List.length_cons]
    by_cases h1 : kindM c = 4 ∨ (i = 0 ∧ 1 < kindM c)
    · rw [if_pos h1, if_pos (by omega)]; rfl
    · rw [if_neg h1]
      by_cases h2 : i = 12
      · rw [if_pos (by omega)]
        rw [Bool.eq_iff_iff]; simp; omega
      · rw [if_neg (by omega), fitF_fitD r (i + 1) (by omega), show i + 1 + r.length = i + (r.length + 1) by omega]

theorem rfit5 {ls : List Int} {Post : AV → List AObj → Prop} (hl : ls.length ≤ 1000000) : ∀ (m i : Nat), m + i = ls.length → Post (.bool (fitD i (ls.drop i) && (decide (1 ≤ ls.length) && decide (ls.length ≤ 12)))) [] →
    AWP Tryd.prog 42 0 c59_5 [(3, .sl 1 (.map encI 0 ls) .none), (4, .int .i64 i)] [] (q59_2 0 Post) := by
  intro m
  induction m with
  | zero =>
    intro i hm h
    refine v59_5 _ _ _ _ (condD (fun hc => by omega) fun _ => ?_)
    rw [List.drop_eq_nil_of_le (by omega)] at h
    simp only [fitD, Bool.true_and] at h
    refine condD (fun h1 => ?_) fun h1 => ?_
    · rw [decide_eq_true (show 1 ≤ ls.length by omega), Bool.true_and] at h
      rw [show decide ((ls.length : Int) ≤ 12) = decide (ls.length ≤ 12) from decide_eq_decide.2 (by omega)]
      exact h
    · rw [decide_eq_false (show ¬ 1 ≤ ls.length by omega), Bool.false_and] at h
      exact h
  | succ m ih =>
    intro i hm h
    refine v59_5 _ _ _ _ (condD (fun hc => needJ ⟨by omega, by omega⟩ ?_) fun hc => by omega)
    rw [Int.toNat_natCast]
    have hg : ls.drop i = ls.getD i 0 :: ls.drop (i + 1) := by
      rw [List.drop_eq_getElem_cons (by omega)]
      simp [List.getD, List.getElem?_eq_getElem (show i < ls.length by omega)]
    rw [hg] at h
    simp only [fitD] at h
    generalize ls.getD i 0 = c at h ⊢
    have hn : ¬ (kindM c = 4 ∨ (i = 0 ∧ 1 < kindM c)) → AWP Tryd.prog 42 0 c59_5 [(3, .sl 1 (.map encI 0 ls) .none), (4, .int .i64 (IntKind.wrap .i64 ((i : Int) + 1)))] [] (q59_2 0 Post) := by
      intro hh
      rw [if_neg hh] at h
      rw [show IntKind.wrap .i64 ((i : Int) + 1) = ((i + 1 : Nat) : Int) by rw [wrap64 (by omega) (by omega)]; simp]
      exact ih (i + 1) (by omega) h
    have hy : (kindM c = 4 ∨ (i = 0 ∧ 1 < kindM c)) → Post (.bool false) [] := by
      intro hh
      rw [if_pos hh] at h
      simpa using h
    refine ASpec.call (rkind_spec c []) (Les.refl _) ⟨_, rfl, rfl, condE (fun h1 => hy (.inl h1)) fun h1 => condE (fun h2 => needJ ⟨by omega, by omega⟩ ?_) fun h2 => hn (by omega)⟩
    refine ASpec.call (rkind_spec c []) (Les.refl _) ⟨_, rfl, rfl, condD (fun h3 => hy (.inr ⟨by omega, h3⟩)) fun h3 => hn (by omega)⟩

theorem runesF_len : ∀ (f p : Nat), (runesF f l p).length ≤ f
  | 0, p => by simp [runesF]
  | f + 1, p => by
    simp only [runesF]
    split
    · have := runesF_len f (p + (runeM l p).2)
      simp; omega
    · simp

theorem rfit_spec (hl : l.length ≤ 10 * big) (H : List AObj) : ASpec Tryd.prog 59 [.str (B l)] H (fun r H' => r = .bool (fitM l) ∧ H' = H) := by
  have k : ASpec Tryd.prog 59 [.str (B l)] [] (fun r H' => r = .bool (fitM l) ∧ H' = []) := by
    refine s59 _ _ ?_
    rw [B_size]
    refine condD (fun h1 => ?_) fun h1 => ?_
    · have : fitM l = false := by
        cases h : fitM l with
        | false => rfl
        | true => have := fitM_short h; omega
      rw [this]; exact ⟨rfl, rfl⟩
    · have hlen := runesF_len (l := l) l.length 0
      refine ASpec.call (runes_spec (by omega) []) (Les.refl _) ⟨_, rfl, rfl, rfit5 (ls := runesM l) (by unfold runesM; omega) (runesM l).length 0 (by omega) ?_⟩
      unfold fitM
      rw [fitF_fitD _ 0 (by omega), List.drop_zero, Nat.zero_add, Bool.and_assoc]
      exact ⟨rfl, rfl⟩
  exact ASpec.pureH H k _ _ rfl rfl

end
end S
end

section
/- Which spans, needs and manifests may be: the code's walks and the document's. -/

set_option linter.unusedVariables false
set_option linter.unusedSimpArgs false
set_option maxRecDepth 100000
open Go Go.Ab Go.Proofs V S T
namespace C

/-- the answer c, whatever lies in the heap -/
abbrev PB (c : Bool) : AV → List AObj → Prop := fun r H' => ∃ l H2 r2, Sel 0 l H' H2 ∧ Le r (AV.ren (selR l H'.length) r2) ∧ (r2 = .bool c ∧ H2 = [])
theorem pb {b c : Bool} {H' : List AObj} (h : b = c) : PB c (.bool b) H' := ⟨[], [], .bool c, Sel.none, h ▸ Le.refl _, rfl, rfl⟩

theorem dropD {α : Type} (l : List α) (d : α) (i : Nat) (h : i < l.length) : l.drop i = l.getD i d :: l.drop (i + 1) := by
  rw [List.drop_eq_getElem_cons h]
  simp [List.getD, List.getElem?_eq_getElem h]

theorem memD {α : Type} (l : List α) (d : α) (i : Nat) (h : i < l.length) : l.getD i d ∈ l := by
  simp [List.getD, List.getElem?_eq_getElem h]

theorem succ64 {i : Nat} (h : i ≤ 10000000) : IntKind.wrap .i64 ((i : Int) + 1) = ((i + 1 : Nat) : Int) := by rw [wrap64 (by omega) (by omega)]; simp
theorem pred64 {i : Nat} (h : i ≤ 10000000) (h1 : 0 < i) : IntKind.wrap .i64 ((i : Int) - 1) = ((i - 1 : Nat) : Int) := by rw [wrap64 (by omega) (by omega)]; omega

abbrev lim : Nat := 1000000

/-! ### spans -/

def chkS (e : Int) : List Span → Bool
  | [] => true
  | x :: r => if x.1 ≤ e ∨ x.2 ≤ x.1 ∨ 1000000000 < x.2 then false else chkS x.2 r
def spanOk (l : List Span) : Bool := chkS (-1) l

theorem chk3 {l : List Span} {c : Bool} (hl : l.length ≤ lim) : ∀ (m i : Nat) (e : Int), m + i = l.length → chkS e (l.drop i) = c →
    AWP Tryd.prog 31 0 c51_3 [(3, .int .i64 e), (6, .sl 2 (.map encS (0, 0) l) .none), (7, .int .i64 l.length), (8, .int .i64 i)] [] (q51_2 0 (PB c)) := by
  intro m
  induction m with
  | zero =>
    intro i e hm h
    refine v51_3 _ _ _ _ _ _ (condD (fun hc => by omega) fun _ => pb ?_)
    rw [List.drop_eq_nil_of_le (by omega)] at h
    exact h
  | succ m ih =>
    intro i e hm h
    rw [dropD l (0, 0) i (by omega)] at h
    simp only [chkS] at h
    refine v51_3 _ _ _ _ _ _ (condD (fun hc => needJ ⟨by omega, by omega⟩ ?_) fun hc => by omega)
    rw [Int.toNat_natCast]
    generalize l.getD i (0, 0) = x at h ⊢
    refine condD (fun h1 => pb ?_) fun h1 => condD (fun h2 => pb ?_) fun h2 => condD (fun h3 => pb ?_) fun h3 => ?_
    · rw [if_pos (.inl h1)] at h; exact h
    · rw [if_pos (.inr (.inl h2))] at h; exact h
    · rw [if_pos (.inr (.inr h3))] at h; exact h
    · rw [if_neg (by omega)] at h
      rw [succ64 (by unfold lim at hl; omega)]
      exact AWP.shape [] [(3, .int .i64 x.2), (6, .sl 2 (.map encS (0, 0) l) .none), (7, .int .i64 l.length), (8, .int .i64 (i + 1 : Nat))] [] Sel.none ⟨rfl, Le.refl _, rfl, Le.refl _, rfl, Le.refl _, rfl, Le.refl _, trivial⟩ (ih (i + 1) x.2 (by omega) h)

theorem spanCheck_spec (l : List Span) (hl : l.length ≤ lim) (H : List AObj) : ASpec Tryd.prog 51 [.sl 2 (.map encS (0, 0) l) .none] H (fun r H' => r = .bool (spanOk l) ∧ H' = H) :=
  ASpec.pureH H (ASpec.sel (s51 _ _ (chk3 hl l.length 0 (-1) (by omega) rfl))) _ _ rfl rfl

theorem rchk2 {l : List Span} {c : Bool} (hl : l.length ≤ lim) : ∀ (m i : Nat) (e : Int), m + i = l.length → (i = 0 → e = -1) → (0 < i → e = (l.getD (i - 1) (0, 0)).2 ∧ 0 ≤ e) → chkS e (l.drop i) = c →
    AWP Tryd.prog 55 0 c60_2 [(0, .sl 2 (.map encS (0, 0) l) .none), (3, .int .i64 i)] [] (q60_2 0 (PB c)) := by
  intro m
  induction m with
  | zero =>
    intro i e hm _ _ h
    refine v60_2 _ _ _ _ (condD (fun hc => by omega) fun _ => pb ?_)
    rw [List.drop_eq_nil_of_le (by omega)] at h
    exact h
  | succ m ih =>
    intro i e hm h0 he h
    have hin : (0 : Int) ≤ (i : Int) ∧ (i : Int) < (l.length : Int) := ⟨by omega, by omega⟩
    rw [dropD l (0, 0) i (by omega)] at h
    simp only [chkS] at h
    have hnext : ∀ x, x = l.getD i (0, 0) → ¬ (x.1 ≤ e ∨ x.2 ≤ x.1 ∨ 1000000000 < x.2) → AWP Tryd.prog 55 0 c60_2 [(0, .sl 2 (.map encS (0, 0) l) .none), (3, .int .i64 (IntKind.wrap .i64 ((i : Int) + 1)))] [] (q60_2 0 (PB c)) := by
      intro x hx hn
      rw [← hx, if_neg hn] at h
      rw [succ64 (by unfold lim at hl; omega)]
      have hge : -1 ≤ e := by
        rcases Nat.eq_zero_or_pos i with z | z
        · have := h0 z; omega
        · have := he z; omega
      exact ih (i + 1) x.2 (by omega) (fun hh => by omega) (fun _ => ⟨by rw [hx]; rfl, by omega⟩) h
    have hbad : ∀ x, x = l.getD i (0, 0) → (x.1 ≤ e ∨ x.2 ≤ x.1 ∨ 1000000000 < x.2) → PB c (.bool false) [] := by
      intro x hx hh
      rw [← hx, if_pos hh] at h
      exact pb h
    refine v60_2 _ _ _ _ (condD (fun hc => needJ hin ?_) fun hc => by omega)
    rw [Int.toNat_natCast]
    generalize hx : l.getD i (0, 0) = x at h ⊢
    refine condD (fun h1 => hbad x hx.symm (.inl ?_)) fun h1 => needJ hin (condD (fun h2 => hbad x hx.symm (.inr (.inr h2))) fun h2 => needJ hin (needJ hin (condD (fun h3 => hbad x hx.symm (.inr (.inl h3))) fun h3 => condD (fun h4 => needJ hin (needJ ?_ (condD (fun h5 => hbad x hx.symm (.inl ?_)) fun h5 => hnext x hx.symm ?_))) fun h4 => hnext x hx.symm ?_)))
    · rcases Nat.eq_zero_or_pos i with z | z
      · have := h0 z; omega
      · have := he z; omega
    · rw [pred64 (by unfold lim at hl; omega) (by omega)]; omega
    · rw [pred64 (by unfold lim at hl; omega) (by omega), Int.toNat_natCast] at h5
      have := he (by omega); omega
    · rw [pred64 (by unfold lim at hl; omega) (by omega), Int.toNat_natCast] at h5
      have := he (by omega); omega
    · have := h0 (by omega); omega

theorem rspanCheck_spec (l : List Span) (hl : l.length ≤ lim) (H : List AObj) : ASpec Tryd.prog 60 [.sl 2 (.map encS (0, 0) l) .none] H (fun r H' => r = .bool (spanOk l) ∧ H' = H) :=
  ASpec.pureH H (ASpec.sel (s60 _ _ (rchk2 hl l.length 0 (-1) (by omega) (fun _ => rfl) (fun h => by omega) rfl))) _ _ rfl rfl

/-! ### needs -/

/-! ### manifests -/

/-! ### are they large? -/

end C
end

section
/- Sets of places as spans: plain laws. -/

set_option linter.unusedVariables false
set_option linter.unusedSimpArgs false
open Go Go.Ab Go.Proofs V S T C
namespace Sp

def inS (s : Span) (p : Int) : Bool := decide (s.1 ≤ p ∧ p < s.2)
def hasS (l : List Span) (p : Int) : Bool := l.any (fun s => inS s p)

theorem hasS_nil (p : Int) : hasS [] p = false := rfl
theorem hasS_cons (x : Span) (l : List Span) (p : Int) : hasS (x :: l) p = (inS x p || hasS l p) := rfl
theorem hasS_append (a b : List Span) (p : Int) : hasS (a ++ b) p = (hasS a p || hasS b p) := by simp [hasS]
theorem inS_iff {s : Span} {p : Int} : inS s p = true ↔ s.1 ≤ p ∧ p < s.2 := by simp [inS]
theorem inS_false {s : Span} {p : Int} : inS s p = false ↔ ¬ (s.1 ≤ p ∧ p < s.2) := by simp [inS]

theorem chkS_cons {e : Int} {x : Span} {r : List Span} (h : chkS e (x :: r) = true) : e < x.1 ∧ x.1 < x.2 ∧ x.2 ≤ 1000000000 ∧ chkS x.2 r = true := by
  simp only [chkS] at h
  split at h
  · cases h
  · exact ⟨by omega, by omega, by omega, h⟩
theorem chkS_mk {e : Int} {x : Span} {r : List Span} (h1 : e < x.1) (h2 : x.1 < x.2) (h3 : x.2 ≤ 1000000000) (h4 : chkS x.2 r = true) : chkS e (x :: r) = true := by
  simp only [chkS]
  rw [if_neg (by omega)]; exact h4
theorem chkS_low : ∀ {e : Int} {l : List Span} {p : Int}, chkS e l = true → p ≤ e → hasS l p = false
  | _, [], _, _, _ => rfl
  | e, x :: r, p, h, hp => by
    obtain ⟨h1, h2, h3, h4⟩ := chkS_cons h
    rw [hasS_cons, chkS_low h4 (by omega), inS_false.2 (by omega)]; rfl
theorem chkS_top : ∀ {e : Int} {l : List Span} {p : Int}, chkS e l = true → 1000000000 ≤ p → hasS l p = false
  | _, [], _, _, _ => rfl
  | e, x :: r, p, h, hp => by
    obtain ⟨h1, h2, h3, h4⟩ := chkS_cons h
    rw [hasS_cons, chkS_top h4 hp, inS_false.2 (by omega)]; rfl
/-- sets that have the same places are one -/
theorem ext : ∀ {a b : List Span} {e e' : Int}, chkS e a = true → chkS e' b = true → (∀ p, hasS a p = hasS b p) → a = b
  | [], [], _, _, _, _, _ => rfl
  | [], y :: t, _, _, _, hb, h => by
    obtain ⟨h1, h2, h3, h4⟩ := chkS_cons hb
    have := h y.1
    rw [hasS_cons, inS_iff.2 (by omega)] at this
    cases this
  | x :: r, [], _, _, ha, _, h => by
    obtain ⟨h1, h2, h3, h4⟩ := chkS_cons ha
    have := h x.1
    rw [hasS_cons, inS_iff.2 (by omega)] at this
    cases this
  | x :: r, y :: t, e, e', ha, hb, h => by
    obtain ⟨a1, a2, a3, a4⟩ := chkS_cons ha
    obtain ⟨b1, b2, b3, b4⟩ := chkS_cons hb
    have key : ∀ p, p ≤ x.2 → p ≤ y.2 → inS x p = inS y p := by
      intro p h1 h2
      have := h p
      rw [hasS_cons, hasS_cons, chkS_low a4 h1, chkS_low b4 h2, Bool.or_false, Bool.or_false] at this
      exact this
    have f1 : x.1 = y.1 := by
      by_cases h1 : x.1 < y.1
      · have := key x.1 (by omega) (by omega)
        rw [inS_iff.2 (by omega), eq_comm, inS_iff] at this; omega
      · by_cases h2 : y.1 < x.1
        · have := key y.1 (by omega) (by omega)
          rw [eq_comm, inS_iff.2 (by omega), eq_comm, inS_iff] at this; omega
        · omega
    have f2 : x.2 = y.2 := by
      by_cases h1 : x.2 < y.2
      · have := key x.2 (by omega) (by omega)
        rw [eq_comm, inS_iff.2 (by omega), eq_comm, inS_iff] at this; omega
      · by_cases h2 : y.2 < x.2
        · have := key y.2 (by omega) (by omega)
          rw [inS_iff.2 (by omega), eq_comm, inS_iff] at this; omega
        · omega
    have hxy : x = y := Prod.ext f1 f2
    subst hxy
    rw [ext a4 b4 (fun p => ?_)]
    by_cases hp : p ≤ x.2
    · rw [chkS_low a4 hp, chkS_low b4 hp]
    · have := h p
      rw [hasS_cons, hasS_cons, inS_false.2 (by omega), Bool.false_or, Bool.false_or] at this
      exact this

/-! ### one more span behind -/

/-- the last span's end; 'e' of none -/
def lastS (e : Int) : List Span → Int
  | [] => e
  | x :: r => lastS x.2 r
theorem lastS_append (e : Int) (x : Span) : ∀ (l : List Span) (e : Int), lastS e (l ++ [x]) = x.2
  | [], e => rfl
  | y :: r, e => lastS_append e x r y.2
theorem chkS_append : ∀ {l : List Span} {e : Int} {x : Span}, chkS e l = true → lastS e l < x.1 → x.1 < x.2 → x.2 ≤ 1000000000 → chkS e (l ++ [x]) = true
  | [], e, x, _, h1, h2, h3 => chkS_mk h1 h2 h3 rfl
  | y :: r, e, x, h, h1, h2, h3 => by
    obtain ⟨a1, a2, a3, a4⟩ := chkS_cons h
    exact chkS_mk a1 a2 a3 (chkS_append a4 h1 h2 h3)
theorem chkS_front : ∀ {l : List Span} {e : Int} {x : Span}, chkS e (l ++ [x]) = true → chkS e l = true ∧ lastS e l < x.1 ∧ x.1 < x.2 ∧ x.2 ≤ 1000000000
  | [], e, x, h => by
    obtain ⟨a1, a2, a3, a4⟩ := chkS_cons h
    exact ⟨rfl, a1, a2, a3⟩
  | y :: r, e, x, h => by
    obtain ⟨a1, a2, a3, a4⟩ := chkS_cons h
    obtain ⟨b1, b2, b3, b4⟩ := chkS_front a4
    exact ⟨chkS_mk a1 a2 a3 b1, b2, b3, b4⟩

/-- what add does -/
def addS (l : List Span) (s : Span) : List Span :=
  if 0 < l.length ∧ s.1 ≤ (l.getD (l.length - 1) (0, 0)).2 then l.take (l.length - 1) ++ [((l.getD (l.length - 1) (0, 0)).1, max (l.getD (l.length - 1) (0, 0)).2 s.2)] else l ++ [s]

theorem split_last (l : List Span) (h : 0 < l.length) : l = l.take (l.length - 1) ++ [l.getD (l.length - 1) (0, 0)] := by
  have h1 := List.take_append_drop (l.length - 1) l
  rw [dropD l (0, 0) (l.length - 1) (by omega), List.drop_eq_nil_of_le (by omega)] at h1
  exact h1.symm

/-- a set that ends no later than a place, and one more span from there on -/
theorem addS_ok {l : List Span} {at_ to : Int} (h : chkS (-1) l = true) (he : lastS (-1) l ≤ at_) (h0 : 0 ≤ at_) (h1 : at_ < to) (h2 : to ≤ 1000000000) :
    chkS (-1) (addS l (at_, to)) = true ∧ lastS (-1) (addS l (at_, to)) = to ∧ ∀ p, hasS (addS l (at_, to)) p = (hasS l p || inS (at_, to) p) := by
  unfold addS
  split
  · rename_i hc
    have hl := split_last l hc.1
    generalize l.take (l.length - 1) = r at hl ⊢
    generalize l.getD (l.length - 1) (0, 0) = x at hl hc ⊢
    subst hl
    rw [lastS_append (-1)] at he
    obtain ⟨a1, a2, a3, a4⟩ := chkS_front h
    have hx : max x.2 to = to := by omega
    have hxa : x.2 = at_ := by have := hc.2; simp only at this; omega
    simp only [hx]
    refine ⟨chkS_append a1 a2 (by simp only; omega) h2, lastS_append (-1) _ _ _, fun p => ?_⟩
    rw [hasS_append, hasS_append, hasS_cons, hasS_cons, hasS_nil, Bool.or_false, Bool.or_false, Bool.or_assoc]
    congr 1
    rw [Bool.eq_iff_iff, Bool.or_eq_true, inS_iff, inS_iff, inS_iff]
    simp only; omega
  · rename_i hc
    refine ⟨chkS_append h ?_ h1 h2, lastS_append (-1) _ _ _, fun p => ?_⟩
    · cases hz : l with
      | nil => simp only [lastS]; omega
      | cons y t =>
        have hpos : 0 < l.length := by rw [hz]; simp
        have hl := split_last l hpos
        have : lastS (-1) l = (l.getD (l.length - 1) (0, 0)).2 := by
          conv => lhs; rw [hl]
          exact lastS_append (-1) _ _ _
        rw [← hz, this]
        simp only [hpos, true_and, Int.not_le] at hc
        exact hc
    · rw [hasS_append, hasS_cons, hasS_nil, Bool.or_false]

/-! ### where a set changes -/

/-- how many spans end at a place, or ahead of it -/
def aftS (p : Int) : List Span → Nat
  | [] => 0
  | x :: r => if x.2 ≤ p then aftS p r + 1 else 0
theorem aftS_le (p : Int) : ∀ l : List Span, aftS p l ≤ l.length
  | [] => Nat.le_refl _
  | x :: r => by
    simp only [aftS]
    split
    · have := aftS_le p r; simp; omega
    · simp
theorem aftS_lt (p : Int) : ∀ (l : List Span) (i : Nat), i < aftS p l → (l.getD i (0, 0)).2 ≤ p
  | [], i, h => by simp [aftS] at h
  | x :: r, i, h => by
    simp only [aftS] at h
    split at h
    · rename_i hx
      match i, h with
      | 0, _ => exact hx
      | i + 1, h => exact aftS_lt p r i (by omega)
    · omega
theorem chkS_rise : ∀ {l : List Span} {e : Int}, chkS e l = true → ∀ i, i < l.length → e < (l.getD i (0, 0)).1 ∧ (l.getD i (0, 0)).1 < (l.getD i (0, 0)).2 ∧ (l.getD i (0, 0)).2 ≤ 1000000000 ∧ ∀ j, j < i → (l.getD j (0, 0)).2 < (l.getD i (0, 0)).1
  | [], e, _, i, hi => by simp at hi
  | x :: r, e, h, i, hi => by
    obtain ⟨a1, a2, a3, a4⟩ := chkS_cons h
    match i, hi with
    | 0, _ => exact ⟨a1, a2, a3, fun j hj => by omega⟩
    | i + 1, hi =>
      obtain ⟨b1, b2, b3, b4⟩ := chkS_rise a4 i (by simpa using hi)
      simp only [List.getD_cons_succ]
      refine ⟨by omega, b2, b3, fun j hj => ?_⟩
      match j, hj with
      | 0, _ => exact b1
      | j + 1, hj => exact b4 j (by omega)
theorem aftS_at (p : Int) : ∀ (l : List Span), aftS p l < l.length → p < (l.getD (aftS p l) (0, 0)).2
  | [], h => by simp at h
  | x :: r, h => by
    simp only [aftS] at h ⊢
    split
    · rename_i hx
      rw [if_pos hx] at h
      exact aftS_at p r (by simpa using h)
    · rename_i hx
      simp only [List.getD_cons_zero]; omega
theorem aftS_ge {l : List Span} {e p : Int} (hs : chkS e l = true) {i : Nat} (h : aftS p l ≤ i) (hi : i < l.length) : p < (l.getD i (0, 0)).2 := by
  have h0 := aftS_at p l (by omega)
  rcases Nat.eq_or_lt_of_le h with e1 | e1
  · rw [← e1]; exact h0
  · obtain ⟨_, h2, _, h4⟩ := chkS_rise hs i hi
    have := h4 _ e1
    omega

theorem hasS_aft : ∀ {l : List Span} {e : Int} {p : Int}, chkS e l = true → (hasS l p = true ↔ aftS p l < l.length ∧ (l.getD (aftS p l) (0, 0)).1 ≤ p)
  | [], e, p, _ => by simp [hasS]
  | x :: r, e, p, h => by
    obtain ⟨a1, a2, a3, a4⟩ := chkS_cons h
    rw [hasS_cons, Bool.or_eq_true]
    by_cases hx : x.2 ≤ p
    · have e1 : aftS p (x :: r) = aftS p r + 1 := by simp only [aftS, if_pos hx]
      rw [e1, hasS_aft a4, inS_iff]
      simp only [List.length_cons, List.getD_cons_succ, Nat.add_lt_add_iff_right]
      constructor
      · rintro (h | h)
        · omega
        · exact h
      · exact .inr
    · have e1 : aftS p (x :: r) = 0 := by simp only [aftS, if_neg hx]
      rw [e1, inS_iff]
      simp only [List.length_cons, List.getD_cons_zero]
      constructor
      · rintro (h | h)
        · exact ⟨by omega, h.1⟩
        · by_cases h1 : x.1 ≤ p
          · exact ⟨by omega, h1⟩
          · rw [chkS_low a4 (by omega)] at h; cases h
      · rintro ⟨_, h1⟩; exact .inl ⟨h1, by omega⟩

/-- where the set changes next -/
def nextS (l : List Span) (p : Int) : Int :=
  if aftS p l = l.length then 1000000000 else if p < (l.getD (aftS p l) (0, 0)).1 then (l.getD (aftS p l) (0, 0)).1 else (l.getD (aftS p l) (0, 0)).2

theorem nextS_gt {l : List Span} {e p : Int} (hs : chkS e l = true) (hp : p < 1000000000) : p < nextS l p ∧ nextS l p ≤ 1000000000 := by
  unfold nextS
  split
  · exact ⟨hp, Int.le_refl _⟩
  · rename_i h
    have := aftS_le p l
    obtain ⟨h1, h2, h3, _⟩ := chkS_rise hs (aftS p l) (by omega)
    have h0 := aftS_at p l (by omega)
    split
    · omega
    · omega

theorem nextS_same : ∀ {l : List Span} {e p q : Int}, chkS e l = true → p ≤ q → q < nextS l p → hasS l q = hasS l p
  | [], e, p, q, _, _, _ => rfl
  | x :: r, e, p, q, h, h1, h2 => by
    obtain ⟨a1, a2, a3, a4⟩ := chkS_cons h
    rw [hasS_cons, hasS_cons]
    by_cases hx : x.2 ≤ p
    · have e2 : nextS (x :: r) p = nextS r p := by
        simp only [nextS, aftS, if_pos hx, List.length_cons, List.getD_cons_succ, Nat.add_right_cancel_iff]
      rw [e2] at h2
      rw [nextS_same a4 h1 h2, inS_false.2 (by omega), inS_false.2 (by omega)]
    · have e2 : nextS (x :: r) p = if p < x.1 then x.1 else x.2 := by
        simp only [nextS, aftS, if_neg hx, List.length_cons, List.getD_cons_zero]
        rw [if_neg (by omega)]
      rw [e2] at h2
      rw [chkS_low a4 (show p ≤ x.2 by omega)]
      split at h2
      · rw [chkS_low a4 (show q ≤ x.2 by omega), inS_false.2 (by omega), inS_false.2 (by omega)]
      · rw [chkS_low a4 (show q ≤ x.2 by omega), inS_iff.2 (by omega), inS_iff.2 (by omega)]

/-! ### the set of what a function keeps -/

/-- l has just what f keeps, below a place -/
def Kept (f : Int → Bool) (at_ : Int) (l : List Span) : Prop := chkS (-1) l = true ∧ lastS (-1) l ≤ at_ ∧ ∀ p, hasS l p = (decide (0 ≤ p ∧ p < at_) && f p)

theorem kept_nil (f : Int → Bool) : Kept f 0 [] := ⟨rfl, by simp [lastS], fun p => by
  rw [hasS_nil, decide_eq_false (by omega)]; rfl⟩

theorem kept_put {f : Int → Bool} {at_ to : Int} {l : List Span} (h : Kept f at_ l) (h0 : 0 ≤ at_) (h1 : at_ < to) (h2 : to ≤ 1000000000) (hf : ∀ q, at_ ≤ q → q < to → f q = true) : Kept f to (addS l (at_, to)) := by
  obtain ⟨a, b, c⟩ := h
  obtain ⟨x, y, z⟩ := addS_ok a b h0 h1 h2
  refine ⟨x, by omega, fun p => ?_⟩
  rw [z, c]
  by_cases hp : at_ ≤ p ∧ p < to
  · rw [inS_iff.2 hp, Bool.or_true, hf p hp.1 hp.2, decide_eq_true (by omega)]; rfl
  · rw [inS_false.2 hp, Bool.or_false]
    congr 1
    rw [Bool.eq_iff_iff, decide_eq_true_iff, decide_eq_true_iff]; omega
theorem kept_skip {f : Int → Bool} {at_ to : Int} {l : List Span} (h : Kept f at_ l) (h1 : at_ ≤ to) (hf : ∀ q, at_ ≤ q → q < to → f q = false) : Kept f to l := by
  obtain ⟨a, b, c⟩ := h
  refine ⟨a, by omega, fun p => ?_⟩
  rw [c]
  by_cases hp : at_ ≤ p ∧ p < to
  · rw [hf p hp.1 hp.2]; simp
  · congr 1
    rw [Bool.eq_iff_iff, decide_eq_true_iff, decide_eq_true_iff]; omega
theorem kept_one {f : Int → Bool} {l l' : List Span} (h : Kept f 1000000000 l) (h' : Kept f 1000000000 l') : l = l' := ext h.1 h'.1 (fun p => by rw [h.2.2, h'.2.2])
end Sp
end

section
/- Printed: what the code of functions  asks for, by the framework's own reading of it; each line is checked against the code. -/

set_option linter.unusedVariables false
set_option maxRecDepth 100000
set_option maxHeartbeats 4000000
open Go Go.Ab Go.Proofs
namespace W
noncomputable section

end
end W
end

section
/- Manifests as bytes: what the code puts, and the document. -/

set_option linter.unusedVariables false
set_option linter.unusedSimpArgs false
set_option maxRecDepth 100000
open Go Go.Ab Go.Proofs V S T C
namespace W

def text (s : List UInt8) : List UInt8 := enc (held s.length) ++ s
section
variable {Post : AV → List AObj → Prop}

noncomputable abbrev slS (l : List Span) : AV := .sl 2 (.map encS (0, 0) l) .none

/-! ### the document's -/

end
end W
end

section
/- Manifests out of bytes: what the code reads. -/

set_option linter.unusedVariables false
set_option linter.unusedSimpArgs false
set_option maxRecDepth 100000
open Go Go.Ab Go.Proofs V S T C
namespace W

/-! ### the model -/

/-! ### the walk -/

section
variable {bs : List UInt8} {p : Nat} {e : Int}

theorem leAppT {α : Type} {en : α → List AV} {d : α} (hr : ∀ ρ x, renL ρ (en x) = en x) {acc : List α} {x : α} {sz k j : Nat} {ρ : Nat → Nat} {ex : List AV} (hx : ex = en x) (hk : ρ j = k) :
    Le (.sl sz (.app (.map en d acc) (.raw [ex])) (.tok k)) (AV.ren ρ (.sl sz (.map en d (acc ++ [x])) (.tok j))) := by
  subst hk; subst hx
  refine Le.sl (s' := Seq.ren ρ (.map en d (acc ++ [x]))) ?_ (.inl rfl) (.inl rfl)
  simp [Ab.Seq.toList, Seq.ren, hr]

theorem leNone {α : Type} {en : α → List AV} {d : α} (hr : ∀ ρ x, renL ρ (en x) = en x) {acc : List α} {sz : Nat} {tip : Tip} {ρ : Nat → Nat} :
    Le (.sl sz (.map en d acc) tip) (AV.ren ρ (.sl sz (.map en d acc) .none)) :=
  Le.sl (s' := Seq.ren ρ (.map en d acc)) (by simp [Ab.Seq.toList, Seq.ren, hr]) (.inl rfl) (.inr rfl)

theorem renS (ρ : Nat → Nat) (x : Span) : renL ρ (encS x) = encS x := rfl
end

end W
end

section
/- WirePuts: the bytes of any manifest, and the manifest of any bytes, or what is wrong first, are the document's: the law's function returns true. -/

set_option linter.unusedVariables false
set_option linter.unusedSimpArgs false
set_option maxRecDepth 100000
open Go Go.Ab Go.Proofs V S T C
namespace W

/-! ### the document's model -/

/-! ### it is the code's -/

/-! ### the document's walk -/

section
variable {Post : AV → List AObj → Prop}

/-! ### are they alike? -/

theorem cons_dec {α : Type} [DecidableEq α] (x y : α) (a b : List α) : decide (x :: a = y :: b) = (decide (x = y) && decide (a = b)) := by
  rw [Bool.eq_iff_iff]; simp

/-! ### the law -/

end
end W
end

section
/- Sets of places: what the code and the document's code compute. -/

set_option linter.unusedVariables false
set_option linter.unusedSimpArgs false
set_option maxRecDepth 100000
open Go Go.Ab Go.Proofs V S T C
open W (slS leNone cons_dec renS)
open Sp
namespace Sg

abbrev PA (r0 : AV) : AV → List AObj → Prop := fun r H' => ∃ l H2 r2, Sel 0 l H' H2 ∧ Le r (AV.ren (selR l H'.length) r2) ∧ (r2 = r0 ∧ H2 = [])
theorem pa {r r0 : AV} {H' : List AObj} (h : Le r (AV.ren (selR [] H'.length) r0)) : PA r0 r H' := ⟨[], [], r0, Sel.none, h, rfl, rfl⟩
theorem condNq {a b : Bool} {A B : Prop} (h1 : a ≠ b → A) (h2 : a = b → B) : condP (!(a == b)) A B := by
  by_cases h : a = b
  · rw [beq_iff_eq.2 h]; exact h2 h
  · rw [beq_eq_false_iff_ne.2 h]; exact h1 h
theorem condQ {a b : Bool} {A B : Prop} (h1 : a = b → A) (h2 : a ≠ b → B) : condP (a == b) A B := by
  by_cases h : a = b
  · rw [beq_iff_eq.2 h]; exact h1 h
  · rw [beq_eq_false_iff_ne.2 h]; exact h2 h

abbrev ok (l : List Span) : Prop := chkS (-1) l = true

theorem chkS_len : ∀ {l : List Span} {e : Int}, chkS e l = true → (l.length : Int) ≤ lastS e l - e
  | [], e, _ => by simp [lastS]
  | x :: r, e, h => by
    obtain ⟨h1, h2, h3, h4⟩ := chkS_cons h
    have := chkS_len h4
    simp only [lastS, List.length_cons]; omega
theorem lastS_top : ∀ {l : List Span} {e : Int}, chkS e l = true → e ≤ 1000000000 → lastS e l ≤ 1000000000
  | [], e, _, h => h
  | x :: r, e, h, _ => by
    obtain ⟨h1, h2, h3, h4⟩ := chkS_cons h
    simp only [lastS]
    exact lastS_top h4 h3
theorem ok_len {l : List Span} (h : ok l) : l.length ≤ 1000000001 := by
  have h1 := chkS_len h
  have h2 := lastS_top h (by omega)
  omega

theorem suc64 {i : Nat} (h : i ≤ 100000000000) : IntKind.wrap .i64 ((i : Int) + 1) = ((i + 1 : Nat) : Int) := by rw [wrap64 (by omega) (by omega)]; simp
theorem pre64 {i : Nat} (h : i ≤ 100000000000) (h1 : 0 < i) : IntKind.wrap .i64 ((i : Int) - 1) = ((i - 1 : Nat) : Int) := by rw [wrap64 (by omega) (by omega)]; omega
theorem mid64 {i j : Nat} (h : i + j ≤ 100000000000) : IntKind.wrap .i64 (Int.fdiv (IntKind.wrap .u64 (IntKind.wrap .i64 ((i : Int) + j))) 2) = (((i + j) / 2 : Nat) : Int) := by
  rw [wrap64 (x := (i : Int) + j) (by omega) (by omega)]
  have e : IntKind.wrap .u64 ((i : Int) + j) = ((i + j : Nat) : Int) := by
    simp only [IntKind.wrap, IntKind.bits, IntKind.signed]
    have e : (2 : Int) ^ 64 = 18446744073709551616 := by decide
    simp only [e, Bool.false_and]
    rw [if_neg (by simp)]
    omega
  rw [e, show Int.fdiv ((i + j : Nat) : Int) 2 = (((i + j) / 2 : Nat) : Int) by rw [Int.fdiv_eq_ediv_of_nonneg _ (by omega)]; omega]
  rw [wrap64 (by omega) (by omega)]

/-! ### where a place stands -/

theorem aftf_spec (x : Span) (p : Int) (H : List AObj) : ASpec Tryd.prog 141 [.agg (encS x), .int .i64 p] H (fun r H' => r = .int .i64 (if x.2 ≤ p then -1 else 1) ∧ H' = H) := by
  have k : ASpec Tryd.prog 141 [.agg (encS x), .int .i64 p] [] (fun r H' => r = .int .i64 (if x.2 ≤ p then -1 else 1) ∧ H' = []) :=
    ASpec.sel (s141 _ _ _ (condD (fun h => pa (by rw [if_pos h]; exact Le.refl _)) fun h => pa (by rw [if_neg h]; exact Le.refl _)))
  exact ASpec.pureH H k _ _ rfl rfl

theorem bsf3 {l : List Span} {p : Int} (hs : ok l) : ∀ (m i j : Nat), j - i ≤ m → i ≤ aftS p l → aftS p l ≤ j → j ≤ l.length →
    AWP Tryd.prog 49 0 c140_3 [(0, slS l), (1, .int .i64 p), (2, .fn 141 []), (8, .int .i64 l.length), (9, .int .i64 i), (10, .int .i64 j)] []
      (q140_2 0 (PA (.tup [.int .i64 (aftS p l : Nat), .bool false]))) := by
  have hl := ok_len hs
  have done : ∀ i : Nat, i = aftS p l → condP (decide ((i : Int) < (l.length : Int))) (needP (0 ≤ (i : Int) ∧ (i : Int) < (l.length : Int)) (ASpec Tryd.prog 141 [.agg (encS (l.getD (i : Int).toNat (0, 0))), .int .i64 p] []
      (fun r H' => ∃ x : Int, r = .int .i64 x ∧ H' = [] ∧ PA (.tup [.int .i64 (aftS p l : Nat), .bool false]) (.tup [.int .i64 i, .bool (x == 0)]) [])))
      (PA (.tup [.int .i64 (aftS p l : Nat), .bool false]) (.tup [.int .i64 i, .bool false]) []) := by
    rintro i rfl
    refine condD (fun h => needJ ⟨by omega, h⟩ ?_) fun h => pa (Le.refl _)
    refine ASpec.call (aftf_spec _ p _) (Les.refl _) ⟨_, rfl, rfl, pa ?_⟩
    have e : ((if (l.getD ((aftS p l : Nat) : Int).toNat (0, 0)).2 ≤ p then (-1 : Int) else 1) == 0) = false := by split <;> rfl
    rw [e]; exact Le.refl _
  intro m
  induction m with
  | zero =>
    intro i j h1 h2 h3 h4
    exact v140_3 _ _ _ _ _ _ _ (condD (fun hc => by omega) fun _ => done i (by omega))
  | succ m ih =>
    intro i j h1 h2 h3 h4
    refine v140_3 _ _ _ _ _ _ _ (condD (fun hc => needJ (by omega) ?_) fun _ => done i (by omega))
    rw [mid64 (by omega)]
    have hm1 : i ≤ (i + j) / 2 := by omega
    have hm2 : (i + j) / 2 < j := by omega
    refine needJ ⟨by omega, by omega⟩ ?_
    generalize (i + j) / 2 = h at hm1 hm2 ⊢
    rw [Int.toNat_natCast]
    refine ASpec.call (aftf_spec _ p _) (Les.refl _) ⟨_, rfl, rfl, ?_⟩
    by_cases hc : (l.getD h (0, 0)).2 ≤ p
    · rw [if_pos hc]
      refine condD (fun _ => ?_) fun hc => by omega
      rw [suc64 (by omega)]
      refine ih (h + 1) j (by omega) ?_ h3 h4
      rcases Nat.lt_or_ge h (aftS p l) with hk | hk
      · omega
      · have := aftS_ge hs hk (by omega); omega
    · rw [if_neg hc]
      refine condD (fun hc => by omega) fun _ => ?_
      refine ih i h (by omega) h2 ?_ (by omega)
      rcases Nat.lt_or_ge h (aftS p l) with hk | hk
      · exact (hc (aftS_lt p l h hk)).elim
      · exact hk

theorem after_spec (l : List Span) (p : Int) (hs : ok l) (H : List AObj) : ASpec Tryd.prog 113 [slS l, .int .i64 p] H (fun r H' => r = .int .i64 (aftS p l : Nat) ∧ H' = H) := by
  have k : ASpec Tryd.prog 113 [slS l, .int .i64 p] [] (fun r H' => r = .int .i64 (aftS p l : Nat) ∧ H' = []) := by
    have k2 : ASpec Tryd.prog 140 [slS l, .int .i64 p, .fn 141 []] [] (fun r H' => r = .tup [.int .i64 (aftS p l : Nat), .bool false] ∧ H' = []) :=
      ASpec.sel (s140 _ _ _ (bsf3 hs l.length 0 l.length (by omega) (by omega) (aftS_le p l) (by omega)))
    exact s113 _ _ _ (ASpec.call k2 (Les.refl _) ⟨(((aftS p l : Nat) : Int), false), rfl, rfl, rfl, rfl⟩)
  exact ASpec.pureH H k _ _ rfl rfl

theorem has_spec (l : List Span) (p : Int) (hs : ok l) (H : List AObj) : ASpec Tryd.prog 66 [slS l, .int .i64 p] H (fun r H' => r = .bool (hasS l p) ∧ H' = H) := by
  have k : ASpec Tryd.prog 66 [slS l, .int .i64 p] [] (fun r H' => r = .bool (hasS l p) ∧ H' = []) := by
    have e := hasS_aft (p := p) hs
    refine s66 _ _ _ (ASpec.call (after_spec l p hs _) (Les.refl _) ⟨_, rfl, rfl, condD (fun h => needJ ⟨by omega, h⟩ ⟨?_, rfl⟩) fun h => ⟨?_, rfl⟩⟩)
    · rw [Int.toNat_natCast]
      congr 1
      rw [Bool.eq_iff_iff, e, decide_eq_true_iff]
      exact ⟨fun h2 => ⟨by omega, h2⟩, fun h2 => h2.2⟩
    · congr 1
      symm
      cases hx : hasS l p with
      | false => rfl
      | true => have := (e.1 hx).1; omega
  exact ASpec.pureH H k _ _ rfl rfl

theorem next_spec (l : List Span) (p : Int) (hs : ok l) (H : List AObj) : ASpec Tryd.prog 138 [slS l, .int .i64 p] H (fun r H' => r = .int .i64 (nextS l p) ∧ H' = H) := by
  have k : ASpec Tryd.prog 138 [slS l, .int .i64 p] [] (fun r H' => r = .int .i64 (nextS l p) ∧ H' = []) := by
    have hle := aftS_le p l
    refine s138 _ _ _ (ASpec.call (after_spec l p hs _) (Les.refl _) ⟨_, rfl, rfl, condE (fun h => ⟨?_, rfl⟩) fun h => needJ ⟨by omega, by omega⟩ ?_⟩)
    · rw [nextS, if_pos (by omega)]
    · rw [Int.toNat_natCast]
      refine condD (fun h2 => needJ ⟨by omega, by omega⟩ ⟨?_, rfl⟩) fun h2 => needJ ⟨by omega, by omega⟩ ⟨?_, rfl⟩
      · rw [nextS, if_neg (by omega), if_pos (by omega)]
      · rw [nextS, if_neg (by omega), if_neg (by omega)]
  exact ASpec.pureH H k _ _ rfl rfl

/-! ### one more span -/

noncomputable abbrev arS (o : List Span) : AObj := .arr 2 (.map encS (0, 0) o)

theorem add_nil (s : Span) (H : List AObj) : ASpec Tryd.prog 139 [.sl 0 (.raw []) .nil, .agg (encS s)] H (fun r H' => r = .msl 2 H.length 0 1 ∧ H' = H ++ [arS [s]]) := by
  have k : ASpec Tryd.prog 139 [.sl 0 (.raw []) .nil, .agg (encS s)] [] (fun r H' => r = .msl 2 0 0 1 ∧ H' = [arS [s]]) := by
    refine ASpec.arrEnd (ASpec.sel (s139n _ _ (needJ (by omega) (needJ (by omega) ?_))))
    refine ⟨[1], [.arr 2 (.raw [encS s])], .msl 2 0 0 1, Sel.one 1 rfl rfl, Le.refl _, 0, 2, .raw [encS s], .map encS (0, 0) [s], rfl, rfl, rfl, rfl⟩
  exact ASpec.anyH H k _ _ _ rfl rfl rfl

theorem sel01 {a b : AObj} (h : AObj.ren (selR [0] 2) a = a := by rfl) : Sel 1 [0] [a, b] [a] := by
  refine ⟨by decide, rfl, Nat.le_refl _, fun i hi => ?_, fun i hi => .inl ?_⟩
  · match i, hi with
    | 0, _ => rfl
  · match i, hi with
    | 0, _ => simp [h]

theorem add_mem (o : List Span) (s : Span) (ho : o.length ≤ 2000000000) :
    ASpec Tryd.prog 139 [.msl 2 0 0 o.length, .agg (encS s)] [arS o] (fun r H' => (r = .msl 2 0 0 (addS o s).length ∧ H' = [arS (addS o s)] ∧ (addS o s).length = o.length) ∨ (r = .msl 2 1 0 (addS o s).length ∧ H' = [.gone, arS (addS o s)])) := by
  refine ASpec.sel (ASpec.arrEnd (s139m _ _ _ _ ?_))
  have app : ¬ (0 < o.length ∧ s.1 ≤ (o.getD (o.length - 1) (0, 0)).2) → ∃ id sz q q', ([.gone, .cells (encS s), .arr 2 (.app (.map encS (0, 0) o) (.raw [encS s]))] : List AObj)[id]? = some (.arr sz q) ∧ Seq.toList q' = q.toList ∧
      ∃ l H2 r2, Sel 1 l (([.gone, .cells (encS s), .arr 2 (.app (.map encS (0, 0) o) (.raw [encS s]))] : List AObj).set id (.arr sz q')) H2 ∧ Le (.msl 2 2 0 (o.length + 1)) (AV.ren (selR l (([.gone, .cells (encS s), .arr 2 (.app (.map encS (0, 0) o) (.raw [encS s]))] : List AObj).set id (.arr sz q')).length) r2) ∧
      ((r2 = .msl 2 0 0 (addS o s).length ∧ H2 = [arS (addS o s)] ∧ (addS o s).length = o.length) ∨ (r2 = .msl 2 1 0 (addS o s).length ∧ H2 = [.gone, arS (addS o s)])) := by
    intro hc
    have e : addS o s = o ++ [s] := by rw [addS, if_neg hc]
    refine ⟨2, 2, _, .map encS (0, 0) (o ++ [s]), rfl, by simp [Seq.toList], [0, 2], [.gone, arS (o ++ [s])], .msl 2 1 0 (o.length + 1), ?_, Le.refl _, .inr ⟨?_, ?_⟩⟩
    · refine ⟨by decide, rfl, by decide, fun i hi => ?_, fun i hi => ?_⟩
      · match i, hi with
        | 0, _ => rfl
      · match i, hi with
        | 0, _ => exact .inl rfl
        | 1, _ => exact .inl rfl
    · rw [e]; simp
    · rw [e]
  refine condD (fun h => ?_) fun h => ?_
  · by_cases hz : o.length = 0
    · rw [hz] at h
      have : IntKind.wrap .i64 (((0 : Nat) : Int) - 1) = -1 := by rw [wrap64 (by omega) (by omega)]; rfl
      rw [this] at h; omega
    rw [pre64 (by omega) (by omega), Int.toNat_natCast, Nat.zero_add]
    refine needJ ⟨by omega, by omega⟩ (needJ (by omega) (condD (fun h2 => needJ ⟨by omega, by omega⟩ (needJ (by omega) (needJ ⟨by omega, by omega⟩ (needJ (by omega) ?_)))) fun h2 => needJ ⟨rfl, by omega⟩ (app ?_)))
    · have e : addS o s = o.take (o.length - 1) ++ [((o.getD (o.length - 1) (0, 0)).1, max (o.getD (o.length - 1) (0, 0)).2 s.2)] := by rw [addS, if_pos ⟨by omega, h2⟩]
      have el : (addS o s).length = o.length := by rw [e]; simp; omega
      have em : (max (o.getD (o.length - 1) (0, 0)).2 s.2) = if s.2 > (o.getD (o.length - 1) (0, 0)).2 then s.2 else (o.getD (o.length - 1) (0, 0)).2 := by
        rw [Int.max_def]
        by_cases hx : s.2 > (o.getD (o.length - 1) (0, 0)).2
        · rw [if_pos hx, if_pos (by omega)]
        · rw [if_neg hx]
          by_cases hy : (o.getD (o.length - 1) (0, 0)).2 ≤ s.2
          · rw [if_pos hy]; omega
          · rw [if_neg hy]
      have es : o.set (o.length - 1) ((o.getD (o.length - 1) (0, 0)).1, max (o.getD (o.length - 1) (0, 0)).2 s.2) = addS o s := by
        rw [e, List.set_eq_take_append_cons_drop, if_pos (by omega), show o.length - 1 + 1 = o.length by omega, List.drop_length]
      refine ⟨0, 2, _, .map encS (0, 0) (addS o s), rfl, ?_, [0], [arS (addS o s)], .msl 2 0 0 o.length, sel01, Le.refl _, .inl ⟨by rw [el], rfl, el⟩⟩
      rw [← es, em]
      simp only [Seq.toList, List.map_set]
      rfl
    · rintro ⟨_, h3⟩; exact h2 h3
  · have hz : o.length = 0 := by
      by_cases hz : o.length = 0
      · exact hz
      · rw [pre64 (by omega) (by omega)] at h; omega
    exact needJ ⟨rfl, by omega⟩ (app (by omega))

/-! ### what two sets both have -/

abbrev andF (a b : List Span) (p : Int) : Bool := hasS a p && hasS b p

theorem and_next {a b : List Span} (ha : ok a) (hb : ok b) {p : Int} (hp : p < 1000000000) {to : Int} (ht : to = if nextS b p < nextS a p then nextS b p else nextS a p) :
    p < to ∧ to ≤ 1000000000 ∧ ∀ q, p ≤ q → q < to → andF a b q = andF a b p := by
  have h1 := nextS_gt ha hp
  have h2 := nextS_gt hb hp
  refine ⟨by rw [ht]; split <;> omega, by rw [ht]; split <;> omega, fun q hq1 hq2 => ?_⟩
  have hqa : q < nextS a p := by rw [ht] at hq2; split at hq2 <;> omega
  have hqb : q < nextS b p := by rw [ht] at hq2; split at hq2 <;> omega
  simp only [andF]
  rw [nextS_same ha hq1 hqa, nextS_same hb hq1 hqb]

theorem meet_ex {a b : List Span} (ha : ok a) (hb : ok b) : ∀ (m : Nat) (p : Int) (o : List Span), (1000000000 - p).toNat ≤ m → 0 ≤ p → p ≤ 1000000000 → Kept (andF a b) p o → ∃ o', Kept (andF a b) 1000000000 o'
  | 0, p, o, hm, h0, h1, hk => by
    have : p = 1000000000 := by omega
    subst this; exact ⟨o, hk⟩
  | m + 1, p, o, hm, h0, h1, hk => by
    by_cases hp : p < 1000000000
    · obtain ⟨n1, n2, n3⟩ := and_next ha hb hp rfl
      by_cases hf : andF a b p = true
      · exact meet_ex ha hb m _ _ (by omega) (by omega) n2 (kept_put hk h0 n1 n2 (fun q hq1 hq2 => by rw [n3 q hq1 hq2]; exact hf))
      · exact meet_ex ha hb m _ _ (by omega) (by omega) n2 (kept_skip hk (by omega) (fun q hq1 hq2 => by rw [n3 q hq1 hq2]; simpa using hf))
    · have : p = 1000000000 := by omega
      subst this; exact ⟨o, hk⟩

open Classical in
noncomputable def meetS (a b : List Span) : List Span := if h : ∃ o, Kept (andF a b) 1000000000 o then choose h else []
theorem meet_eq {a b o : List Span} (h : Kept (andF a b) 1000000000 o) : meetS a b = o := by
  have hex : ∃ o, Kept (andF a b) 1000000000 o := ⟨o, h⟩
  rw [meetS, dif_pos hex]
  exact kept_one (Classical.choose_spec hex) h
theorem meet_kept {a b : List Span} (ha : ok a) (hb : ok b) : Kept (andF a b) 1000000000 (meetS a b) := by
  obtain ⟨o, h⟩ := meet_ex ha hb 1000000000 0 [] (by omega) (by omega) (by omega) (kept_nil _)
  rw [meet_eq h]; exact h
theorem meet_ok {a b : List Span} (ha : ok a) (hb : ok b) : ok (meetS a b) := (meet_kept ha hb).1
theorem meet_has {a b : List Span} (ha : ok a) (hb : ok b) (p : Int) : hasS (meetS a b) p = (hasS a p && hasS b p) := by
  rw [(meet_kept ha hb).2.2]
  by_cases hp : 0 ≤ p ∧ p < 1000000000
  · rw [decide_eq_true hp]; rfl
  · rw [decide_eq_false hp, Bool.false_and]
    by_cases h0 : p ≤ -1
    · rw [chkS_low ha h0]; rfl
    · rw [chkS_top ha (by omega)]; rfl

theorem freezeS {n : Nat} {k : Nat} {o : List Span} (hn : n ≤ 1) : ReSt n [(k, .msl 2 0 0 o.length)] [arS o] [(k, slS o)] [.gone] := by
  refine ReSt.freeze (H := [arS o]) (id := 0) (sz := 2) (q := .map encS (0, 0) o) rfl hn (fun d => ?_)
  by_cases hd : d = k
  · subst hd
    refine .inr (.inr ⟨0, o.length, .map encS (0, 0) o, ?_, by simp [Seq.toList], ?_, by simp [Seq.toList, ← List.map_take]⟩)
    · simp [Ab.get]
    · simp [Ab.get]
  · left
    simp only [Ab.get]
    have e : Nat.beq k d = false := by
      cases hx : Nat.beq k d with
      | false => rfl
      | true => exact absurd (Nat.eq_of_beq_eq_true hx).symm hd
    rw [e]; rfl

theorem leS0 {ρ : Nat → Nat} : Le (.sl 0 (.raw []) .nil) (AV.ren ρ (slS [])) := Le.sl (s' := Seq.ren ρ (.map encS (0, 0) [])) rfl (.inr ⟨rfl, fun _ h => by cases h⟩) (.inr rfl)

theorem and_spec (x y : Bool) (H : List AObj) : ASpec Tryd.prog 110 [.bool x, .bool y] H (fun r H' => r = .bool (x && y) ∧ H' = H) :=
  ASpec.pureH (r0 := .bool (x && y)) H (s110 x y _ (condB (fun h => by rw [h]; exact ⟨rfl, rfl⟩) fun h => by rw [h]; exact ⟨rfl, rfl⟩)) _ _ rfl rfl

section
variable {a b : List Span} (ha : ok a) (hb : ok b)
include ha hb

theorem kept3m : ∀ (m : Nat) (p : Int) (o : List Span), (1000000000 - p).toNat ≤ m → 0 ≤ p → p ≤ 1000000000 → Kept (andF a b) p o →
    AWP Tryd.prog 34 0 c108_3 [(0, slS a), (1, slS b), (2, .fn 110 []), (7, .msl 2 0 0 o.length), (8, .int .i64 p)] [arS o] (q108_2 0 (PA (slS (meetS a b)))) := by
  have done : ∀ (p : Int) (o : List Span), ¬ p < 1000000000 → p ≤ 1000000000 → Kept (andF a b) p o → AWP Tryd.prog 34 0 c108_8 [(7, .msl 2 0 0 o.length)] [arS o] (q108_0 0 (PA (slS (meetS a b)))) := by
    intro p o h1 h2 hk
    have : p = 1000000000 := by omega
    subst this
    refine AWP.re (freezeS (by omega)) (AWP.shape [] [(7, slS o)] [] Sel.none ⟨rfl, Le.refl _, trivial⟩ (v108_8s _ _ _ (pa ?_)))
    rw [meet_eq hk]; exact Le.refl _
  intro m
  induction m with
  | zero =>
    intro p o hm h0 h1 hk
    exact v108_3m _ _ _ _ _ _ _ (condD (fun h => by omega) fun h => done p o h h1 hk)
  | succ m ih =>
    intro p o hm h0 h1 hk
    have hol := ok_len hk.1
    refine v108_3m _ _ _ _ _ _ _ (condD (fun hp => ?_) fun h => done p o h h1 hk)
    obtain ⟨n1, n2, n3⟩ := and_next ha hb hp rfl
    refine ASpec.call (next_spec a p ha _) (Les.refl _) ⟨_, rfl, rfl, ?_⟩
    refine ASpec.call (next_spec b p hb _) (Les.refl _) ⟨_, rfl, rfl, ?_⟩
    refine ASpec.call (has_spec a p ha _) (Les.refl _) ⟨_, rfl, rfl, ?_⟩
    refine ASpec.call (has_spec b p hb _) (Les.refl _) ⟨_, rfl, rfl, ?_⟩
    refine ASpec.call (and_spec _ _ _) (Les.refl _) ⟨_, rfl, rfl, ?_⟩
    generalize (if nextS b p < nextS a p then nextS b p else nextS a p) = to at n1 n2 n3 ⊢
    refine condB (fun hf => ?_) fun hf => ?_
    · have hk' := kept_put hk h0 n1 n2 (fun q hq1 hq2 => by rw [n3 q hq1 hq2]; exact hf)
      have nxt := ih to (addS o (p, to)) (by omega) (by omega) n2 hk'
      refine (add_mem o (p, to) (by omega)).mono fun r H' hh => .inr ?_
      rcases hh with ⟨e1, e2, e3⟩ | ⟨e1, e2⟩
      · subst e1 e2
        refine .inl ⟨addS o (p, to), by rw [e3], rfl, ?_⟩
        rw [e3] at nxt; exact nxt
      · subst e1 e2
        refine .inr ⟨addS o (p, to), rfl, rfl, ?_⟩
        exact AWP.shape [1] [(0, slS a), (1, slS b), (2, .fn 110 []), (7, .msl 2 0 0 (addS o (p, to)).length), (8, .int .i64 to)] [arS (addS o (p, to))] (Sel.one 1 rfl rfl)
          ⟨rfl, Le.refl _, rfl, Le.refl _, rfl, Le.refl _, rfl, Le.refl _, rfl, Le.refl _, trivial⟩ nxt
    · exact ih to o (by omega) (by omega) n2 (kept_skip hk (by omega) (fun q hq1 hq2 => by rw [n3 q hq1 hq2]; exact hf))

theorem kept3n : ∀ (m : Nat) (p : Int), (1000000000 - p).toNat ≤ m → 0 ≤ p → p ≤ 1000000000 → Kept (andF a b) p [] →
    AWP Tryd.prog 34 0 c108_3 [(0, slS a), (1, slS b), (2, .fn 110 []), (7, .sl 0 (.raw []) .nil), (8, .int .i64 p)] [] (q108_2 0 (PA (slS (meetS a b)))) := by
  have done : ∀ (p : Int), ¬ p < 1000000000 → p ≤ 1000000000 → Kept (andF a b) p [] → AWP Tryd.prog 34 0 c108_8 [(7, .sl 0 (.raw []) .nil)] [] (q108_0 0 (PA (slS (meetS a b)))) := by
    intro p h1 h2 hk
    have : p = 1000000000 := by omega
    subst this
    refine v108_8n _ _ (pa ?_)
    rw [meet_eq hk]; exact leS0
  intro m
  induction m with
  | zero =>
    intro p hm h0 h1 hk
    exact v108_3n _ _ _ _ _ (condD (fun h => by omega) fun h => done p h h1 hk)
  | succ m ih =>
    intro p hm h0 h1 hk
    refine v108_3n _ _ _ _ _ (condD (fun hp => ?_) fun h => done p h h1 hk)
    obtain ⟨n1, n2, n3⟩ := and_next ha hb hp rfl
    refine ASpec.call (next_spec a p ha _) (Les.refl _) ⟨_, rfl, rfl, ?_⟩
    refine ASpec.call (next_spec b p hb _) (Les.refl _) ⟨_, rfl, rfl, ?_⟩
    refine ASpec.call (has_spec a p ha _) (Les.refl _) ⟨_, rfl, rfl, ?_⟩
    refine ASpec.call (has_spec b p hb _) (Les.refl _) ⟨_, rfl, rfl, ?_⟩
    refine ASpec.call (and_spec _ _ _) (Les.refl _) ⟨_, rfl, rfl, ?_⟩
    generalize (if nextS b p < nextS a p then nextS b p else nextS a p) = to at n1 n2 n3 ⊢
    refine condB (fun hf => ?_) fun hf => ?_
    · have hk' := kept_put hk h0 n1 n2 (fun q hq1 hq2 => by rw [n3 q hq1 hq2]; exact hf)
      have nxt := kept3m ha hb m to (addS [] (p, to)) (by omega) (by omega) n2 hk'
      exact ASpec.call (add_nil (p, to) []) (Les.refl _) (.inl ⟨(p, to), rfl, rfl, nxt⟩)
    · exact ih to (by omega) (by omega) n2 (kept_skip hk (by omega) (fun q hq1 hq2 => by rw [n3 q hq1 hq2]; exact hf))

theorem meet_spec (H : List AObj) : ASpec Tryd.prog 54 [slS a, slS b] H (fun r H' => r = slS (meetS a b) ∧ H' = H) := by
  have k : ASpec Tryd.prog 54 [slS a, slS b] [] (fun r H' => r = slS (meetS a b) ∧ H' = []) := by
    have k2 : ASpec Tryd.prog 108 [slS a, slS b, .fn 110 []] [] (fun r H' => r = slS (meetS a b) ∧ H' = []) :=
      ASpec.sel (s108 _ _ _ (kept3n ha hb 1000000000 0 (by omega) (by omega) (by omega) (kept_nil _)))
    exact s54 _ _ _ (ASpec.call k2 (Les.refl _) ⟨_, rfl, rfl, rfl, rfl⟩)
  exact ASpec.pureH H k _ _ rfl rfl
end

/-! ### within -/

/-- has the second set all that the first one has? -/
def subS (a b : List Span) : Bool := a.all fun s => decide (aftS s.1 b < b.length ∧ (b.getD (aftS s.1 b) (0, 0)).1 ≤ s.1 ∧ s.2 ≤ (b.getD (aftS s.1 b) (0, 0)).2)

theorem within2 {a b : List Span} (hb : ok b) (hal : a.length ≤ 2000000000) {c : Bool} : ∀ (m i : Nat), m + i = a.length → subS (a.drop i) b = c →
    AWP Tryd.prog 43 0 c58_2 [(1, slS b), (8, slS a), (9, .int .i64 a.length), (10, .int .i64 i)] [] (q58_2 0 (PB c)) := by
  intro m
  induction m with
  | zero =>
    intro i hm h
    refine v58_2 _ _ _ _ _ _ (condD (fun hc => by omega) fun _ => pb ?_)
    rw [List.drop_eq_nil_of_le (by omega)] at h
    exact h
  | succ m ih =>
    intro i hm h
    rw [dropD a (0, 0) i (by omega)] at h
    refine v58_2 _ _ _ _ _ _ (condD (fun hc => needJ ⟨by omega, by omega⟩ ?_) fun hc => by omega)
    rw [Int.toNat_natCast]
    generalize a.getD i (0, 0) = x at h ⊢
    have hle := aftS_le x.1 b
    have no : ∀ {H' : List AObj}, ¬ (aftS x.1 b < b.length ∧ (b.getD (aftS x.1 b) (0, 0)).1 ≤ x.1 ∧ x.2 ≤ (b.getD (aftS x.1 b) (0, 0)).2) → PB c (.bool false) H' := by
      intro H' hh
      refine pb ?_
      rw [← h, subS, List.all_cons, decide_eq_false hh, Bool.false_and]
    refine ASpec.call (after_spec b x.1 hb _) (Les.refl _) ⟨_, rfl, rfl, condE (fun h1 => no (by omega)) fun h1 => needJ ⟨by omega, by omega⟩ ?_⟩
    rw [Int.toNat_natCast]
    refine condD (fun h2 => no (by omega)) fun h2 => needJ ⟨by omega, by omega⟩ (condD (fun h3 => no (by omega)) fun h3 => ?_)
    rw [suc64 (by omega)]
    refine AWP.shape [] [(1, slS b), (8, slS a), (9, .int .i64 a.length), (10, .int .i64 (i + 1 : Nat))] [] Sel.none ⟨rfl, Le.refl _, rfl, Le.refl _, rfl, Le.refl _, rfl, Le.refl _, trivial⟩ (ih (i + 1) (by omega) ?_)
    rw [← h, subS, subS, List.all_cons, decide_eq_true (⟨by omega, by omega, by omega⟩ : aftS x.1 b < b.length ∧ (b.getD (aftS x.1 b) (0, 0)).1 ≤ x.1 ∧ x.2 ≤ (b.getD (aftS x.1 b) (0, 0)).2), Bool.true_and]

theorem within_spec (a b : List Span) (ha : ok a) (hb : ok b) (H : List AObj) : ASpec Tryd.prog 58 [slS a, slS b] H (fun r H' => r = .bool (subS a b) ∧ H' = H) :=
  ASpec.pureH (r0 := .bool (subS a b)) H (ASpec.sel (s58 _ _ _ (within2 hb (by have := ok_len ha; omega) a.length 0 (by omega) rfl))) _ _ rfl rfl

/-- within: each place of the first set is one of the second -/
theorem subS_iff {a b : List Span} (ha : ok a) (hb : ok b) : subS a b = true ↔ ∀ p, hasS a p = true → hasS b p = true := by
  constructor
  · intro h p hp
    simp only [hasS, List.any_eq_true] at hp
    obtain ⟨s, hs, hsp⟩ := hp
    rw [inS_iff] at hsp
    have := List.all_eq_true.1 h s hs
    simp only [decide_eq_true_eq] at this
    obtain ⟨h1, h2, h3⟩ := this
    simp only [hasS, List.any_eq_true]
    exact ⟨_, memD b (0, 0) _ h1, inS_iff.2 ⟨by omega, by omega⟩⟩
  · intro h
    refine List.all_eq_true.2 fun s hs => ?_
    obtain ⟨i, hi, e⟩ := List.getElem_of_mem hs
    have hr := chkS_rise ha i hi
    rw [List.getD_eq_getElem?_getD, List.getElem?_eq_getElem hi] at hr
    simp only [Option.getD_some, e] at hr
    obtain ⟨r1, r2, r3, _⟩ := hr
    have hin : ∀ q, s.1 ≤ q → q < s.2 → hasS b q = true := fun q h1 h2 => h q (by simp only [hasS, List.any_eq_true]; exact ⟨s, hs, inS_iff.2 ⟨h1, h2⟩⟩)
    obtain ⟨k1, k2⟩ := (hasS_aft hb).1 (hin s.1 (by omega) r2)
    refine decide_eq_true ⟨k1, k2, ?_⟩
    have hat := aftS_at s.1 b k1
    by_cases hc : s.2 ≤ (b.getD (aftS s.1 b) (0, 0)).2
    · exact hc
    · exfalso
      have h1 := hin (b.getD (aftS s.1 b) (0, 0)).2 (by omega) (by omega)
      have hn : hasS b (b.getD (aftS s.1 b) (0, 0)).2 = false := by
        have key : ∀ {l : List Span} {e : Int}, chkS e l = true → ∀ i, i < l.length → hasS l (l.getD i (0, 0)).2 = false := by
          intro l
          induction l with
          | nil => intro e _ i hi; simp at hi
          | cons x r ih =>
            intro e hl i hi
            obtain ⟨a1, a2, a3, a4⟩ := chkS_cons hl
            match i, hi with
            | 0, _ =>
              simp only [List.getD_cons_zero]
              rw [hasS_cons, chkS_low a4 (Int.le_refl _), inS_false.2 (by omega)]; rfl
            | i + 1, hi =>
              simp only [List.getD_cons_succ]
              have hx := chkS_rise a4 i (by simpa using hi)
              rw [hasS_cons, ih a4 i (by simpa using hi), inS_false.2 (by omega)]; rfl
        exact key hb _ k1
      rw [hn] at h1; cases h1
end Sg
end

section
/- Sets of places: the document's code. -/

set_option linter.unusedVariables false
set_option linter.unusedSimpArgs false
set_option maxRecDepth 100000
open Go Go.Ab Go.Proofs V S T C
open W (slS leNone cons_dec renS)
open Sp
namespace Sg

noncomputable abbrev slI (l : List Int) : AV := .sl 1 (.map encI 0 l) .none

/-! ### has -/

theorem rhas2 {l : List Span} (hs : ok l) {p : Int} {c : Bool} : ∀ (m i : Nat), m + i = l.length → hasS (l.drop i) p = c →
    AWP Tryd.prog 34 0 c67_2 [(0, slS l), (1, .int .i64 p), (5, .int .i64 i)] [] (q67_2 0 (PB c)) := by
  have hl := ok_len hs
  intro m
  induction m with
  | zero =>
    intro i hm h
    refine v67_2 _ _ _ _ _ (condD (fun hc => by omega) fun _ => pb ?_)
    rw [List.drop_eq_nil_of_le (by omega)] at h
    exact h
  | succ m ih =>
    intro i hm h
    have hin : (0 : Int) ≤ (i : Int) ∧ (i : Int) < (l.length : Int) := ⟨by omega, by omega⟩
    obtain ⟨r1, r2, r3, _⟩ := chkS_rise hs i (by omega)
    rw [dropD l (0, 0) i (by omega), hasS_cons] at h
    refine v67_2 _ _ _ _ _ (condD (fun hc => needJ hin ?_) fun hc => by omega)
    rw [Int.toNat_natCast]
    generalize l.getD i (0, 0) = x at h r1 r2 r3 ⊢
    refine condD (fun h1 => needJ hin (condD (fun h2 => condD (fun h3 => pb ?_) fun h3 => by omega) fun h2 => ?_)) fun h1 => ?_
    · rw [inS_iff.2 ⟨h1, h2⟩, Bool.true_or] at h
      rw [← h, decide_eq_true (by omega)]
    · rw [inS_false.2 (by omega), Bool.false_or] at h
      rw [suc64 (by omega)]
      exact ih (i + 1) (by omega) h
    · rw [inS_false.2 (by omega), Bool.false_or] at h
      rw [suc64 (by omega)]
      exact ih (i + 1) (by omega) h

theorem rhas_spec (l : List Span) (p : Int) (hs : ok l) (H : List AObj) : ASpec Tryd.prog 67 [slS l, .int .i64 p] H (fun r H' => r = .bool (hasS l p) ∧ H' = H) :=
  ASpec.pureH (r0 := .bool (hasS l p)) H (ASpec.sel (s67 _ _ _ (rhas2 hs l.length 0 (by omega) rfl))) _ _ rfl rfl

/-! ### cuts -/

def clip (p : Int) : Int := min (max p 0) 1000000000
def insS (p : Int) : List Int → List Int
  | [] => [p]
  | x :: r => if p ≤ x then (if p = x then p :: r else p :: x :: r) else x :: insS p r

theorem insS_len (p : Int) : ∀ l : List Int, (insS p l).length ≤ l.length + 1
  | [] => Nat.le_refl _
  | x :: r => by
    simp only [insS]
    repeat' split
    · simp
    · simp
    · have := insS_len p r; simp; omega
theorem insS_mem (p q : Int) : ∀ l : List Int, q ∈ insS p l ↔ q = p ∨ q ∈ l
  | [] => by simp [insS]
  | x :: r => by
    simp only [insS]
    repeat' split
    · rename_i h; subst h; simp
    · simp
    · simp only [List.mem_cons, insS_mem p q r]
      constructor
      · rintro (h | h | h)
        · exact .inr (.inl h)
        · exact .inl h
        · exact .inr (.inr h)
      · rintro (h | h | h)
        · exact .inr (.inl h)
        · exact .inl h
        · exact .inr (.inr h)
theorem insS_rise (p : Int) : ∀ l : List Int, l.Pairwise (· < ·) → (insS p l).Pairwise (· < ·)
  | [], _ => by simp [insS]
  | x :: r, h => by
    rw [List.pairwise_cons] at h
    simp only [insS]
    repeat' split
    · rename_i h1 h2; subst h2
      rw [List.pairwise_cons]; exact h
    · rename_i h1 h2
      rw [List.pairwise_cons, List.pairwise_cons]
      refine ⟨fun y hy => ?_, h⟩
      rcases List.mem_cons.1 hy with rfl | hy
      · omega
      · have := h.1 y hy; omega
    · rename_i h1
      rw [List.pairwise_cons]
      refine ⟨fun y hy => ?_, insS_rise p r h.2⟩
      rcases (insS_mem p y r).1 hy with rfl | hy
      · omega
      · exact h.1 y hy

abbrev PI (R : List Int) : AV → List AObj → Prop := PA (slI R)
theorem renI (ρ : Nat → Nat) (x : Int) : renL ρ (encI x) = encI x := rfl

/-- what is left to be copied -/
def restS (z : Bool) (p : Int) (l : List Int) : List Int := if z = true then l else insS p l

theorem put12 {p : Int} {o R : List Int} {z : Bool} (ho : o.length ≤ 100000000000) (h : o ++ restS z p [] = R) :
    AWP Tryd.prog 51 0 c154_12 [(1, .int .i64 p), (5, .sl 1 (.map encI 0 o) (.tok 0)), (6, .bool z)] [.tok] (q154_0 0 (PI R)) := by
  refine v154_12 _ _ _ _ _ (condBn (fun hz => needJ (by omega) ?_) fun hz => ?_)
  · subst hz
    simp only [restS, Bool.false_eq_true, if_false, insS] at h
    subst h
    refine pa ?_
    exact Le.trans (leAppE (x := p) (Les.refl _)) (leNone renI)
  · subst hz
    simp only [restS, if_true, List.append_nil] at h
    subst h
    exact pa (leNone renI)

theorem put5 {l : List Int} {p : Int} (hl : l.length ≤ 20000000000) {R : List Int} : ∀ (m i : Nat) (o : List Int) (z : Bool), m + i = l.length → o.length ≤ i + z.toNat → o ++ restS z p (l.drop i) = R →
    AWP Tryd.prog 51 0 c154_5 [(0, slI l), (1, .int .i64 p), (5, .sl 1 (.map encI 0 o) (.tok 0)), (6, .bool z), (7, .int .i64 i)] [.tok] (q154_2 0 (PI R)) := by
  intro m
  induction m with
  | zero =>
    intro i o z hm ho h
    have : z.toNat ≤ 1 := by cases z <;> simp
    rw [List.drop_eq_nil_of_le (by omega)] at h
    exact v154_5 _ _ _ _ _ _ _ (condD (fun hc => by omega) fun _ => put12 (by omega) h)
  | succ m ih =>
    intro i o z hm ho h
    have hz1 : z.toNat ≤ 1 := by cases z <;> simp
    have hin : (0 : Int) ≤ (i : Int) ∧ (i : Int) < (l.length : Int) := ⟨by omega, by omega⟩
    have eleven : ∀ (o : List Int) (z : Bool), o.length ≤ i + z.toNat → o ++ (l.getD i 0 :: restS z p (l.drop (i + 1))) = R → AWP Tryd.prog 51 0 c154_11 [(0, slI l), (1, .int .i64 p), (5, .sl 1 (.map encI 0 o) (.tok 0)), (6, .bool z), (7, .int .i64 i)] [.tok] (q154_5 0 (PI R)) := by
      intro o z ho h
      have hz1 : z.toNat ≤ 1 := by cases z <;> simp
      refine v154_11 _ _ _ _ _ _ _ (needJ hin (needJ (by omega) ?_))
      rw [suc64 (by omega), Int.toNat_natCast]
      refine AWP.shape [1] [(0, slI l), (1, .int .i64 p), (5, .sl 1 (.map encI 0 (o ++ [l.getD i 0])) (.tok 0)), (6, .bool z), (7, .int .i64 (i + 1 : Nat))] [.tok] (Sel.one 1 rfl rfl)
        ⟨rfl, Le.refl _, rfl, Le.refl _, rfl, ?_, rfl, Le.refl _, rfl, Le.refl _, trivial⟩ (ih (i + 1) _ z (by omega) (by simp; omega) (by rw [← h]; simp))
      exact W.leAppT renI rfl rfl
    rw [dropD l 0 i (by omega)] at h
    refine v154_5 _ _ _ _ _ _ _ (condD (fun _ => condBn (fun hz => needJ hin ?_) fun hz => ?_) fun hc => by omega)
    · subst hz
      simp only [Bool.toNat_false, Nat.add_zero] at ho
      rw [Int.toNat_natCast]
      simp only [restS, Bool.false_eq_true, if_false, insS] at h
      refine condD (fun h1 => needJ (by omega) (needJ hin (condE (fun h2 => ?_) fun h2 => ?_))) fun h1 => ?_
      · rw [if_pos h1, if_pos h2] at h
        rw [suc64 (by omega)]
        refine AWP.shape [1] [(0, slI l), (1, .int .i64 p), (5, .sl 1 (.map encI 0 (o ++ [p])) (.tok 0)), (6, .bool true), (7, .int .i64 (i + 1 : Nat))] [.tok] (Sel.one 1 rfl rfl)
          ⟨rfl, Le.refl _, rfl, Le.refl _, rfl, ?_, rfl, Le.refl _, rfl, Le.refl _, trivial⟩ (ih (i + 1) _ true (by omega) (by simp; omega) (by rw [← h]; simp [restS]))
        exact W.leAppT renI rfl rfl
      · rw [if_pos h1, if_neg h2] at h
        refine AWP.shape [1] [(0, slI l), (1, .int .i64 p), (5, .sl 1 (.map encI 0 (o ++ [p])) (.tok 0)), (6, .bool true), (7, .int .i64 i)] [.tok] (Sel.one 1 rfl rfl)
          ⟨rfl, Le.refl _, rfl, Le.refl _, rfl, ?_, rfl, Le.refl _, rfl, Le.refl _, trivial⟩ (eleven _ true (by simp; omega) (by rw [← h]; simp [restS]))
        exact W.leAppT renI rfl rfl
      · rw [if_neg h1] at h
        exact eleven o false (by simp; omega) (by rw [← h]; simp [restS])
    · subst hz
      exact eleven o true ho (by rw [← h]; simp [restS])

theorem put_spec (l : List Int) (p : Int) (hl : l.length ≤ 20000000000) (H : List AObj) : ASpec Tryd.prog 154 [slI l, .int .i64 p] H (fun r H' => r = slI (insS (clip p) l) ∧ H' = H) := by
  have k : ASpec Tryd.prog 154 [slI l, .int .i64 p] [] (fun r H' => r = slI (insS (clip p) l) ∧ H' = []) := by
    have e : (if 1000000000 < (if 0 > p then 0 else p) then 1000000000 else if 0 > p then 0 else p) = clip p := by
      unfold clip
      rw [Int.max_def, Int.min_def]
      repeat' split
      all_goals omega
    refine ASpec.sel (s154 _ _ _ ?_)
    rw [e]
    refine AWP.re (ReSt.tok (H := []) (k := 5) (q' := .map encI 0 []) (sz' := 1) (s2 := [(0, slI l), (1, .int .i64 (clip p)), (5, .sl 1 (.map encI 0 []) (.tok 0)), (6, .bool false), (7, .int .i64 (0 : Nat))]) rfl (.inl rfl) rfl (.inr rfl) (fun d hd => ?_) rfl) ?_
    · simp only [Ab.get]
      have e : Nat.beq 5 d = false := by
        cases hx : Nat.beq 5 d with
        | false => rfl
        | true => exact absurd (Nat.eq_of_beq_eq_true hx).symm hd
      rw [e]; rfl
    · exact put5 hl l.length 0 [] false (by omega) (by simp) rfl
  exact ASpec.pureH H k _ _ rfl rfl

def cutF (l : List Int) : List Span → List Int
  | [] => l
  | s :: r => cutF (insS (clip s.2) (insS (clip s.1) l)) r
def cutsS (a b : List Span) : List Int := cutF (cutF [0, 1000000000] a) b

theorem cutF_len : ∀ (a : List Span) (l : List Int), (cutF l a).length ≤ l.length + 2 * a.length
  | [], l => by simp [cutF]
  | s :: r, l => by
    have h1 := cutF_len r (insS (clip s.2) (insS (clip s.1) l))
    have h2 := insS_len (clip s.2) (insS (clip s.1) l)
    have h3 := insS_len (clip s.1) l
    simp only [cutF, List.length_cons]; omega

theorem cuts7 {b : List Span} (hb : b.length ≤ 2000000000) {R : List Int} : ∀ (m i : Nat) (l : List Int), m + i = b.length → l.length ≤ 10000000000 + 2 * i → cutF l (b.drop i) = R →
    AWP Tryd.prog 48 0 c144_7 [(1, slS b), (5, slI l), (7, .int .i64 i)] [] (q144_4 0 (PI R)) := by
  intro m
  induction m with
  | zero =>
    intro i l hm hl h
    refine v144_7 _ _ _ _ _ (condD (fun hc => by omega) fun _ => pa ?_)
    rw [List.drop_eq_nil_of_le (by omega)] at h
    have h : l = R := h
    rw [h]; exact Le.refl _
  | succ m ih =>
    intro i l hm hl h
    have hin : (0 : Int) ≤ (i : Int) ∧ (i : Int) < (b.length : Int) := ⟨by omega, by omega⟩
    rw [dropD b (0, 0) i (by omega)] at h
    refine v144_7 _ _ _ _ _ (condD (fun _ => needJ hin (needJ hin ?_)) fun hc => by omega)
    rw [Int.toNat_natCast]
    generalize b.getD i (0, 0) = x at h ⊢
    have l1 := insS_len (clip x.1) l
    have l2 := insS_len (clip x.2) (insS (clip x.1) l)
    refine ASpec.call (put_spec l x.1 (by omega) _) (Les.refl _) ⟨_, rfl, rfl, ⟨rfl, rfl⟩, ?_⟩
    refine ASpec.call (put_spec _ x.2 (by omega) _) (Les.refl _) ⟨_, rfl, rfl, ?_⟩
    rw [suc64 (by omega)]
    exact ih (i + 1) _ (by omega) (by omega) h

theorem cuts3 {a b : List Span} (ha : a.length ≤ 2000000000) (hb : b.length ≤ 2000000000) {R : List Int} : ∀ (m i : Nat) (l : List Int), m + i = a.length → l.length ≤ 2 + 2 * i → cutF (cutF l (a.drop i)) b = R →
    AWP Tryd.prog 48 0 c144_3 [(0, slS a), (1, slS b), (5, slI l), (6, .int .i64 i)] [] (q144_2 0 (PI R)) := by
  intro m
  induction m with
  | zero =>
    intro i l hm hl h
    refine v144_3 _ _ _ _ _ _ (condD (fun hc => by omega) fun _ => v144_6 _ _ _ _ ?_)
    rw [List.drop_eq_nil_of_le (by omega)] at h
    exact cuts7 hb b.length 0 l (by omega) (by omega) h
  | succ m ih =>
    intro i l hm hl h
    have hin : (0 : Int) ≤ (i : Int) ∧ (i : Int) < (a.length : Int) := ⟨by omega, by omega⟩
    rw [dropD a (0, 0) i (by omega)] at h
    refine v144_3 _ _ _ _ _ _ (condD (fun _ => needJ hin (needJ hin ?_)) fun hc => by omega)
    rw [Int.toNat_natCast]
    generalize a.getD i (0, 0) = x at h ⊢
    have l1 := insS_len (clip x.1) l
    have l2 := insS_len (clip x.2) (insS (clip x.1) l)
    refine ASpec.call (put_spec l x.1 (by omega) _) (Les.refl _) ⟨_, rfl, rfl, ⟨rfl, rfl⟩, ?_⟩
    refine ASpec.call (put_spec _ x.2 (by omega) _) (Les.refl _) ⟨_, rfl, rfl, ?_⟩
    rw [suc64 (by omega)]
    exact ih (i + 1) _ (by omega) (by omega) h

theorem cuts_spec (a b : List Span) (ha : a.length ≤ 2000000000) (hb : b.length ≤ 2000000000) (H : List AObj) : ASpec Tryd.prog 144 [slS a, slS b] H (fun r H' => r = slI (cutsS a b) ∧ H' = H) := by
  have k : ASpec Tryd.prog 144 [slS a, slS b] [] (fun r H' => r = slI (cutsS a b) ∧ H' = []) := by
    refine ASpec.sel (s144 _ _ _ ?_)
    refine AWP.spell [(0, slS a), (1, slS b), (5, slI [0, 1000000000]), (6, .int .i64 (0 : Nat))] ⟨rfl, Le.refl _, rfl, Le.refl _, rfl, Le.sl rfl (.inl rfl) (.inr rfl), rfl, Le.refl _, trivial⟩ ?_
    exact cuts3 ha hb a.length 0 _ (by omega) (by simp) rfl
  exact ASpec.pureH H k _ _ rfl rfl

/-- what the cuts are good for -/
structure Good (l : List Int) : Prop where
  rise : l.Pairwise (· < ·)
  low : ∀ q ∈ l, 0 ≤ q ∧ q ≤ 1000000000
  zero : (0 : Int) ∈ l
  top : (1000000000 : Int) ∈ l
def Ends (a : List Span) (l : List Int) : Prop := ∀ s ∈ a, s.1 ∈ l ∧ s.2 ∈ l

theorem good0 : Good [0, 1000000000] := ⟨by simp, by simp, by simp, by simp⟩
theorem clip_in (p : Int) : 0 ≤ clip p ∧ clip p ≤ 1000000000 := by unfold clip; omega
theorem clip_id {p : Int} (h0 : 0 ≤ p) (h1 : p ≤ 1000000000) : clip p = p := by unfold clip; omega
theorem Good.ins {l : List Int} (h : Good l) (p : Int) : Good (insS (clip p) l) := by
  refine ⟨insS_rise _ _ h.rise, fun q hq => ?_, (insS_mem _ _ _).2 (.inr h.zero), (insS_mem _ _ _).2 (.inr h.top)⟩
  rcases (insS_mem _ _ _).1 hq with rfl | hq
  · exact clip_in p
  · exact h.low q hq
theorem cutF_good : ∀ (a : List Span) (l : List Int), Good l → Good (cutF l a)
  | [], l, h => h
  | s :: r, l, h => cutF_good r _ ((h.ins s.1).ins s.2)
theorem cutF_mem : ∀ (a : List Span) (l : List Int) (q : Int), q ∈ l → q ∈ cutF l a
  | [], l, q, h => h
  | s :: r, l, q, h => cutF_mem r _ q ((insS_mem _ _ _).2 (.inr ((insS_mem _ _ _).2 (.inr h))))
theorem cutF_ends : ∀ (a : List Span) (l : List Int) (e : Int), -1 ≤ e → chkS e a = true → Ends a (cutF l a)
  | [], l, e, _, _, s, hs => by simp at hs
  | x :: r, l, e, he, h, s, hs => by
    obtain ⟨h1, h2, h3, h4⟩ := chkS_cons h
    rcases List.mem_cons.1 hs with rfl | hs
    · refine ⟨cutF_mem r _ _ ?_, cutF_mem r _ _ ?_⟩
      · rw [clip_id (p := s.1) (by omega) (by omega)]
        exact (insS_mem _ _ _).2 (.inr ((insS_mem _ _ _).2 (.inl rfl)))
      · rw [clip_id (p := s.2) (by omega) (by omega)]
        exact (insS_mem _ _ _).2 (.inl rfl)
    · exact cutF_ends r _ x.2 (by omega) h4 s hs
theorem cuts_ends {a b : List Span} (ha : ok a) (hb : ok b) : Ends a (cutsS a b) ∧ Ends b (cutsS a b) := by
  refine ⟨fun s hs => ?_, cutF_ends b _ (-1) (by omega) hb⟩
  obtain ⟨h1, h2⟩ := cutF_ends a [0, 1000000000] (-1) (by omega) ha s hs
  exact ⟨cutF_mem b _ _ h1, cutF_mem b _ _ h2⟩
theorem cuts_good (a b : List Span) : Good (cutsS a b) := cutF_good b _ (cutF_good a _ good0)

theorem Good.lt {l : List Int} (h : Good l) {i j : Nat} (hi : i < j) (hj : j < l.length) : l.getD i 0 < l.getD j 0 := by
  have := List.pairwise_iff_getElem.1 h.rise i j (by omega) hj hi
  simpa [List.getD_eq_getElem?_getD, List.getElem?_eq_getElem (show i < l.length by omega), List.getElem?_eq_getElem hj] using this
theorem Good.mem {l : List Int} (h : Good l) {q : Int} (hq : q ∈ l) : ∃ i, i < l.length ∧ l.getD i 0 = q := by
  obtain ⟨i, hi, e⟩ := List.getElem_of_mem hq
  exact ⟨i, hi, by simp [List.getD_eq_getElem?_getD, List.getElem?_eq_getElem hi, e]⟩
theorem Good.first {l : List Int} (h : Good l) : 0 < l.length ∧ l.getD 0 0 = 0 := by
  obtain ⟨i, hi, e⟩ := h.mem h.zero
  have h0 := (h.low _ (memD l 0 0 (by omega))).1
  refine ⟨by omega, ?_⟩
  rcases Nat.eq_zero_or_pos i with rfl | hp
  · exact e
  · have := h.lt hp hi; omega
theorem Good.last {l : List Int} (h : Good l) : l.getD (l.length - 1) 0 = 1000000000 := by
  obtain ⟨i, hi, e⟩ := h.mem h.top
  have h0 := (h.low _ (memD l 0 (l.length - 1) (by omega))).2
  rcases Nat.lt_or_ge i (l.length - 1) with hp | hp
  · have := h.lt hp (by omega); omega
  · have : i = l.length - 1 := by omega
    rw [← this]; exact e
/-- between two cuts nothing changes -/
theorem ends_same {a : List Span} {l : List Int} (h : Good l) (he : Ends a l) {i : Nat} (hi : i + 1 < l.length) {q : Int} (h1 : l.getD i 0 ≤ q) (h2 : q < l.getD (i + 1) 0) : hasS a q = hasS a (l.getD i 0) := by
  have no : ∀ x ∈ l, x ≤ l.getD i 0 ∨ l.getD (i + 1) 0 ≤ x := by
    intro x hx
    obtain ⟨j, hj, e⟩ := h.mem hx
    rcases Nat.lt_trichotomy j i with hji | hji | hji
    · have := h.lt hji (by omega); omega
    · subst hji; omega
    · rcases Nat.lt_or_ge (i + 1) j with hk | hk
      · have := h.lt hk hj; omega
      · have : j = i + 1 := by omega
        subst this; omega
  simp only [hasS]
  rw [Bool.eq_iff_iff, List.any_eq_true, List.any_eq_true]
  constructor
  · rintro ⟨s, hs, hsq⟩
    rw [inS_iff] at hsq
    obtain ⟨e1, e2⟩ := he s hs
    have n1 := no _ e1
    have n2 := no _ e2
    exact ⟨s, hs, inS_iff.2 ⟨by omega, by omega⟩⟩
  · rintro ⟨s, hs, hsq⟩
    rw [inS_iff] at hsq
    obtain ⟨e1, e2⟩ := he s hs
    have n1 := no _ e1
    have n2 := no _ e2
    exact ⟨s, hs, inS_iff.2 ⟨by omega, by omega⟩⟩

theorem told_spec (op : Int) (x y : Bool) (H : List AObj) : ASpec Tryd.prog 145 [.int .i64 op, .bool x, .bool y] H (fun r H' => r = .bool (if op = 0 then x || y else if op = 1 then x && y else !x) ∧ H' = H) := by
  have k : ASpec Tryd.prog 145 [.int .i64 op, .bool x, .bool y] [] (fun r H' => r = .bool (if op = 0 then x || y else if op = 1 then x && y else !x) ∧ H' = []) := by
    refine s145 _ _ _ _ (condE (fun h => ?_) fun h => condE (fun h1 => ?_) fun h1 => ?_)
    · rw [if_pos h]; exact condB (fun h => by rw [h]; exact ⟨rfl, rfl⟩) fun h => by rw [h]; exact ⟨rfl, rfl⟩
    · rw [if_neg h, if_pos h1]; exact condB (fun h => by rw [h]; exact ⟨rfl, rfl⟩) fun h => by rw [h]; exact ⟨rfl, rfl⟩
    · rw [if_neg h, if_neg h1]; exact ⟨rfl, rfl⟩
  exact ASpec.pureH H k _ _ rfl rfl

def opF (op : Int) (a b : List Span) (p : Int) : Bool := if op = 0 then hasS a p || hasS b p else if op = 1 then hasS a p && hasS b p else !hasS a p

theorem op_same {op : Int} {a b : List Span} {l : List Int} (hg : Good l) (he : Ends a l ∧ Ends b l) {i : Nat} (hi : i + 1 < l.length) {q : Int} (h1 : l.getD i 0 ≤ q) (h2 : q < l.getD (i + 1) 0) : opF op a b q = opF op a b (l.getD i 0) := by
  simp only [opF]
  rw [ends_same hg he.1 hi h1 h2, ends_same hg he.2 hi h1 h2]

section
variable {op : Int} {a b : List Span} (ha : ok a) (hb : ok b) {l : List Int} (hg : Good l) (he : Ends a l ∧ Ends b l) (hl : l.length ≤ 10000000000)
include ha hb hg he hl

theorem do4m {R : List Span} (hR : ∀ o, Kept (opF op a b) 1000000000 o → o = R) : ∀ (m i : Nat) (o : List Span), m + i = l.length → i < l.length → Kept (opF op a b) (l.getD i 0) o →
    AWP Tryd.prog 81 0 c120_4 [(0, .int .i64 op), (1, slS a), (2, slS b), (7, .msl 2 0 0 o.length), (8, slI l), (9, .int .i64 i)] [arS o] (q120_2 0 (PA (slS R))) := by
  intro m
  induction m with
  | zero => intro i o hm hi hk; omega
  | succ m ih =>
    intro i o hm hi hk
    have hin : (0 : Int) ≤ (i : Int) ∧ (i : Int) < (l.length : Int) := ⟨by omega, by omega⟩
    have hol := ok_len hk.1
    refine v120_4m _ _ _ _ _ _ _ _ _ ?_
    rw [suc64 (by omega)]
    refine condD (fun hc => needJ hin (needJ hin ?_)) fun hc => ?_
    · rw [Int.toNat_natCast]
      have hi2 : i + 1 < l.length := by omega
      have hlt : l.getD i 0 < l.getD (i + 1) 0 := hg.lt (Nat.lt_succ_self i) hi2
      have l0 := (hg.low _ (memD l 0 i (by omega))).1
      have l1 := (hg.low _ (memD l 0 (i + 1) hi2)).2
      refine ASpec.call (rhas_spec a _ ha _) (Les.refl _) ⟨_, rfl, rfl, ⟨rfl, rfl⟩, ?_⟩
      refine ASpec.call (rhas_spec b _ hb _) (Les.refl _) ⟨_, rfl, rfl, ?_⟩
      refine ASpec.call (told_spec op _ _ _) (Les.refl _) ⟨_, rfl, rfl, ?_⟩
      have hsame : ∀ q, l.getD i 0 ≤ q → q < l.getD (i + 1) 0 → opF op a b q = opF op a b (l.getD i 0) := fun q h1 h2 => op_same hg he hi2 h1 h2
      refine condBn (fun hf => ?_) fun hf => ?_
      · have hf : opF op a b (l.getD i 0) = false := hf
        exact ih (i + 1) o (by omega) hi2 (kept_skip hk (by omega) (fun q h1 h2 => by rw [hsame q h1 h2]; exact hf))
      · have hf : opF op a b (l.getD i 0) = true := hf
        have hk' := kept_put hk l0 hlt l1 (fun q h1 h2 => by rw [hsame q h1 h2]; exact hf)
        have nxt := ih (i + 1) (addS o (l.getD i 0, l.getD (i + 1) 0)) (by omega) hi2 hk'
        have hin2 : (0 : Int) ≤ ((i + 1 : Nat) : Int) ∧ ((i + 1 : Nat) : Int) < (l.length : Int) := ⟨by omega, by omega⟩
        have app : ¬ (0 < o.length ∧ l.getD i 0 ≤ (o.getD (o.length - 1) (0, 0)).2) → AWP Tryd.prog 81 0 c120_4 [(0, .int .i64 op), (1, slS a), (2, slS b), (7, .msl 2 1 0 (o.length + 1)), (8, slI l), (9, .int .i64 (i + 1 : Nat))]
            [.gone, .arr 2 (.app (.map encS (0, 0) o) (.raw [[.int .i64 (l.getD i 0), .int .i64 (l.getD (i + 1) 0)]]))] (q120_2 0 (PA (slS R))) := by
          intro hc
          have e : addS o (l.getD i 0, l.getD (i + 1) 0) = o ++ [(l.getD i 0, l.getD (i + 1) 0)] := by rw [addS, if_neg hc]
          rw [e] at nxt
          refine AWP.re (ReSt.arr (id := 1) (q' := .map encS (0, 0) (o ++ [(l.getD i 0, l.getD (i + 1) 0)])) rfl (by simp [Seq.toList]; rfl)) ?_
          refine AWP.shape [1] [(0, .int .i64 op), (1, slS a), (2, slS b), (7, .msl 2 0 0 (o ++ [(l.getD i 0, l.getD (i + 1) 0)]).length), (8, slI l), (9, .int .i64 (i + 1 : Nat))] [arS (o ++ [(l.getD i 0, l.getD (i + 1) 0)])] (Sel.one 1 rfl rfl)
            ⟨rfl, Le.refl _, rfl, Le.refl _, rfl, Le.refl _, rfl, ?_, rfl, Le.refl _, rfl, Le.refl _, trivial⟩ nxt
          rw [List.length_append]; exact Le.refl _
        refine v120_7m _ _ _ _ _ _ _ _ _ ?_
        rw [suc64 (by omega), Int.toNat_natCast, Int.toNat_natCast]
        refine condD (fun h => ?_) fun h => needJ hin (needJ hin2 (needJ ⟨rfl, by omega⟩ (app ?_)))
        · by_cases hz : o.length = 0
          · rw [hz] at h
            have : IntKind.wrap .i64 (((0 : Nat) : Int) - 1) = -1 := by rw [wrap64 (by omega) (by omega)]; rfl
            rw [this] at h; omega
          rw [pre64 (by omega) (by omega), Int.toNat_natCast, Nat.zero_add]
          have hlast : lastS (-1) o = (o.getD (o.length - 1) (0, 0)).2 := by
            conv => lhs; rw [split_last o (by omega)]
            exact lastS_append (-1) _ _ _
          have hle := hk.2.1
          refine needJ ⟨by omega, by omega⟩ (needJ (by omega) (needJ hin (condE (fun h2 => needJ ⟨by omega, by omega⟩ (needJ (by omega) (needJ hin2 (needJ ⟨by omega, by omega⟩ (needJ (by omega) ?_))))) fun h2 => needJ hin (needJ hin2 (needJ ⟨rfl, by omega⟩ (app ?_))))))
          · have e : addS o (l.getD i 0, l.getD (i + 1) 0) = o.take (o.length - 1) ++ [((o.getD (o.length - 1) (0, 0)).1, l.getD (i + 1) 0)] := by
              rw [addS, if_pos ⟨by omega, by simp only; omega⟩]
              simp only
              rw [Int.max_eq_right (show (o.getD (o.length - 1) (0, 0)).2 ≤ l.getD (i + 1) 0 by omega)]
            have el : (addS o (l.getD i 0, l.getD (i + 1) 0)).length = o.length := by rw [e]; simp; omega
            have es : o.set (o.length - 1) ((o.getD (o.length - 1) (0, 0)).1, l.getD (i + 1) 0) = addS o (l.getD i 0, l.getD (i + 1) 0) := by
              rw [e, List.set_eq_take_append_cons_drop, if_pos (by omega), show o.length - 1 + 1 = o.length by omega, List.drop_length]
            rw [el] at nxt
            refine AWP.re (ReSt.arr (id := 0) (q' := .map encS (0, 0) (addS o (l.getD i 0, l.getD (i + 1) 0))) rfl ?_) nxt
            rw [← es]
            simp only [Seq.toList, List.map_set]
            rfl
          · rintro ⟨_, h3⟩; omega
        · rintro ⟨h3, _⟩
          rw [pre64 (by omega) (by omega)] at h; omega
    · have hlast := hg.last
      have : i = l.length - 1 := by omega
      rw [this, hlast] at hk
      refine AWP.re (freezeS (by omega)) (AWP.shape [] [(7, slS o)] [] Sel.none ⟨rfl, Le.refl _, trivial⟩ (v120_11s _ _ _ (pa ?_)))
      rw [hR o hk]; exact Le.refl _

theorem do4n {R : List Span} (hR : ∀ o, Kept (opF op a b) 1000000000 o → o = R) : ∀ (m i : Nat), m + i = l.length → i < l.length → Kept (opF op a b) (l.getD i 0) [] →
    AWP Tryd.prog 81 0 c120_4 [(0, .int .i64 op), (1, slS a), (2, slS b), (7, .sl 0 (.raw []) .nil), (8, slI l), (9, .int .i64 i)] [] (q120_2 0 (PA (slS R))) := by
  intro m
  induction m with
  | zero => intro i hm hi hk; omega
  | succ m ih =>
    intro i hm hi hk
    have hin : (0 : Int) ≤ (i : Int) ∧ (i : Int) < (l.length : Int) := ⟨by omega, by omega⟩
    refine v120_4n _ _ _ _ _ _ _ ?_
    rw [suc64 (by omega)]
    refine condD (fun hc => needJ hin (needJ hin ?_)) fun hc => ?_
    · rw [Int.toNat_natCast]
      have hi2 : i + 1 < l.length := by omega
      have hlt : l.getD i 0 < l.getD (i + 1) 0 := hg.lt (Nat.lt_succ_self i) hi2
      have l0 := (hg.low _ (memD l 0 i (by omega))).1
      have l1 := (hg.low _ (memD l 0 (i + 1) hi2)).2
      refine ASpec.call (rhas_spec a _ ha _) (Les.refl _) ⟨_, rfl, rfl, ⟨rfl, rfl⟩, ?_⟩
      refine ASpec.call (rhas_spec b _ hb _) (Les.refl _) ⟨_, rfl, rfl, ?_⟩
      refine ASpec.call (told_spec op _ _ _) (Les.refl _) ⟨_, rfl, rfl, ?_⟩
      have hsame : ∀ q, l.getD i 0 ≤ q → q < l.getD (i + 1) 0 → opF op a b q = opF op a b (l.getD i 0) := fun q h1 h2 => op_same hg he hi2 h1 h2
      refine condBn (fun hf => ?_) fun hf => ?_
      · have hf : opF op a b (l.getD i 0) = false := hf
        exact ih (i + 1) (by omega) hi2 (kept_skip hk (by omega) (fun q h1 h2 => by rw [hsame q h1 h2]; exact hf))
      · have hf : opF op a b (l.getD i 0) = true := hf
        have hk' := kept_put hk l0 hlt l1 (fun q h1 h2 => by rw [hsame q h1 h2]; exact hf)
        have nxt := do4m ha hb hg he hl hR m (i + 1) (addS [] (l.getD i 0, l.getD (i + 1) 0)) (by omega) hi2 hk'
        refine v120_7n _ _ _ _ _ _ _ ?_
        rw [suc64 (by omega), Int.toNat_natCast, Int.toNat_natCast]
        exact needJ hin (needJ ⟨by omega, by omega⟩ (needJ (by omega) (needJ (by omega) (AWP.re (ReSt.arr (id := 0) (q' := .map encS (0, 0) [(l.getD i 0, l.getD (i + 1) 0)]) rfl rfl) nxt))))
    · have hlast := hg.last
      have : i = l.length - 1 := by omega
      rw [this, hlast] at hk
      refine v120_11n _ _ (pa ?_)
      rw [← hR [] hk]; exact leS0
end

theorem rdo_spec {op : Int} (a b : List Span) (ha : ok a) (hb : ok b) {R : List Span} (hR : ∀ o, Kept (opF op a b) 1000000000 o → o = R) (H : List AObj) : ASpec Tryd.prog 120 [.int .i64 op, slS a, slS b] H (fun r H' => r = slS R ∧ H' = H) := by
  have k : ASpec Tryd.prog 120 [.int .i64 op, slS a, slS b] [] (fun r H' => r = slS R ∧ H' = []) := by
    have h1 := ok_len ha
    have h2 := ok_len hb
    have h3 := cutF_len a [0, 1000000000]
    have h4 := cutF_len b (cutF [0, 1000000000] a)
    refine ASpec.sel (s120 _ _ _ _ (ASpec.call (cuts_spec a b (by omega) (by omega) _) (Les.refl _) ⟨_, rfl, rfl, ?_⟩))
    have hg := cuts_good a b
    refine do4n ha hb hg (cuts_ends ha hb) ?_ hR (cutsS a b).length 0 (by omega) hg.first.1 ?_
    · unfold cutsS; simp only [List.length_cons, List.length_nil] at h3; omega
    · rw [hg.first.2]; exact kept_nil _
  exact ASpec.pureH H k _ _ rfl rfl

theorem rmeet_spec (a b : List Span) (ha : ok a) (hb : ok b) (H : List AObj) : ASpec Tryd.prog 68 [slS a, slS b] H (fun r H' => r = slS (meetS a b) ∧ H' = H) := by
  have k : ASpec Tryd.prog 68 [slS a, slS b] [] (fun r H' => r = slS (meetS a b) ∧ H' = []) :=
    s68 _ _ _ (ASpec.call (rdo_spec (op := 1) a b ha hb (fun o ho => (meet_eq (a := a) (b := b) ho).symm) _) (Les.refl _) ⟨_, rfl, rfl, rfl, rfl⟩)
  exact ASpec.pureH H k _ _ rfl rfl

/-! ### are they alike? -/

theorem same4 {a b : List Span} {c : Bool} (hl : a.length ≤ 2000000000) (he : a.length = b.length) : ∀ (m i : Nat), m + i = a.length → decide (a.drop i = b.drop i) = c →
    AWP Tryd.prog 26 0 C.c61_4 [(0, slS a), (1, slS b), (5, .int .i64 i)] [] (C.q61_2 0 (PB c)) := by
  intro m
  induction m with
  | zero =>
    intro i hm h
    refine C.v61_4 _ _ _ _ _ (condD (fun hc => by omega) fun _ => pb ?_)
    rw [List.drop_eq_nil_of_le (by omega), List.drop_eq_nil_of_le (by omega)] at h
    rw [← h]; simp
  | succ m ih =>
    intro i hm h
    rw [dropD a (0, 0) i (by omega), dropD b (0, 0) i (by omega), cons_dec] at h
    refine C.v61_4 _ _ _ _ _ (condD (fun hc => needJ ⟨by omega, by omega⟩ (needJ ⟨by omega, by omega⟩ ?_)) fun hc => by omega)
    rw [Int.toNat_natCast]
    generalize a.getD i (0, 0) = x at h ⊢
    generalize b.getD i (0, 0) = y at h ⊢
    have e : (x.1 == y.1 && (x.2 == y.2 && true)) = decide (x = y) := by
      obtain ⟨x1, x2⟩ := x
      obtain ⟨y1, y2⟩ := y
      rw [Bool.eq_iff_iff]; simp
    rw [e]
    refine condBn (fun h1 => pb ?_) fun h1 => ?_
    · rw [h1, Bool.false_and] at h; exact h
    · rw [h1, Bool.true_and] at h
      rw [suc64 (by omega)]
      exact ih (i + 1) (by omega) h

theorem same_spec (a b : List Span) (hl : a.length ≤ 2000000000) (H : List AObj) : ASpec Tryd.prog 61 [slS a, slS b] H (fun r H' => r = .bool (decide (a = b)) ∧ H' = H) := by
  have k : ASpec Tryd.prog 61 [slS a, slS b] [] (fun r H' => r = .bool (decide (a = b)) ∧ H' = []) := by
    refine ASpec.sel (C.s61 _ _ _ (condNe (fun h => pb ?_) fun h => same4 hl (by omega) a.length 0 (by omega) rfl))
    symm
    rw [decide_eq_false]
    rintro rfl; exact h rfl
  exact ASpec.pureH H k _ _ rfl rfl

theorem rwithin_spec (a b : List Span) (ha : ok a) (hb : ok b) (H : List AObj) : ASpec Tryd.prog 70 [slS a, slS b] H (fun r H' => r = .bool (decide (meetS a b = a)) ∧ H' = H) := by
  have k : ASpec Tryd.prog 70 [slS a, slS b] [] (fun r H' => r = .bool (decide (meetS a b = a)) ∧ H' = []) := by
    have h1 := ok_len (meet_ok ha hb)
    refine s70 _ _ _ (ASpec.call (rmeet_spec a b ha hb _) (Les.refl _) ⟨_, rfl, rfl, ?_⟩)
    exact ASpec.call (same_spec _ a (by omega) _) (Les.refl _) ⟨_, rfl, rfl, rfl, rfl⟩
  exact ASpec.pureH H k _ _ rfl rfl

theorem meet_sub {a b : List Span} (ha : ok a) (hb : ok b) : meetS a b = a ↔ ∀ p, hasS a p = true → hasS b p = true := by
  constructor
  · intro h p hp
    have := meet_has ha hb p
    rw [h, hp, Bool.true_and] at this
    exact this.symm
  · intro h
    refine ext (meet_ok ha hb) ha (fun p => ?_)
    rw [meet_has ha hb]
    cases hp : hasS a p with
    | false => rfl
    | true => rw [h p hp]; rfl
end Sg
end

section
/- Terms: what the code and the document's code compute. -/

set_option linter.unusedVariables false
set_option linter.unusedSimpArgs false
set_option maxRecDepth 100000
open Go Go.Ab Go.Proofs V S T C
open W (slS leNone cons_dec renS)
open Sp
namespace Tm
open Sg (ok meetS meet_spec meet_ok meet_has subS subS_iff within_spec rwithin_spec meet_sub has_spec same_spec leS0 pa PA)
/-- a term that may be looked at -/
def okT (t : Term) : Prop := ok t.2.1
noncomputable abbrev agT (t : Term) : AV := .agg (encT t)
noncomputable def meetT (a b : Term) : Term := if a.1 = b.1 then (a.1, meetS a.2.1 b.2.1, a.2.2 && b.2.2) else noT
def emptyT (t : Term) : Bool := !t.2.2 && decide (t.2.1 = [])
noncomputable def withinT (a b : Term) : Bool := decide (a.1 = b.1) && ((!a.2.2 || b.2.2) && subS a.2.1 b.2.1)
def hasT (t : Term) (v : Int) (c : Bool) : Bool := if c = true then hasS t.2.1 v else t.2.2

theorem nameEq (a b : List UInt8) : ((B a).toList == (B b).toList) = decide (a = b) := by rw [B_beq, Bool.eq_iff_iff]; simp

theorem ok_noT : okT noT := rfl
theorem ok_meet {a b : Term} (ha : okT a) (hb : okT b) : okT (meetT a b) := by
  unfold meetT
  split
  · exact meet_ok ha hb
  · exact ok_noT

theorem all_spec (H : List AObj) : ASpec Tryd.prog 116 [] H (fun r H' => r = slS [(0, 1000000000)] ∧ H' = H) := by
  have k : ASpec Tryd.prog 116 [] [] (fun r H' => r = slS [(0, 1000000000)] ∧ H' = []) :=
    ASpec.sel (Sg.s116 _ (pa (Le.sl (s' := Seq.ren _ (.map encS (0, 0) [(0, 1000000000)])) rfl (.inl rfl) (.inr rfl))))
  exact ASpec.pureH H k _ _ rfl rfl

theorem emptyT_len (t : Term) : ((t.2.1.length : Int) == 0) = decide (t.2.1 = []) := by
  rw [Bool.eq_iff_iff]
  simp [List.length_eq_zero_iff]

theorem empty_spec (t : Term) (H : List AObj) : ASpec Tryd.prog 12 [agT t] H (fun r H' => r = .bool (emptyT t) ∧ H' = H) := by
  have k : ASpec Tryd.prog 12 [agT t] [] (fun r H' => r = .bool (emptyT t) ∧ H' = []) := by
    refine ASpec.sel (Sg.s12 _ _ (condBn (fun h => pa ?_) fun h => pa ?_))
    · rw [emptyT_len, emptyT, h, Bool.not_false, Bool.true_and]; exact Le.refl _
    · rw [emptyT, h, Bool.not_true, Bool.false_and]; exact Le.refl _
  exact ASpec.pureH H k _ _ rfl rfl

theorem rempty_spec (t : Term) (H : List AObj) : ASpec Tryd.prog 23 [agT t] H (fun r H' => r = .bool (emptyT t) ∧ H' = H) := by
  have k : ASpec Tryd.prog 23 [agT t] [] (fun r H' => r = .bool (emptyT t) ∧ H' = []) := by
    refine ASpec.sel (Sg.s23 _ _ (condBn (fun h => pa ?_) fun h => pa ?_))
    · rw [emptyT_len, emptyT, h, Bool.not_false, Bool.true_and]; exact Le.refl _
    · rw [emptyT, h, Bool.not_true, Bool.false_and]; exact Le.refl _
  exact ASpec.pureH H k _ _ rfl rfl

theorem within_specT (a b : Term) (ha : okT a) (hb : okT b) (H : List AObj) : ASpec Tryd.prog 17 [agT a, agT b] H (fun r H' => r = .bool (withinT a b) ∧ H' = H) := by
  have k : ASpec Tryd.prog 17 [agT a, agT b] [] (fun r H' => r = .bool (withinT a b) ∧ H' = []) := by
    refine ASpec.sel (Sg.s17 _ _ _ (condB (fun h => condBn (fun h1 => ?_) fun h1 => condB (fun h2 => ?_) fun h2 => pa ?_) fun h => pa ?_))
    · rw [nameEq] at h
      refine ASpec.call (within_spec _ _ ha hb _) (Les.refl _) ⟨_, rfl, rfl, pa ?_⟩
      rw [withinT, h, h1]; exact Le.refl _
    · rw [nameEq] at h
      refine ASpec.call (within_spec _ _ ha hb _) (Les.refl _) ⟨_, rfl, rfl, pa ?_⟩
      rw [withinT, h, h1, h2]; exact Le.refl _
    · rw [nameEq] at h
      rw [withinT, h, h1, h2]; exact Le.refl _
    · rw [nameEq] at h
      rw [withinT, h]; exact Le.refl _
  exact ASpec.pureH H k _ _ rfl rfl

theorem has_specT (t : Term) (v : Int) (c : Bool) (ht : okT t) (H : List AObj) : ASpec Tryd.prog 25 [agT t, .int .i64 v, .bool c] H (fun r H' => r = .bool (hasT t v c) ∧ H' = H) := by
  have k : ASpec Tryd.prog 25 [agT t, .int .i64 v, .bool c] [] (fun r H' => r = .bool (hasT t v c) ∧ H' = []) := by
    refine ASpec.sel (Sg.s25 _ _ _ _ (condBn (fun h => pa ?_) fun h => ?_))
    · rw [hasT, if_neg (by rw [h]; simp)]; exact Le.refl _
    · refine ASpec.call (has_spec _ _ ht _) (Les.refl _) ⟨_, rfl, rfl, pa ?_⟩
      rw [hasT, if_pos h]; exact Le.refl _
  exact ASpec.pureH H k _ _ rfl rfl

/-- may a term be? -/
def chkT (t : Term) : Bool := fitM t.1 && spanOk t.2.1
theorem check_spec (t : Term) (h1 : t.1.length ≤ lim) (h2 : t.2.1.length ≤ lim) (H : List AObj) : ASpec Tryd.prog 9 [agT t] H (fun r H' => r = .bool (chkT t) ∧ H' = H) := by
  unfold lim at h1
  have k : ASpec Tryd.prog 9 [agT t] [] (fun r H' => r = .bool (chkT t) ∧ H' = []) := by
    refine ASpec.sel (Sg.s9 _ _ (ASpec.call (fit_spec (l := t.1) (by unfold big; omega) _) (Les.refl _) ⟨_, rfl, rfl, condB (fun h => ?_) fun h => pa ?_⟩))
    · refine ASpec.call (spanCheck_spec _ h2 _) (Les.refl _) ⟨_, rfl, rfl, pa ?_⟩
      rw [chkT, h, Bool.true_and]; exact Le.refl _
    · rw [chkT, h, Bool.false_and]; exact Le.refl _
  exact ASpec.pureH H k _ _ rfl rfl

/-- more than is looked at -/
def largeT (t : Term) : Bool := decide (60 < t.2.1.length) || decide (200 < t.1.length)
theorem large_spec (t : Term) (H : List AObj) : ASpec Tryd.prog 8 [agT t] H (fun r H' => r = .bool (largeT t) ∧ H' = H) := by
  have k : ASpec Tryd.prog 8 [agT t] [] (fun r H' => r = .bool (largeT t) ∧ H' = []) := by
    refine ASpec.sel (Sg.s8 _ _ (condD (fun h => pa ?_) fun h => pa ?_))
    · rw [largeT, decide_eq_true (by omega), Bool.true_or]; exact Le.refl _
    · rw [largeT, show decide (60 < t.2.1.length) = false from decide_eq_false (by omega), Bool.false_or, B_size]
      have e : decide ((t.1.length : Int) > 200) = decide (200 < t.1.length) := by rw [decide_eq_decide]; omega
      rw [e]; exact Le.refl _
  exact ASpec.pureH H k _ _ rfl rfl

/-- within, by the document -/
theorem rwithin_specT (a b : Term) (ha : okT a) (hb : okT b) (H : List AObj) : ASpec Tryd.prog 29 [agT a, agT b] H (fun r H' => r = .bool (withinT a b) ∧ H' = H) := by
  have hsub : decide (meetS a.2.1 b.2.1 = a.2.1) = subS a.2.1 b.2.1 := by
    rw [Bool.eq_iff_iff, decide_eq_true_eq, meet_sub ha hb, subS_iff ha hb]
  have k : ASpec Tryd.prog 29 [agT a, agT b] [] (fun r H' => r = .bool (withinT a b) ∧ H' = []) := by
    refine ASpec.sel (Sg.s29 _ _ _ (condB (fun h => ?_) fun h => pa ?_))
    · rw [nameEq] at h
      refine ASpec.call (rwithin_spec _ _ ha hb _) (Les.refl _) ⟨_, rfl, rfl, ?_⟩
      rw [hsub]
      refine condB (fun h1 => condB (fun h2 => pa ?_) fun h2 => pa ?_) fun h1 => pa ?_
      · rw [withinT, h, h1, h2, Bool.or_true]; exact Le.refl _
      · rw [withinT, h, h1, h2, Bool.or_false, Bool.and_true, Bool.true_and]; exact Le.refl _
      · rw [withinT, h1, Bool.and_false, Bool.and_false]; exact Le.refl _
    · rw [nameEq] at h
      rw [withinT, h]; exact Le.refl _
  exact ASpec.pureH H k _ _ rfl rfl

theorem rsame_specT (a b : Term) (ha : a.2.1.length ≤ 2000000000) (H : List AObj) : ASpec Tryd.prog 19 [agT a, agT b] H (fun r H' => r = .bool (decide (a = b)) ∧ H' = H) := by
  have k : ASpec Tryd.prog 19 [agT a, agT b] [] (fun r H' => r = .bool (decide (a = b)) ∧ H' = []) := by
    refine ASpec.sel (Sg.s19 _ _ _ (condB (fun h => Sg.condQ (fun h1 => ?_) fun h1 => pa ?_) fun h => pa ?_))
    · rw [nameEq] at h
      refine ASpec.call (same_spec _ _ ha _) (Les.refl _) ⟨_, rfl, rfl, pa ?_⟩
      have e : decide (a.2.1 = b.2.1) = decide (a = b) := by
        obtain ⟨a1, a2, a3⟩ := a
        obtain ⟨b1, b2, b3⟩ := b
        have h := of_decide_eq_true h
        simp only at h h1 ⊢
        subst h h1
        rw [decide_eq_decide]; simp
      rw [e]; exact Le.refl _
    · rw [decide_eq_false (by rintro rfl; exact h1 rfl)]; exact Le.refl _
    · rw [nameEq] at h
      rw [decide_eq_false (by rintro rfl; exact (of_decide_eq_false h) rfl)]; exact Le.refl _
  exact ASpec.pureH H k _ _ rfl rfl

end Tm
end

section
/- Entries, and what an index knows. -/

open Go Go.Ab Go.Proofs
namespace T
end T
end

section
/- Names as cells. -/

open Go Go.Ab Go.Proofs
namespace T
noncomputable def encL (x : List UInt8) : List AV := [.str ⟨x.toArray⟩]
end T
end
