/- Q5: several of this proof's own texts, one behind the other: what each proves stands at its head. -/
import Derived.Test.YtbjcdgepclmmjaaProg
import Derived.Test.YtbjcdgepclmmjaaA3
section
/- Printed: what the code of functions 140, 141, 150, 151, 142, 143, 145, 144, 251, 146, 147, 148, 149, 250, 252 asks for, by the framework's own reading of it; each line is checked against the code. -/

set_option linter.unusedVariables false
set_option maxRecDepth 100000
set_option maxHeartbeats 4000000
open Go Go.Ab Go.Proofs
namespace V
noncomputable section

noncomputable def rd (bs : List UInt8) (p e : Int) : AObj := .cells [.sl 1 (.map encB 0 bs) .none, .int .i64 p, .int .i64 e]
noncomputable def upd3 (args : List AV) (H : List AObj) (p e : Int) : List AObj := match args with
  | .ptr id _ :: _ => match H[id]? with
    | some (.cells [b, _, _]) => H.set id (.cells [b, .int .i64 p, .int .i64 e])
    | _ => H
  | _ => H
noncomputable def upd2 (args : List AV) (H : List AObj) (s : ByteArray) (e : Int) : List AObj := match args with
  | .ptr id _ :: _ => H.set id (.cells [.str s, .int .i64 e])
  | _ => H
noncomputable def retL : List (Nat × Ret) := [
  (9016, ⟨Unit, fun _ _ _ => .bool true, fun _ H _ => H⟩),
  (140, ⟨List UInt8, fun _ H l => .sl 1 (.map encB 0 l) (.tok H.length), fun _ H _ => H ++ [.tok]⟩),
  (141, ⟨List UInt8, fun _ H l => .sl 1 (.map encB 0 l) (.tok H.length), fun _ H _ => H ++ [.tok]⟩),
  (9019, ⟨ByteArray, fun _ _ s => .str s, fun _ H _ => H⟩),
  (151, ⟨ByteArray, fun _ _ s => .str s, fun _ H _ => H⟩),
  (142, ⟨List UInt8, fun _ H _ => .ptr H.length 0, fun _ H l => H ++ [rd l 0 0]⟩),
  (143, ⟨Int × Int × Int, fun _ _ x => .int .i64 x.1, fun a H x => upd3 a H x.2.1 x.2.2⟩),
  (145, ⟨ByteArray × Int × Int, fun _ _ x => .str x.1, fun a H x => upd3 a H x.2.1 x.2.2⟩),
  (144, ⟨Int, fun _ _ x => .int .i64 x, fun _ H _ => H⟩),
  (251, ⟨Int, fun _ _ x => .int .i64 x, fun _ H _ => H⟩),
  (147, ⟨Int × ByteArray × Int, fun _ _ x => .int .i64 x.1, fun a H x => upd2 a H x.2.1 x.2.2⟩),
  (148, ⟨ByteArray × ByteArray × Int, fun _ _ x => .str x.1, fun a H x => upd2 a H x.2.1 x.2.2⟩),
  (9028, ⟨Int × Int, fun _ _ x => .tup [], fun a H x => upd3 a H x.1 x.2⟩),
  (9029, ⟨ByteArray × Int, fun _ _ x => .tup [], fun a H x => upd2 a H x.1 x.2⟩),
  (146, ⟨Int, fun _ _ x => .int .i64 x, fun _ H _ => H⟩),
  (149, ⟨Int, fun _ _ x => .int .i64 x, fun _ H _ => H⟩),
  (150, ⟨ByteArray, fun _ _ s => .str s, fun _ H _ => H⟩),
  (250, ⟨Int × Int × Int × Int, fun _ _ x => .tup [.int .i64 x.1, .int .i64 x.2.1], fun a H x => upd3 a H x.2.2.1 x.2.2.2⟩),
  (252, ⟨Int × Int × Int, fun _ _ x => .tup [.int .i64 x.1, .int .i64 x.2.1, .int .i64 x.2.2], fun _ H _ => H⟩)]
end
end V
end

section
/- Spans, needs, releases and manifests as cells. -/

open Go Go.Ab Go.Proofs
namespace T
abbrev Span := Int × Int
abbrev Need := List UInt8 × List Span
abbrev Rel := Int × List Need
noncomputable def encS (x : Span) : List AV := [.int .i64 x.1, .int .i64 x.2]
end T
end

section
/- Printed: what the code of functions 256, 285, 232, 239, 185, 186, 231, 130, 66, 163, 173, 62 asks for, by the framework's own reading of it; each line is checked against the code. -/

set_option linter.unusedVariables false
set_option maxRecDepth 100000
set_option maxHeartbeats 4000000
open Go Go.Ab Go.Proofs
namespace C
noncomputable section

noncomputable def retC : List (Nat × Ret) := [
  (39, ⟨Bool, fun _ _ x => .bool x, fun _ H _ => H⟩), (66, ⟨Bool, fun _ _ x => .bool x, fun _ H _ => H⟩), (62, ⟨Bool, fun _ _ x => .bool x, fun _ H _ => H⟩), (186, ⟨Bool, fun _ _ x => .bool x, fun _ H _ => H⟩),
  (154, ⟨Bool, fun _ _ x => .bool x, fun _ H _ => H⟩), (130, ⟨Bool, fun _ _ x => .bool x, fun _ H _ => H⟩), (185, ⟨Bool, fun _ _ x => .bool x, fun _ H _ => H⟩), (173, ⟨Bool, fun _ _ x => .bool x, fun _ H _ => H⟩),
  (231, ⟨Bool, fun _ _ x => .bool x, fun _ H _ => H⟩), (239, ⟨Bool, fun _ _ x => .bool x, fun _ H _ => H⟩), (163, ⟨Bool, fun _ _ x => .bool x, fun _ H _ => H⟩), (232, ⟨Bool, fun _ _ x => .bool x, fun _ H _ => H⟩),
  (285, ⟨Bool, fun _ _ x => .bool x, fun _ H _ => H⟩), (256, ⟨Bool, fun _ _ x => .bool x, fun _ H _ => H⟩)]
noncomputable def rets : FuncId → List Ret := lookupR (retC ++ V.retL)

-- 256
noncomputable def l256 : Nat → List Nat
  | 3 => [3, 6, 7, 8]
  | _ => []
noncomputable def u256 : Nat → Bool
  | _ => false
noncomputable def m256 : Nat → Bool
  | _ => false
noncomputable def g256 : Cfg := { N := 31, live := l256, cut := u256, mu := m256, ret := rets }
noncomputable def c256 : Go.Code := Go.Ab.bodyOf Go.Proofs.Try.f256
noncomputable def q256_0 : Nat → (AV → List AObj → Prop) → AQ := fun (n : Nat) (Post : AV → List AObj → Prop) => endQ Try.prog (resultsOf Try.f256) Post
noncomputable def q256_1 : Nat → (AV → List AObj → Prop) → AQ := fun (n : Nat) (Post : AV → List AObj → Prop) => seqQ (fun (s' : Slots) (H' : List AObj) => awp Try.prog g256 n (codeSnd (codeSnd (codeSnd c256))) s' H' (q256_0 n Post)) (q256_0 n Post)
noncomputable def q256_2 : Nat → (AV → List AObj → Prop) → AQ := fun (n : Nat) (Post : AV → List AObj → Prop) => blockQ 0 (q256_1 n Post)
noncomputable def c256_3 : Go.Code := codeFst (codeSnd (codeFst (codeSnd (codeSnd c256))))
theorem s256 : ∀ (l : List T.Span) (Post : AV → List AObj → Prop),
  AWP Try.prog 31 0 c256_3
      [(3, AV.int IntKind.i64 (-1 : Int)), (6, AV.sl 2 (Seq.map T.encS ((0 : Int), (0 : Int)) l) Tip.none), (7, AV.int IntKind.i64 (↑(List.length l) : Int)),
        (8, AV.int IntKind.i64 (0 : Int))]
      [] (q256_2 0 Post) →
    ASpec Try.prog 256 [AV.sl 2 (Seq.map T.encS ((0 : Int), (0 : Int)) l) Tip.none] [] Post := fun l Post h => Go.Ab.ASpec.of_vc g256 Go.Proofs.Try.func256 (by kernel_rfl) (by kernel_rfl) (by kernel_rfl) (Go.Ab.kc (by kernel_rfl) h)
theorem v256_3 : ∀ (l : List T.Span) (e n i : Int) (n_1 : Nat) (Post : AV → List AObj → Prop),
  condP (decide (i < n))
      (needP ((0 : Int) ≤ i ∧ i < (↑(List.length l) : Int))
        (condP (decide (Prod.fst (List.getD l (Int.toNat i) ((0 : Int), (0 : Int))) ≤ e))
        (Post (AV.bool false)
        [AObj.cells [AV.int IntKind.i64 (Prod.fst (List.getD l (Int.toNat i) ((0 : Int), (0 : Int)))), AV.int IntKind.i64 (Prod.snd (List.getD l (Int.toNat i) ((0 : Int), (0 : Int))))]])
        (condP (decide (Prod.fst (List.getD l (Int.toNat i) ((0 : Int), (0 : Int))) ≥ Prod.snd (List.getD l (Int.toNat i) ((0 : Int), (0 : Int)))))
        (Post (AV.bool false)
        [AObj.cells [AV.int IntKind.i64 (Prod.fst (List.getD l (Int.toNat i) ((0 : Int), (0 : Int)))), AV.int IntKind.i64 (Prod.snd (List.getD l (Int.toNat i) ((0 : Int), (0 : Int))))]])
        (condP (decide (Prod.snd (List.getD l (Int.toNat i) ((0 : Int), (0 : Int))) > (1000000000 : Int)))
        (Post (AV.bool false)
        [AObj.cells [AV.int IntKind.i64 (Prod.fst (List.getD l (Int.toNat i) ((0 : Int), (0 : Int)))), AV.int IntKind.i64 (Prod.snd (List.getD l (Int.toNat i) ((0 : Int), (0 : Int))))]])
        (AWP Try.prog 31 n_1 c256_3
        [(3, AV.int IntKind.i64 (Prod.snd (List.getD l (Int.toNat i) ((0 : Int), (0 : Int))))), (6, AV.sl 2 (Seq.map T.encS ((0 : Int), (0 : Int)) l) Tip.none),
        (7, AV.int IntKind.i64 n), (8, AV.int IntKind.i64 (IntKind.wrap IntKind.i64 (i + (1 : Int))))]
        [AObj.cells [AV.int IntKind.i64 (Prod.fst (List.getD l (Int.toNat i) ((0 : Int), (0 : Int)))), AV.int IntKind.i64 (Prod.snd (List.getD l (Int.toNat i) ((0 : Int), (0 : Int))))]]
        (q256_2 n_1 Post))))))
      (Post (AV.bool true) []) →
    AWP Try.prog 31 n_1 c256_3
      [(3, AV.int IntKind.i64 e), (6, AV.sl 2 (Seq.map T.encS ((0 : Int), (0 : Int)) l) Tip.none), (7, AV.int IntKind.i64 n), (8, AV.int IntKind.i64 i)] []
      (q256_2 n_1 Post) := fun l e n i n Post h => Go.Ab.AWP.loop' g256 (Cfg.live g256) c256_3 (by kernel_rfl) (by kernel_rfl) (Go.Ab.kc (by kernel_rfl) h)

-- 285
noncomputable def l285 : Nat → List Nat
  | 2 => [0, 3]
  | _ => []
noncomputable def u285 : Nat → Bool
  | _ => false
noncomputable def m285 : Nat → Bool
  | _ => false
noncomputable def g285 : Cfg := { N := 55, live := l285, cut := u285, mu := m285, ret := rets }
noncomputable def c285 : Go.Code := Go.Ab.bodyOf Go.Proofs.Try.f285
noncomputable def q285_0 : Nat → (AV → List AObj → Prop) → AQ := fun (n : Nat) (Post : AV → List AObj → Prop) => endQ Try.prog (resultsOf Try.f285) Post
noncomputable def q285_1 : Nat → (AV → List AObj → Prop) → AQ := fun (n : Nat) (Post : AV → List AObj → Prop) => seqQ (fun (s' : Slots) (H' : List AObj) => awp Try.prog g285 n (codeSnd (codeSnd c285)) s' H' (q285_0 n Post)) (q285_0 n Post)
noncomputable def q285_2 : Nat → (AV → List AObj → Prop) → AQ := fun (n : Nat) (Post : AV → List AObj → Prop) => blockQ 0 (q285_1 n Post)
noncomputable def c285_2 : Go.Code := codeFst (codeSnd (codeFst (codeSnd c285)))
theorem s285 : ∀ (l : List T.Span) (Post : AV → List AObj → Prop),
  AWP Try.prog 55 0 c285_2 [(0, AV.sl 2 (Seq.map T.encS ((0 : Int), (0 : Int)) l) Tip.none), (3, AV.int IntKind.i64 (0 : Int))] [] (q285_2 0 Post) →
    ASpec Try.prog 285 [AV.sl 2 (Seq.map T.encS ((0 : Int), (0 : Int)) l) Tip.none] [] Post := fun l Post h => Go.Ab.ASpec.of_vc g285 Go.Proofs.Try.func285 (by kernel_rfl) (by kernel_rfl) (by kernel_rfl) (Go.Ab.kc (by kernel_rfl) h)
theorem v285_2 : ∀ (l : List T.Span) (i : Int) (n : Nat) (Post : AV → List AObj → Prop),
  condP (decide (i < (↑(List.length l) : Int)))
      (needP ((0 : Int) ≤ i ∧ i < (↑(List.length l) : Int))
        (condP (decide (Prod.fst (List.getD l (Int.toNat i) ((0 : Int), (0 : Int))) < (0 : Int))) (Post (AV.bool false) [])
        (needP ((0 : Int) ≤ i ∧ i < (↑(List.length l) : Int))
        (condP (decide (Prod.snd (List.getD l (Int.toNat i) ((0 : Int), (0 : Int))) > (1000000000 : Int))) (Post (AV.bool false) [])
        (needP ((0 : Int) ≤ i ∧ i < (↑(List.length l) : Int))
        (needP ((0 : Int) ≤ i ∧ i < (↑(List.length l) : Int))
        (condP (decide (Prod.fst (List.getD l (Int.toNat i) ((0 : Int), (0 : Int))) ≥ Prod.snd (List.getD l (Int.toNat i) ((0 : Int), (0 : Int))))) (Post (AV.bool false) [])
        (condP (decide (i > (0 : Int)))
        (needP ((0 : Int) ≤ i ∧ i < (↑(List.length l) : Int))
        (needP ((0 : Int) ≤ IntKind.wrap IntKind.i64 (i - (1 : Int)) ∧ IntKind.wrap IntKind.i64 (i - (1 : Int)) < (↑(List.length l) : Int))
        (condP
        (decide
        (Prod.fst (List.getD l (Int.toNat i) ((0 : Int), (0 : Int))) ≤ Prod.snd (List.getD l (Int.toNat (IntKind.wrap IntKind.i64 (i - (1 : Int)))) ((0 : Int), (0 : Int)))))
        (Post (AV.bool false) [])
        (AWP Try.prog 55 n c285_2
        [(0, AV.sl 2 (Seq.map T.encS ((0 : Int), (0 : Int)) l) Tip.none), (3, AV.int IntKind.i64 (IntKind.wrap IntKind.i64 (i + (1 : Int))))] []
        (q285_2 n Post)))))
        (AWP Try.prog 55 n c285_2
        [(0, AV.sl 2 (Seq.map T.encS ((0 : Int), (0 : Int)) l) Tip.none), (3, AV.int IntKind.i64 (IntKind.wrap IntKind.i64 (i + (1 : Int))))] []
        (q285_2 n Post))))))))))
      (Post (AV.bool true) []) →
    AWP Try.prog 55 n c285_2 [(0, AV.sl 2 (Seq.map T.encS ((0 : Int), (0 : Int)) l) Tip.none), (3, AV.int IntKind.i64 i)] [] (q285_2 n Post) := fun l i n Post h => Go.Ab.AWP.loop' g285 (Cfg.live g285) c285_2 (by kernel_rfl) (by kernel_rfl) (Go.Ab.kc (by kernel_rfl) h)

-- 232
noncomputable def l231 : Nat → List Nat
  | _ => []
noncomputable def u231 : Nat → Bool
  | _ => false
noncomputable def m231 : Nat → Bool
  | _ => false
noncomputable def g231 : Cfg := { N := 9, live := l231, cut := u231, mu := m231, ret := rets }
theorem s231 : ∀ (x : Int) (Post : AV → List AObj → Prop),
  condP (decide (x ≥ (0 : Int))) (Post (AV.bool (decide (x < (1000000000 : Int)))) []) (Post (AV.bool false) []) → ASpec Try.prog 231 [AV.int IntKind.i64 x] [] Post := fun x Post h => Go.Ab.ASpec.of_vc g231 Go.Proofs.Try.func231 (by kernel_rfl) (by kernel_rfl) (by kernel_rfl) (Go.Ab.kc (by kernel_rfl) h)

-- 130
noncomputable def l130 : Nat → List Nat
  | 4 => [0, 3]
  | _ => []
noncomputable def l163 : Nat → List Nat
  | 4 => [0, 1, 5]
  | _ => []
noncomputable def u163 : Nat → Bool
  | _ => false
noncomputable def m163 : Nat → Bool
  | _ => false
noncomputable def g163 : Cfg := { N := 26, live := l163, cut := u163, mu := m163, ret := rets }
noncomputable def c163 : Go.Code := Go.Ab.bodyOf Go.Proofs.Try.f163
noncomputable def q163_0 : Nat → (AV → List AObj → Prop) → AQ := fun (n : Nat) (Post : AV → List AObj → Prop) => endQ Try.prog (resultsOf Try.f163) Post
noncomputable def q163_1 : Nat → (AV → List AObj → Prop) → AQ := fun (n : Nat) (Post : AV → List AObj → Prop) => seqQ (fun (s' : Slots) (H' : List AObj) => awp Try.prog g163 n (codeSnd (codeSnd (codeSnd c163))) s' H' (q163_0 n Post)) (q163_0 n Post)
noncomputable def q163_2 : Nat → (AV → List AObj → Prop) → AQ := fun (n : Nat) (Post : AV → List AObj → Prop) => blockQ 0 (q163_1 n Post)
noncomputable def c163_4 : Go.Code := codeFst (codeSnd (codeFst (codeSnd (codeSnd c163))))
theorem s163 : ∀ (a b : List T.Span) (Post : AV → List AObj → Prop),
  condP ((↑(List.length a) : Int) != (↑(List.length b) : Int)) (Post (AV.bool false) [])
      (AWP Try.prog 26 0 c163_4
        [(0, AV.sl 2 (Seq.map T.encS ((0 : Int), (0 : Int)) a) Tip.none), (1, AV.sl 2 (Seq.map T.encS ((0 : Int), (0 : Int)) b) Tip.none),
        (5, AV.int IntKind.i64 (0 : Int))]
        [] (q163_2 0 Post)) →
    ASpec Try.prog 163 [AV.sl 2 (Seq.map T.encS ((0 : Int), (0 : Int)) a) Tip.none, AV.sl 2 (Seq.map T.encS ((0 : Int), (0 : Int)) b) Tip.none] [] Post := fun a b Post h => Go.Ab.ASpec.of_vc g163 Go.Proofs.Try.func163 (by kernel_rfl) (by kernel_rfl) (by kernel_rfl) (Go.Ab.kc (by kernel_rfl) h)
theorem v163_4 : ∀ (a b : List T.Span) (i : Int) (n : Nat) (Post : AV → List AObj → Prop),
  condP (decide (i < (↑(List.length a) : Int)))
      (needP ((0 : Int) ≤ i ∧ i < (↑(List.length a) : Int))
        (needP ((0 : Int) ≤ i ∧ i < (↑(List.length b) : Int))
        (condP
        (!(Prod.fst (List.getD a (Int.toNat i) ((0 : Int), (0 : Int))) == Prod.fst (List.getD b (Int.toNat i) ((0 : Int), (0 : Int))) &&
        (Prod.snd (List.getD a (Int.toNat i) ((0 : Int), (0 : Int))) == Prod.snd (List.getD b (Int.toNat i) ((0 : Int), (0 : Int))) && true)))
        (Post (AV.bool false) [])
        (AWP Try.prog 26 n c163_4
        [(0, AV.sl 2 (Seq.map T.encS ((0 : Int), (0 : Int)) a) Tip.none), (1, AV.sl 2 (Seq.map T.encS ((0 : Int), (0 : Int)) b) Tip.none),
        (5, AV.int IntKind.i64 (IntKind.wrap IntKind.i64 (i + (1 : Int))))]
        [] (q163_2 n Post)))))
      (Post (AV.bool true) []) →
    AWP Try.prog 26 n c163_4
      [(0, AV.sl 2 (Seq.map T.encS ((0 : Int), (0 : Int)) a) Tip.none), (1, AV.sl 2 (Seq.map T.encS ((0 : Int), (0 : Int)) b) Tip.none),
        (5, AV.int IntKind.i64 i)]
      [] (q163_2 n Post) := fun a b i n Post h => Go.Ab.AWP.loop' g163 (Cfg.live g163) c163_4 (by kernel_rfl) (by kernel_rfl) (Go.Ab.kc (by kernel_rfl) h)

-- 173
end
end C
end

section
/- Terms, and a trail's entries, as cells. -/

open Go Go.Ab Go.Proofs
namespace T
/-- name, places, none -/
abbrev Term := List UInt8 × List Span × Bool
noncomputable def encT (x : Term) : List AV := [.str ⟨x.1.toArray⟩, .sl 2 (.map encS (0, 0) x.2.1) .none, .bool x.2.2]
abbrev noT : Term := ([], [], false)
/-- term, level, cause -/
abbrev TE := Term × Int × Int
noncomputable def encTE (x : TE) : List AV := [.str ⟨x.1.1.toArray⟩, .sl 2 (.map encS (0, 0) x.1.2.1) .none, .bool x.1.2.2, .int .i64 x.2.1, .int .i64 x.2.2]
abbrev noTE : TE := (noT, 0, 0)
end T
end

section
/- Printed: what the code of functions 366, 367, 318, 254, 368, 369, 319, 258, 320, 259, 289, 157, 255, 321, 260, 162, 331, 371, 392, 370, 257, 160, 161, 155, 159, 158, 200, 33, 34, 36, 153 asks for, by the framework's own reading of it; each line is checked against the code. -/

set_option linter.unusedVariables false
set_option maxRecDepth 100000
set_option maxHeartbeats 4000000
open Go Go.Ab Go.Proofs
namespace Sg
noncomputable section

noncomputable def addH (args : List AV) (H : List AObj) (o : AObj) : List AObj := match args with
  | .msl _ id _ _ :: _ => H.set id o
  | _ => H
noncomputable def addG (args : List AV) (H : List AObj) (o : AObj) : List AObj := match args with
  | .msl _ id _ _ :: _ => H.set id .gone ++ [o]
  | _ => H
noncomputable def headV : List AV → AV
  | v :: _ => v
  | [] => .bad
noncomputable def retG : List (Nat × Ret) := [
  (366, ⟨Int × Bool, fun _ _ x => .tup [.int .i64 x.1, .bool x.2], fun _ H _ => H⟩), (367, ⟨Int, fun _ _ x => .int .i64 x, fun _ H _ => H⟩), (318, ⟨Int, fun _ _ x => .int .i64 x, fun _ H _ => H⟩), (254, ⟨Bool, fun _ _ x => .bool x, fun _ H _ => H⟩), (368, ⟨Int, fun _ _ x => .int .i64 x, fun _ H _ => H⟩),
  (369, ⟨T.Span, fun _ H x => .msl 2 H.length 0 1, fun _ H x => H ++ [.arr 2 (.map T.encS (0, 0) [x])]⟩),
  (369, ⟨List T.Span, fun a _ x => headV a, fun a H x => addH a H (.arr 2 (.map T.encS (0, 0) x))⟩),
  (369, ⟨List T.Span, fun a H x => .msl 2 H.length 0 x.length, fun a H x => addG a H (.arr 2 (.map T.encS (0, 0) x))⟩),
  (319, ⟨List T.Span, fun _ _ x => .sl 2 (.map T.encS (0, 0) x) .none, fun _ H _ => H⟩), (258, ⟨List T.Span, fun _ _ x => .sl 2 (.map T.encS (0, 0) x) .none, fun _ H _ => H⟩), (320, ⟨Bool, fun _ _ x => .bool x, fun _ H _ => H⟩), (259, ⟨Bool, fun _ _ x => .bool x, fun _ H _ => H⟩), (289, ⟨List T.Span, fun _ _ x => .sl 2 (.map T.encS (0, 0) x) .none, fun _ H _ => H⟩), (157, ⟨List T.Span, fun _ _ x => .sl 2 (.map T.encS (0, 0) x) .none, fun _ H _ => H⟩), (255, ⟨List T.Span, fun _ _ x => .sl 2 (.map T.encS (0, 0) x) .none, fun _ H _ => H⟩),
  (321, ⟨List T.Span, fun _ _ x => .sl 2 (.map T.encS (0, 0) x) .none, fun _ H _ => H⟩), (260, ⟨List T.Span, fun _ _ x => .sl 2 (.map T.encS (0, 0) x) .none, fun _ H _ => H⟩), (162, ⟨Bool, fun _ _ x => .bool x, fun _ H _ => H⟩), (331, ⟨Bool, fun _ _ x => .bool x, fun _ H _ => H⟩), (371, ⟨Bool, fun _ _ x => .bool x, fun _ H _ => H⟩), (370, ⟨List Int, fun _ _ x => .sl 1 (.map encI 0 x) .none, fun _ H _ => H⟩), (392, ⟨List Int, fun _ _ x => .sl 1 (.map encI 0 x) .none, fun _ H _ => H⟩),
  (257, ⟨T.Term, fun _ _ x => .agg (T.encT x), fun _ H _ => H⟩), (160, ⟨T.Term, fun _ _ x => .agg (T.encT x), fun _ H _ => H⟩), (161, ⟨Bool, fun _ _ x => .bool x, fun _ H _ => H⟩), (155, ⟨Bool, fun _ _ x => .bool x, fun _ H _ => H⟩), (159, ⟨Bool, fun _ _ x => .bool x, fun _ H _ => H⟩), (158, ⟨Bool, fun _ _ x => .bool x, fun _ H _ => H⟩), (200, ⟨T.Term, fun _ _ x => .agg (T.encT x), fun _ H _ => H⟩), (33, ⟨Bool, fun _ _ x => .bool x, fun _ H _ => H⟩), (34, ⟨Bool, fun _ _ x => .bool x, fun _ H _ => H⟩), (36, ⟨Bool, fun _ _ x => .bool x, fun _ H _ => H⟩), (153, ⟨Bool, fun _ _ x => .bool x, fun _ H _ => H⟩)]
noncomputable def rets : FuncId → List Ret := lookupR (retG ++ C.retC ++ V.retL)

-- 366
noncomputable def l366 : Nat → List Nat
  | 3 => [0, 1, 2, 8, 9, 10]
  | _ => []
noncomputable def u366 : Nat → Bool
  | _ => false
noncomputable def m366 : Nat → Bool
  | _ => false
noncomputable def g366 : Cfg := { N := 49, live := l366, cut := u366, mu := m366, ret := rets }
noncomputable def c366 : Go.Code := Go.Ab.bodyOf Go.Proofs.Try.f366
noncomputable def q366_0 : Nat → (AV → List AObj → Prop) → AQ := fun (n : Nat) (Post : AV → List AObj → Prop) => endQ Try.prog (resultsOf Try.f366) Post
noncomputable def q366_1 : Nat → (AV → List AObj → Prop) → AQ := fun (n : Nat) (Post : AV → List AObj → Prop) => seqQ (fun (s' : Slots) (H' : List AObj) => awp Try.prog g366 n (codeSnd (codeSnd (codeSnd (codeSnd c366)))) s' H' (q366_0 n Post)) (q366_0 n Post)
noncomputable def q366_2 : Nat → (AV → List AObj → Prop) → AQ := fun (n : Nat) (Post : AV → List AObj → Prop) => blockQ 0 (q366_1 n Post)
noncomputable def c366_3 : Go.Code := codeFst (codeFst (codeSnd (codeSnd (codeSnd c366))))
theorem s366 : ∀ (l : List T.Span) (p : Int) (Post : AV → List AObj → Prop),
  AWP Try.prog 49 0 c366_3
      [(0, AV.sl 2 (Seq.map T.encS ((0 : Int), (0 : Int)) l) Tip.none), (1, AV.int IntKind.i64 p), (2, AV.fn (367 : FuncId) []),
        (8, AV.int IntKind.i64 (↑(List.length l) : Int)), (9, AV.int IntKind.i64 (0 : Int)), (10, AV.int IntKind.i64 (↑(List.length l) : Int))]
      [] (q366_2 0 Post) →
    ASpec Try.prog 366 [AV.sl 2 (Seq.map T.encS ((0 : Int), (0 : Int)) l) Tip.none, AV.int IntKind.i64 p, AV.fn (367 : FuncId) []] [] Post := fun l p Post h => Go.Ab.ASpec.of_vc g366 Go.Proofs.Try.func366 (by kernel_rfl) (by kernel_rfl) (by kernel_rfl) (Go.Ab.kc (by kernel_rfl) h)
theorem v366_3 : ∀ (l : List T.Span) (p n i j : Int) (n_1 : Nat) (Post : AV → List AObj → Prop),
  condP (decide (i < j))
      (needP ((0 : Int) ≤ (1 : Int))
        (needP
        ((0 : Int) ≤ IntKind.wrap IntKind.i64 (Int.fdiv (IntKind.wrap IntKind.u64 (IntKind.wrap IntKind.i64 (i + j))) (2 : Int)) ∧
        IntKind.wrap IntKind.i64 (Int.fdiv (IntKind.wrap IntKind.u64 (IntKind.wrap IntKind.i64 (i + j))) (2 : Int)) < (↑(List.length l) : Int))
        (ASpec Try.prog 367
        [AV.agg
        [AV.int IntKind.i64
        (Prod.fst (List.getD l (Int.toNat (IntKind.wrap IntKind.i64 (Int.fdiv (IntKind.wrap IntKind.u64 (IntKind.wrap IntKind.i64 (i + j))) (2 : Int)))) ((0 : Int), (0 : Int)))),
        AV.int IntKind.i64
        (Prod.snd (List.getD l (Int.toNat (IntKind.wrap IntKind.i64 (Int.fdiv (IntKind.wrap IntKind.u64 (IntKind.wrap IntKind.i64 (i + j))) (2 : Int)))) ((0 : Int), (0 : Int))))],
        AV.int IntKind.i64 p]
        [] fun (r : AV) (H' : List AObj) =>
        ∃ (x : Int),
        r = AV.int IntKind.i64 x ∧
        H' = [] ∧
        condP (decide (x < (0 : Int)))
        (AWP Try.prog 49 n_1 c366_3
        [(0, AV.sl 2 (Seq.map T.encS ((0 : Int), (0 : Int)) l) Tip.none), (1, AV.int IntKind.i64 p), (2, AV.fn (367 : FuncId) []),
        (8, AV.int IntKind.i64 n),
        (9,
        AV.int IntKind.i64 (IntKind.wrap IntKind.i64 (IntKind.wrap IntKind.i64 (Int.fdiv (IntKind.wrap IntKind.u64 (IntKind.wrap IntKind.i64 (i + j))) (2 : Int)) + (1 : Int)))),
        (10, AV.int IntKind.i64 j)]
        [] (q366_2 n_1 Post))
        (AWP Try.prog 49 n_1 c366_3
        [(0, AV.sl 2 (Seq.map T.encS ((0 : Int), (0 : Int)) l) Tip.none), (1, AV.int IntKind.i64 p), (2, AV.fn (367 : FuncId) []),
        (8, AV.int IntKind.i64 n), (9, AV.int IntKind.i64 i),
        (10, AV.int IntKind.i64 (IntKind.wrap IntKind.i64 (Int.fdiv (IntKind.wrap IntKind.u64 (IntKind.wrap IntKind.i64 (i + j))) (2 : Int))))]
        [] (q366_2 n_1 Post)))))
      (condP (decide (i < n))
        (needP ((0 : Int) ≤ i ∧ i < (↑(List.length l) : Int))
        (ASpec Try.prog 367
        [AV.agg [AV.int IntKind.i64 (Prod.fst (List.getD l (Int.toNat i) ((0 : Int), (0 : Int)))), AV.int IntKind.i64 (Prod.snd (List.getD l (Int.toNat i) ((0 : Int), (0 : Int))))],
        AV.int IntKind.i64 p]
        [] fun (r : AV) (H' : List AObj) => ∃ (x : Int), r = AV.int IntKind.i64 x ∧ H' = [] ∧ Post (AV.tup [AV.int IntKind.i64 i, AV.bool (x == (0 : Int))]) []))
        (Post (AV.tup [AV.int IntKind.i64 i, AV.bool false]) [])) →
    AWP Try.prog 49 n_1 c366_3
      [(0, AV.sl 2 (Seq.map T.encS ((0 : Int), (0 : Int)) l) Tip.none), (1, AV.int IntKind.i64 p), (2, AV.fn (367 : FuncId) []), (8, AV.int IntKind.i64 n),
        (9, AV.int IntKind.i64 i), (10, AV.int IntKind.i64 j)]
      [] (q366_2 n_1 Post) := fun l p n i j n Post h => Go.Ab.AWP.loop' g366 (Cfg.live g366) c366_3 (by kernel_rfl) (by kernel_rfl) (Go.Ab.kc (by kernel_rfl) h)

-- 367
noncomputable def l367 : Nat → List Nat
  | _ => []
noncomputable def u367 : Nat → Bool
  | _ => false
noncomputable def m367 : Nat → Bool
  | _ => false
noncomputable def g367 : Cfg := { N := 9, live := l367, cut := u367, mu := m367, ret := rets }
theorem s367 : ∀ (x : T.Span) (p : Int) (Post : AV → List AObj → Prop),
  condP (decide (Prod.snd x ≤ p)) (Post (AV.int IntKind.i64 (-1 : Int)) [AObj.cells [AV.int IntKind.i64 (Prod.fst x), AV.int IntKind.i64 (Prod.snd x)]])
      (Post (AV.int IntKind.i64 (1 : Int)) [AObj.cells [AV.int IntKind.i64 (Prod.fst x), AV.int IntKind.i64 (Prod.snd x)]]) →
    ASpec Try.prog 367 [AV.agg (T.encS x), AV.int IntKind.i64 p] [] Post := fun x p Post h => Go.Ab.ASpec.of_vc g367 Go.Proofs.Try.func367 (by kernel_rfl) (by kernel_rfl) (by kernel_rfl) (Go.Ab.kc (by kernel_rfl) h)

-- 318
noncomputable def l318 : Nat → List Nat
  | _ => []
noncomputable def u318 : Nat → Bool
  | _ => false
noncomputable def m318 : Nat → Bool
  | _ => false
noncomputable def g318 : Cfg := { N := 14, live := l318, cut := u318, mu := m318, ret := rets }
theorem s318 : ∀ (l : List T.Span) (p : Int) (Post : AV → List AObj → Prop),
  (ASpec Try.prog 366 [AV.sl 2 (Seq.map T.encS ((0 : Int), (0 : Int)) l) Tip.none, AV.int IntKind.i64 p, AV.fn 367 []] [] fun (r : AV) (H' : List AObj) =>
      ∃ (x : Int × Bool), r = AV.tup [AV.int IntKind.i64 (Prod.fst x), AV.bool (Prod.snd x)] ∧ H' = [] ∧ Post (AV.int IntKind.i64 (Prod.fst x)) []) →
    ASpec Try.prog 318 [AV.sl 2 (Seq.map T.encS ((0 : Int), (0 : Int)) l) Tip.none, AV.int IntKind.i64 p] [] Post := fun l p Post h => Go.Ab.ASpec.of_vc g318 Go.Proofs.Try.func318 (by kernel_rfl) (by kernel_rfl) (by kernel_rfl) (Go.Ab.kc (by kernel_rfl) h)

-- 254
noncomputable def l254 : Nat → List Nat
  | _ => []
noncomputable def u254 : Nat → Bool
  | _ => false
noncomputable def m254 : Nat → Bool
  | _ => false
noncomputable def g254 : Cfg := { N := 22, live := l254, cut := u254, mu := m254, ret := rets }
theorem s254 : ∀ (l : List T.Span) (p : Int) (Post : AV → List AObj → Prop),
  (ASpec Try.prog 318 [AV.sl 2 (Seq.map T.encS ((0 : Int), (0 : Int)) l) Tip.none, AV.int IntKind.i64 p] [] fun (r : AV) (H' : List AObj) =>
      ∃ (x : Int),
        r = AV.int IntKind.i64 x ∧
        H' = [] ∧
        condP (decide (x < (↑(List.length l) : Int)))
        (needP ((0 : Int) ≤ x ∧ x < (↑(List.length l) : Int)) (Post (AV.bool (decide (Prod.fst (List.getD l (Int.toNat x) ((0 : Int), (0 : Int))) ≤ p))) [])) (Post (AV.bool false) [])) →
    ASpec Try.prog 254 [AV.sl 2 (Seq.map T.encS ((0 : Int), (0 : Int)) l) Tip.none, AV.int IntKind.i64 p] [] Post := fun l p Post h => Go.Ab.ASpec.of_vc g254 Go.Proofs.Try.func254 (by kernel_rfl) (by kernel_rfl) (by kernel_rfl) (Go.Ab.kc (by kernel_rfl) h)

-- 368
noncomputable def l368 : Nat → List Nat
  | _ => []
noncomputable def u368 : Nat → Bool
  | _ => false
noncomputable def m368 : Nat → Bool
  | _ => false
noncomputable def g368 : Cfg := { N := 32, live := l368, cut := u368, mu := m368, ret := rets }
theorem s368 : ∀ (l : List T.Span) (p : Int) (Post : AV → List AObj → Prop),
  (ASpec Try.prog 318 [AV.sl 2 (Seq.map T.encS ((0 : Int), (0 : Int)) l) Tip.none, AV.int IntKind.i64 p] [] fun (r : AV) (H' : List AObj) =>
      ∃ (x : Int),
        r = AV.int IntKind.i64 x ∧
        H' = [] ∧
        condP (x == (↑(List.length l) : Int)) (Post (AV.int IntKind.i64 (1000000000 : Int)) [])
        (needP ((0 : Int) ≤ x ∧ x < (↑(List.length l) : Int))
        (condP (decide (Prod.fst (List.getD l (Int.toNat x) ((0 : Int), (0 : Int))) > p))
        (needP ((0 : Int) ≤ x ∧ x < (↑(List.length l) : Int)) (Post (AV.int IntKind.i64 (Prod.fst (List.getD l (Int.toNat x) ((0 : Int), (0 : Int))))) []))
        (needP ((0 : Int) ≤ x ∧ x < (↑(List.length l) : Int)) (Post (AV.int IntKind.i64 (Prod.snd (List.getD l (Int.toNat x) ((0 : Int), (0 : Int))))) []))))) →
    ASpec Try.prog 368 [AV.sl 2 (Seq.map T.encS ((0 : Int), (0 : Int)) l) Tip.none, AV.int IntKind.i64 p] [] Post := fun l p Post h => Go.Ab.ASpec.of_vc g368 Go.Proofs.Try.func368 (by kernel_rfl) (by kernel_rfl) (by kernel_rfl) (Go.Ab.kc (by kernel_rfl) h)

-- 369
noncomputable def l369 : Nat → List Nat
  | _ => []
noncomputable def u369 : Nat → Bool
  | _ => false
noncomputable def m369 : Nat → Bool
  | 37 => true
  | _ => false
noncomputable def g369 : Cfg := { N := 38, live := l369, cut := u369, mu := m369, ret := rets }
theorem s369n : ∀ (s : T.Span) (Post : AV → List AObj → Prop),
  needP (16 ≤ 140737488351232)
      (needP (1 ≤ 1)
        (Post (AV.msl 2 1 0 1)
        [AObj.cells [AV.int IntKind.i64 (Prod.fst s), AV.int IntKind.i64 (Prod.snd s)], AObj.arr 2 (Seq.raw [[AV.int IntKind.i64 (Prod.fst s), AV.int IntKind.i64 (Prod.snd s)]])])) →
    ASpec Try.prog 369 [AV.sl 0 (Seq.raw []) Tip.nil, AV.agg (T.encS s)] [] Post := fun s Post h => Go.Ab.ASpec.of_vc g369 Go.Proofs.Try.func369 (by kernel_rfl) (by kernel_rfl) (by kernel_rfl) (Go.Ab.kc (by kernel_rfl) h)
theorem s369m : ∀ (o : List T.Span) (k : Nat) (s : T.Span) (Post : AV → List AObj → Prop),
  condP (decide (IntKind.wrap IntKind.i64 ((↑k : Int) - (1 : Int)) ≥ (0 : Int)))
      (needP ((0 : Int) ≤ IntKind.wrap IntKind.i64 ((↑k : Int) - (1 : Int)) ∧ IntKind.wrap IntKind.i64 ((↑k : Int) - (1 : Int)) < (↑k : Int))
        (needP (0 + Int.toNat (IntKind.wrap IntKind.i64 ((↑k : Int) - (1 : Int))) < List.length o)
        (condP (decide (Prod.fst s ≤ Prod.snd (List.getD o (0 + Int.toNat (IntKind.wrap IntKind.i64 ((↑k : Int) - (1 : Int)))) ((0 : Int), (0 : Int)))))
        (needP ((0 : Int) ≤ IntKind.wrap IntKind.i64 ((↑k : Int) - (1 : Int)) ∧ IntKind.wrap IntKind.i64 ((↑k : Int) - (1 : Int)) < (↑k : Int))
        (needP (0 + Int.toNat (IntKind.wrap IntKind.i64 ((↑k : Int) - (1 : Int))) < List.length o)
        (needP ((0 : Int) ≤ IntKind.wrap IntKind.i64 ((↑k : Int) - (1 : Int)) ∧ IntKind.wrap IntKind.i64 ((↑k : Int) - (1 : Int)) < (↑k : Int))
        (needP (0 + Int.toNat (IntKind.wrap IntKind.i64 ((↑k : Int) - (1 : Int))) < List.length o)
        (Post (AV.msl 2 0 0 k)
        [AObj.arr 2
        (Seq.raw
        (List.set (Seq.toList (Seq.map T.encS ((0 : Int), (0 : Int)) o)) (0 + Int.toNat (IntKind.wrap IntKind.i64 ((↑k : Int) - (1 : Int))))
        [AV.int IntKind.i64 (Prod.fst (List.getD o (0 + Int.toNat (IntKind.wrap IntKind.i64 ((↑k : Int) - (1 : Int)))) ((0 : Int), (0 : Int)))),
        AV.int IntKind.i64
        (if Prod.snd s > Prod.snd (List.getD o (0 + Int.toNat (IntKind.wrap IntKind.i64 ((↑k : Int) - (1 : Int)))) ((0 : Int), (0 : Int))) then Prod.snd s
        else Prod.snd (List.getD o (0 + Int.toNat (IntKind.wrap IntKind.i64 ((↑k : Int) - (1 : Int)))) ((0 : Int), (0 : Int))))])),
        AObj.cells [AV.int IntKind.i64 (Prod.fst s), AV.int IntKind.i64 (Prod.snd s)]])))))
        (needP (k = List.length o ∧ (k + 1) * 16 ≤ 140737488351232)
        (Post (AV.msl 2 2 0 (k + 1))
        [AObj.gone, AObj.cells [AV.int IntKind.i64 (Prod.fst s), AV.int IntKind.i64 (Prod.snd s)],
        AObj.arr 2 (Seq.app (Seq.map T.encS ((0 : Int), (0 : Int)) o) (Seq.raw [[AV.int IntKind.i64 (Prod.fst s), AV.int IntKind.i64 (Prod.snd s)]]))])))))
      (needP (k = List.length o ∧ (k + 1) * 16 ≤ 140737488351232)
        (Post (AV.msl 2 2 0 (k + 1))
        [AObj.gone, AObj.cells [AV.int IntKind.i64 (Prod.fst s), AV.int IntKind.i64 (Prod.snd s)],
        AObj.arr 2 (Seq.app (Seq.map T.encS ((0 : Int), (0 : Int)) o) (Seq.raw [[AV.int IntKind.i64 (Prod.fst s), AV.int IntKind.i64 (Prod.snd s)]]))])) →
    ASpec Try.prog 369 [AV.msl 2 0 0 k, AV.agg (T.encS s)] [AObj.arr 2 (Seq.map T.encS ((0 : Int), (0 : Int)) o)] Post := fun o k s Post h => Go.Ab.ASpec.of_vc g369 Go.Proofs.Try.func369 (by kernel_rfl) (by kernel_rfl) (by kernel_rfl) (Go.Ab.kc (by kernel_rfl) h)

-- 319
noncomputable def l319 : Nat → List Nat
  | 3 => [0, 1, 2, 7, 8]
  | 8 => [7]
  | _ => []
noncomputable def u319 : Nat → Bool
  | 8 => true
  | _ => false
noncomputable def m319 : Nat → Bool
  | _ => false
noncomputable def g319 : Cfg := { N := 34, live := l319, cut := u319, mu := m319, ret := rets }
noncomputable def c319 : Go.Code := Go.Ab.bodyOf Go.Proofs.Try.f319
noncomputable def q319_0 : Nat → (AV → List AObj → Prop) → AQ := fun (n : Nat) (Post : AV → List AObj → Prop) => endQ Try.prog (resultsOf Try.f319) Post
noncomputable def c319_8 : Go.Code := codeSnd (codeSnd (codeSnd c319))
noncomputable def q319_1 : Nat → (AV → List AObj → Prop) → AQ := fun (n : Nat) (Post : AV → List AObj → Prop) => seqQ (fun (s' : Slots) (H' : List AObj) => AWP Try.prog (Cfg.N g319) n c319_8 (restrict s' (Cfg.live g319 8)) H' (q319_0 n Post)) (q319_0 n Post)
noncomputable def q319_2 : Nat → (AV → List AObj → Prop) → AQ := fun (n : Nat) (Post : AV → List AObj → Prop) => blockQ 0 (q319_1 n Post)
noncomputable def c319_3 : Go.Code := codeFst (codeSnd (codeFst (codeSnd (codeSnd c319))))
theorem s319 : ∀ (a b : List T.Span) (Post : AV → List AObj → Prop),
  AWP Try.prog 34 0 c319_3
      [(0, AV.sl 2 (Seq.map T.encS ((0 : Int), (0 : Int)) a) Tip.none), (1, AV.sl 2 (Seq.map T.encS ((0 : Int), (0 : Int)) b) Tip.none),
        (2, AV.fn (320 : FuncId) []), (7, AV.sl 0 (Seq.raw []) Tip.nil), (8, AV.int IntKind.i64 (0 : Int))]
      [] (q319_2 0 Post) →
    ASpec Try.prog 319 [AV.sl 2 (Seq.map T.encS ((0 : Int), (0 : Int)) a) Tip.none, AV.sl 2 (Seq.map T.encS ((0 : Int), (0 : Int)) b) Tip.none, AV.fn (320 : FuncId) []] [] Post := fun a b Post h => Go.Ab.ASpec.of_vc g319 Go.Proofs.Try.func319 (by kernel_rfl) (by kernel_rfl) (by kernel_rfl) (Go.Ab.kc (by kernel_rfl) h)
theorem v319_3n : ∀ (a b : List T.Span) (p : Int) (n : Nat) (Post : AV → List AObj → Prop),
  condP (decide (p < (1000000000 : Int)))
      (ASpec Try.prog 368 [AV.sl 2 (Seq.map T.encS ((0 : Int), (0 : Int)) a) Tip.none, AV.int IntKind.i64 p] [] fun (r : AV) (H' : List AObj) =>
        ∃ (x : Int),
        r = AV.int IntKind.i64 x ∧
        H' = [] ∧
        ASpec Try.prog 368 [AV.sl 2 (Seq.map T.encS ((0 : Int), (0 : Int)) b) Tip.none, AV.int IntKind.i64 p] [] fun (r : AV) (H' : List AObj) =>
        ∃ (x_1 : Int),
        r = AV.int IntKind.i64 x_1 ∧
        H' = [] ∧
        ASpec Try.prog 254 [AV.sl 2 (Seq.map T.encS ((0 : Int), (0 : Int)) a) Tip.none, AV.int IntKind.i64 p] [] fun (r : AV) (H' : List AObj) =>
        ∃ (x_2 : Bool),
        r = AV.bool x_2 ∧
        H' = [] ∧
        ASpec Try.prog 254 [AV.sl 2 (Seq.map T.encS ((0 : Int), (0 : Int)) b) Tip.none, AV.int IntKind.i64 p] [] fun (r : AV) (H' : List AObj) =>
        ∃ (x_3 : Bool),
        r = AV.bool x_3 ∧
        H' = [] ∧
        ASpec Try.prog 320 [AV.bool x_2, AV.bool x_3] [] fun (r : AV) (H' : List AObj) =>
        ∃ (x_4 : Bool),
        r = AV.bool x_4 ∧
        H' = [] ∧
        condP x_4
        (ASpec Try.prog 369 [AV.sl 0 (Seq.raw []) Tip.nil, AV.agg [AV.int IntKind.i64 p, AV.int IntKind.i64 (if x_1 < x then x_1 else x)]] []
        fun (r : AV) (H' : List AObj) =>
        (∃ (x_5 : Int × Int),
        r = AV.msl 2 0 0 1 ∧
        H' = [AObj.arr 2 (Seq.map T.encS ((0 : Int), (0 : Int)) [x_5])] ∧
        AWP Try.prog 34 n c319_3
        [(0, AV.sl 2 (Seq.map T.encS ((0 : Int), (0 : Int)) a) Tip.none),
        (1, AV.sl 2 (Seq.map T.encS ((0 : Int), (0 : Int)) b) Tip.none), (2, AV.fn (320 : FuncId) []),
        (7, AV.msl 2 0 0 1), (8, AV.int IntKind.i64 (if x_1 < x then x_1 else x))]
        [AObj.arr 2 (Seq.map T.encS ((0 : Int), (0 : Int)) [x_5])] (q319_2 n Post)) ∨
        (∃ (x_5 : List T.Span),
        r = AV.sl 0 (Seq.raw []) Tip.nil ∧
        H' = [] ∧
        AWP Try.prog 34 n c319_3
        [(0, AV.sl 2 (Seq.map T.encS ((0 : Int), (0 : Int)) a) Tip.none),
        (1, AV.sl 2 (Seq.map T.encS ((0 : Int), (0 : Int)) b) Tip.none), (2, AV.fn (320 : FuncId) []),
        (7, AV.sl 0 (Seq.raw []) Tip.nil), (8, AV.int IntKind.i64 (if x_1 < x then x_1 else x))]
        [] (q319_2 n Post)) ∨
        ∃ (x_5 : List T.Span),
        r = AV.msl 2 0 0 (List.length x_5) ∧
        H' = [] ∧
        AWP Try.prog 34 n c319_3
        [(0, AV.sl 2 (Seq.map T.encS ((0 : Int), (0 : Int)) a) Tip.none),
        (1, AV.sl 2 (Seq.map T.encS ((0 : Int), (0 : Int)) b) Tip.none), (2, AV.fn (320 : FuncId) []),
        (7, AV.msl 2 0 0 (List.length x_5)), (8, AV.int IntKind.i64 (if x_1 < x then x_1 else x))]
        [] (q319_2 n Post))
        (AWP Try.prog 34 n c319_3
        [(0, AV.sl 2 (Seq.map T.encS ((0 : Int), (0 : Int)) a) Tip.none),
        (1, AV.sl 2 (Seq.map T.encS ((0 : Int), (0 : Int)) b) Tip.none), (2, AV.fn (320 : FuncId) []),
        (7, AV.sl 0 (Seq.raw []) Tip.nil), (8, AV.int IntKind.i64 (if x_1 < x then x_1 else x))]
        [] (q319_2 n Post)))
      (AWP Try.prog 34 n c319_8 [(7, AV.sl 0 (Seq.raw []) Tip.nil)] [] (q319_0 n Post)) →
    AWP Try.prog 34 n c319_3
      [(0, AV.sl 2 (Seq.map T.encS ((0 : Int), (0 : Int)) a) Tip.none), (1, AV.sl 2 (Seq.map T.encS ((0 : Int), (0 : Int)) b) Tip.none),
        (2, AV.fn (320 : FuncId) []), (7, AV.sl 0 (Seq.raw []) Tip.nil), (8, AV.int IntKind.i64 p)]
      [] (q319_2 n Post) := fun a b p n Post h => Go.Ab.AWP.loop' g319 (Cfg.live g319) c319_3 (by kernel_rfl) (by kernel_rfl) (Go.Ab.kc (by kernel_rfl) h)
theorem v319_3m : ∀ (a b o : List T.Span) (k : Nat) (p : Int) (n : Nat) (Post : AV → List AObj → Prop),
  condP (decide (p < (1000000000 : Int)))
      (ASpec Try.prog 368 [AV.sl 2 (Seq.map T.encS ((0 : Int), (0 : Int)) a) Tip.none, AV.int IntKind.i64 p] [AObj.arr 2 (Seq.map T.encS ((0 : Int), (0 : Int)) o)]
        fun (r : AV) (H' : List AObj) =>
        ∃ (x : Int),
        r = AV.int IntKind.i64 x ∧
        H' = [AObj.arr 2 (Seq.map T.encS ((0 : Int), (0 : Int)) o)] ∧
        ASpec Try.prog 368 [AV.sl 2 (Seq.map T.encS ((0 : Int), (0 : Int)) b) Tip.none, AV.int IntKind.i64 p] [AObj.arr 2 (Seq.map T.encS ((0 : Int), (0 : Int)) o)]
        fun (r : AV) (H' : List AObj) =>
        ∃ (x_1 : Int),
        r = AV.int IntKind.i64 x_1 ∧
        H' = [AObj.arr 2 (Seq.map T.encS ((0 : Int), (0 : Int)) o)] ∧
        ASpec Try.prog 254 [AV.sl 2 (Seq.map T.encS ((0 : Int), (0 : Int)) a) Tip.none, AV.int IntKind.i64 p]
        [AObj.arr 2 (Seq.map T.encS ((0 : Int), (0 : Int)) o)] fun (r : AV) (H' : List AObj) =>
        ∃ (x_2 : Bool),
        r = AV.bool x_2 ∧
        H' = [AObj.arr 2 (Seq.map T.encS ((0 : Int), (0 : Int)) o)] ∧
        ASpec Try.prog 254 [AV.sl 2 (Seq.map T.encS ((0 : Int), (0 : Int)) b) Tip.none, AV.int IntKind.i64 p]
        [AObj.arr 2 (Seq.map T.encS ((0 : Int), (0 : Int)) o)] fun (r : AV) (H' : List AObj) =>
        ∃ (x_3 : Bool),
        r = AV.bool x_3 ∧
        H' = [AObj.arr 2 (Seq.map T.encS ((0 : Int), (0 : Int)) o)] ∧
        ASpec Try.prog 320 [AV.bool x_2, AV.bool x_3] [AObj.arr 2 (Seq.map T.encS ((0 : Int), (0 : Int)) o)] fun (r : AV) (H' : List AObj) =>
        ∃ (x_4 : Bool),
        r = AV.bool x_4 ∧
        H' = [AObj.arr 2 (Seq.map T.encS ((0 : Int), (0 : Int)) o)] ∧
        condP x_4
        (ASpec Try.prog 369 [AV.msl 2 0 0 k, AV.agg [AV.int IntKind.i64 p, AV.int IntKind.i64 (if x_1 < x then x_1 else x)]]
        [AObj.arr 2 (Seq.map T.encS ((0 : Int), (0 : Int)) o)] fun (r : AV) (H' : List AObj) =>
        (∃ (x_5 : Int × Int),
        r = AV.msl 2 1 0 1 ∧
        H' = [AObj.arr 2 (Seq.map T.encS ((0 : Int), (0 : Int)) o), AObj.arr 2 (Seq.map T.encS ((0 : Int), (0 : Int)) [x_5])] ∧
        AWP Try.prog 34 n c319_3
        [(0, AV.sl 2 (Seq.map T.encS ((0 : Int), (0 : Int)) a) Tip.none),
        (1, AV.sl 2 (Seq.map T.encS ((0 : Int), (0 : Int)) b) Tip.none), (2, AV.fn (320 : FuncId) []),
        (7, AV.msl 2 1 0 1), (8, AV.int IntKind.i64 (if x_1 < x then x_1 else x))]
        [AObj.arr 2 (Seq.map T.encS ((0 : Int), (0 : Int)) o), AObj.arr 2 (Seq.map T.encS ((0 : Int), (0 : Int)) [x_5])]
        (q319_2 n Post)) ∨
        (∃ (x_5 : List T.Span),
        r = AV.msl 2 0 0 k ∧
        H' = [AObj.arr 2 (Seq.map T.encS ((0 : Int), (0 : Int)) x_5)] ∧
        AWP Try.prog 34 n c319_3
        [(0, AV.sl 2 (Seq.map T.encS ((0 : Int), (0 : Int)) a) Tip.none),
        (1, AV.sl 2 (Seq.map T.encS ((0 : Int), (0 : Int)) b) Tip.none), (2, AV.fn (320 : FuncId) []),
        (7, AV.msl 2 0 0 k), (8, AV.int IntKind.i64 (if x_1 < x then x_1 else x))]
        [AObj.arr 2 (Seq.map T.encS ((0 : Int), (0 : Int)) x_5)] (q319_2 n Post)) ∨
        ∃ (x_5 : List T.Span),
        r = AV.msl 2 1 0 (List.length x_5) ∧
        H' = [AObj.gone, AObj.arr 2 (Seq.map T.encS ((0 : Int), (0 : Int)) x_5)] ∧
        AWP Try.prog 34 n c319_3
        [(0, AV.sl 2 (Seq.map T.encS ((0 : Int), (0 : Int)) a) Tip.none),
        (1, AV.sl 2 (Seq.map T.encS ((0 : Int), (0 : Int)) b) Tip.none), (2, AV.fn (320 : FuncId) []),
        (7, AV.msl 2 1 0 (List.length x_5)), (8, AV.int IntKind.i64 (if x_1 < x then x_1 else x))]
        [AObj.gone, AObj.arr 2 (Seq.map T.encS ((0 : Int), (0 : Int)) x_5)] (q319_2 n Post))
        (AWP Try.prog 34 n c319_3
        [(0, AV.sl 2 (Seq.map T.encS ((0 : Int), (0 : Int)) a) Tip.none),
        (1, AV.sl 2 (Seq.map T.encS ((0 : Int), (0 : Int)) b) Tip.none), (2, AV.fn (320 : FuncId) []),
        (7, AV.msl 2 0 0 k), (8, AV.int IntKind.i64 (if x_1 < x then x_1 else x))]
        [AObj.arr 2 (Seq.map T.encS ((0 : Int), (0 : Int)) o)] (q319_2 n Post)))
      (AWP Try.prog 34 n c319_8 [(7, AV.msl 2 0 0 k)] [AObj.arr 2 (Seq.map T.encS ((0 : Int), (0 : Int)) o)] (q319_0 n Post)) →
    AWP Try.prog 34 n c319_3
      [(0, AV.sl 2 (Seq.map T.encS ((0 : Int), (0 : Int)) a) Tip.none), (1, AV.sl 2 (Seq.map T.encS ((0 : Int), (0 : Int)) b) Tip.none),
        (2, AV.fn (320 : FuncId) []), (7, AV.msl 2 0 0 k), (8, AV.int IntKind.i64 p)]
      [AObj.arr 2 (Seq.map T.encS ((0 : Int), (0 : Int)) o)] (q319_2 n Post) := fun a b o k p n Post h => Go.Ab.AWP.loop' g319 (Cfg.live g319) c319_3 (by kernel_rfl) (by kernel_rfl) (Go.Ab.kc (by kernel_rfl) h)
theorem v319_8n : ∀ (n : Nat) (Post : AV → List AObj → Prop), Post (AV.sl 0 (Seq.raw []) Tip.nil) [] → AWP Try.prog 34 n c319_8 [(7, AV.sl 0 (Seq.raw []) Tip.nil)] [] (q319_0 n Post) := fun n Post h => Go.Ab.awp_sound g319 n _ _ _ _ (Go.Ab.kc (by kernel_rfl) h)
theorem v319_8s : ∀ (o : List T.Span) (n : Nat) (Post : AV → List AObj → Prop),
  Post (AV.sl 2 (Seq.map T.encS ((0 : Int), (0 : Int)) o) Tip.none) [] →
    AWP Try.prog 34 n c319_8 [(7, AV.sl 2 (Seq.map T.encS ((0 : Int), (0 : Int)) o) Tip.none)] [] (q319_0 n Post) := fun o n Post h => Go.Ab.awp_sound g319 n _ _ _ _ (Go.Ab.kc (by kernel_rfl) h)

-- 258
noncomputable def l258 : Nat → List Nat
  | _ => []
noncomputable def u258 : Nat → Bool
  | _ => false
noncomputable def m258 : Nat → Bool
  | _ => false
noncomputable def g258 : Cfg := { N := 8, live := l258, cut := u258, mu := m258, ret := rets }
theorem s258 : ∀ (a b : List T.Span) (Post : AV → List AObj → Prop),
  (ASpec Try.prog 319 [AV.sl 2 (Seq.map T.encS ((0 : Int), (0 : Int)) a) Tip.none, AV.sl 2 (Seq.map T.encS ((0 : Int), (0 : Int)) b) Tip.none, AV.fn 320 []] []
      fun (r : AV) (H' : List AObj) =>
      ∃ (x : List T.Span), r = AV.sl 2 (Seq.map T.encS ((0 : Int), (0 : Int)) x) Tip.none ∧ H' = [] ∧ Post (AV.sl 2 (Seq.map T.encS ((0 : Int), (0 : Int)) x) Tip.none) []) →
    ASpec Try.prog 258 [AV.sl 2 (Seq.map T.encS ((0 : Int), (0 : Int)) a) Tip.none, AV.sl 2 (Seq.map T.encS ((0 : Int), (0 : Int)) b) Tip.none] [] Post := fun a b Post h => Go.Ab.ASpec.of_vc g258 Go.Proofs.Try.func258 (by kernel_rfl) (by kernel_rfl) (by kernel_rfl) (Go.Ab.kc (by kernel_rfl) h)

-- 320
noncomputable def l320 : Nat → List Nat
  | _ => []
noncomputable def u320 : Nat → Bool
  | _ => false
noncomputable def m320 : Nat → Bool
  | _ => false
noncomputable def g320 : Cfg := { N := 9, live := l320, cut := u320, mu := m320, ret := rets }
theorem s320 : ∀ (x y : Bool) (Post : AV → List AObj → Prop), condP x (Post (AV.bool y) []) (Post (AV.bool false) []) → ASpec Try.prog 320 [AV.bool x, AV.bool y] [] Post := fun x y Post h => Go.Ab.ASpec.of_vc g320 Go.Proofs.Try.func320 (by kernel_rfl) (by kernel_rfl) (by kernel_rfl) (Go.Ab.kc (by kernel_rfl) h)

-- 259
noncomputable def l259 : Nat → List Nat
  | 2 => [1, 8, 9, 10]
  | _ => []
noncomputable def u259 : Nat → Bool
  | _ => false
noncomputable def m259 : Nat → Bool
  | _ => false
noncomputable def g259 : Cfg := { N := 43, live := l259, cut := u259, mu := m259, ret := rets }
noncomputable def c259 : Go.Code := Go.Ab.bodyOf Go.Proofs.Try.f259
noncomputable def q259_0 : Nat → (AV → List AObj → Prop) → AQ := fun (n : Nat) (Post : AV → List AObj → Prop) => endQ Try.prog (resultsOf Try.f259) Post
noncomputable def q259_1 : Nat → (AV → List AObj → Prop) → AQ := fun (n : Nat) (Post : AV → List AObj → Prop) => seqQ (fun (s' : Slots) (H' : List AObj) => awp Try.prog g259 n (codeSnd (codeSnd c259)) s' H' (q259_0 n Post)) (q259_0 n Post)
noncomputable def q259_2 : Nat → (AV → List AObj → Prop) → AQ := fun (n : Nat) (Post : AV → List AObj → Prop) => blockQ 0 (q259_1 n Post)
noncomputable def c259_2 : Go.Code := codeFst (codeSnd (codeFst (codeSnd c259)))
theorem s259 : ∀ (a b : List T.Span) (Post : AV → List AObj → Prop),
  AWP Try.prog 43 0 c259_2
      [(1, AV.sl 2 (Seq.map T.encS ((0 : Int), (0 : Int)) b) Tip.none), (8, AV.sl 2 (Seq.map T.encS ((0 : Int), (0 : Int)) a) Tip.none),
        (9, AV.int IntKind.i64 (↑(List.length a) : Int)), (10, AV.int IntKind.i64 (0 : Int))]
      [] (q259_2 0 Post) →
    ASpec Try.prog 259 [AV.sl 2 (Seq.map T.encS ((0 : Int), (0 : Int)) a) Tip.none, AV.sl 2 (Seq.map T.encS ((0 : Int), (0 : Int)) b) Tip.none] [] Post := fun a b Post h => Go.Ab.ASpec.of_vc g259 Go.Proofs.Try.func259 (by kernel_rfl) (by kernel_rfl) (by kernel_rfl) (Go.Ab.kc (by kernel_rfl) h)
theorem v259_2 : ∀ (a b : List T.Span) (n i : Int) (n_1 : Nat) (Post : AV → List AObj → Prop),
  condP (decide (i < n))
      (needP ((0 : Int) ≤ i ∧ i < (↑(List.length a) : Int))
        (ASpec Try.prog 318 [AV.sl 2 (Seq.map T.encS ((0 : Int), (0 : Int)) b) Tip.none, AV.int IntKind.i64 (Prod.fst (List.getD a (Int.toNat i) ((0 : Int), (0 : Int))))]
        [AObj.cells [AV.int IntKind.i64 (Prod.fst (List.getD a (Int.toNat i) ((0 : Int), (0 : Int)))), AV.int IntKind.i64 (Prod.snd (List.getD a (Int.toNat i) ((0 : Int), (0 : Int))))]]
        fun (r : AV) (H' : List AObj) =>
        ∃ (x : Int),
        r = AV.int IntKind.i64 x ∧
        H' = [AObj.cells [AV.int IntKind.i64 (Prod.fst (List.getD a (Int.toNat i) ((0 : Int), (0 : Int)))), AV.int IntKind.i64 (Prod.snd (List.getD a (Int.toNat i) ((0 : Int), (0 : Int))))]] ∧
        condP (x == (↑(List.length b) : Int))
        (Post (AV.bool false)
        [AObj.cells [AV.int IntKind.i64 (Prod.fst (List.getD a (Int.toNat i) ((0 : Int), (0 : Int)))), AV.int IntKind.i64 (Prod.snd (List.getD a (Int.toNat i) ((0 : Int), (0 : Int))))]])
        (needP ((0 : Int) ≤ x ∧ x < (↑(List.length b) : Int))
        (condP (decide (Prod.fst (List.getD b (Int.toNat x) ((0 : Int), (0 : Int))) > Prod.fst (List.getD a (Int.toNat i) ((0 : Int), (0 : Int)))))
        (Post (AV.bool false)
        [AObj.cells
        [AV.int IntKind.i64 (Prod.fst (List.getD a (Int.toNat i) ((0 : Int), (0 : Int)))), AV.int IntKind.i64 (Prod.snd (List.getD a (Int.toNat i) ((0 : Int), (0 : Int))))]])
        (needP ((0 : Int) ≤ x ∧ x < (↑(List.length b) : Int))
        (condP (decide (Prod.snd (List.getD b (Int.toNat x) ((0 : Int), (0 : Int))) < Prod.snd (List.getD a (Int.toNat i) ((0 : Int), (0 : Int)))))
        (Post (AV.bool false)
        [AObj.cells
        [AV.int IntKind.i64 (Prod.fst (List.getD a (Int.toNat i) ((0 : Int), (0 : Int)))), AV.int IntKind.i64 (Prod.snd (List.getD a (Int.toNat i) ((0 : Int), (0 : Int))))]])
        (AWP Try.prog 43 n_1 c259_2
        [(1, AV.sl 2 (Seq.map T.encS ((0 : Int), (0 : Int)) b) Tip.none), (8, AV.sl 2 (Seq.map T.encS ((0 : Int), (0 : Int)) a) Tip.none),
        (9, AV.int IntKind.i64 n), (10, AV.int IntKind.i64 (IntKind.wrap IntKind.i64 (i + (1 : Int))))]
        [AObj.cells
        [AV.int IntKind.i64 (Prod.fst (List.getD a (Int.toNat i) ((0 : Int), (0 : Int)))), AV.int IntKind.i64 (Prod.snd (List.getD a (Int.toNat i) ((0 : Int), (0 : Int))))]]
        (q259_2 n_1 Post))))))))
      (Post (AV.bool true) []) →
    AWP Try.prog 43 n_1 c259_2
      [(1, AV.sl 2 (Seq.map T.encS ((0 : Int), (0 : Int)) b) Tip.none), (8, AV.sl 2 (Seq.map T.encS ((0 : Int), (0 : Int)) a) Tip.none),
        (9, AV.int IntKind.i64 n), (10, AV.int IntKind.i64 i)]
      [] (q259_2 n_1 Post) := fun a b n i n Post h => Go.Ab.AWP.loop' g259 (Cfg.live g259) c259_2 (by kernel_rfl) (by kernel_rfl) (Go.Ab.kc (by kernel_rfl) h)

-- 289
noncomputable def l289 : Nat → List Nat
  | _ => []
noncomputable def u289 : Nat → Bool
  | _ => false
noncomputable def m289 : Nat → Bool
  | _ => false
noncomputable def g289 : Cfg := { N := 3, live := l289, cut := u289, mu := m289, ret := rets }
theorem s289 : ∀ (Post : AV → List AObj → Prop), Post (AV.sl 2 (Seq.raw [[AV.int IntKind.i64 (0 : Int), AV.int IntKind.i64 (1000000000 : Int)]]) Tip.full) [] → ASpec Try.prog 289 [] [] Post := fun Post h => Go.Ab.ASpec.of_vc g289 Go.Proofs.Try.func289 (by kernel_rfl) (by kernel_rfl) (by kernel_rfl) (Go.Ab.kc (by kernel_rfl) h)

-- 157
noncomputable def l157 : Nat → List Nat
  | _ => []
noncomputable def u157 : Nat → Bool
  | _ => false
noncomputable def m157 : Nat → Bool
  | _ => false
noncomputable def g157 : Cfg := { N := 14, live := l157, cut := u157, mu := m157, ret := rets }
theorem s157 : ∀ (p : Int) (Post : AV → List AObj → Prop),
  condP (decide (p < (0 : Int))) (Post (AV.sl 0 (Seq.raw []) Tip.nil) [])
      (condP (decide (p ≥ (1000000000 : Int))) (Post (AV.sl 0 (Seq.raw []) Tip.nil) [])
        (Post (AV.sl 2 (Seq.raw [[AV.int IntKind.i64 p, AV.int IntKind.i64 (IntKind.wrap IntKind.i64 (p + (1 : Int)))]]) Tip.full) [])) →
    ASpec Try.prog 157 [AV.int IntKind.i64 p] [] Post := fun p Post h => Go.Ab.ASpec.of_vc g157 Go.Proofs.Try.func157 (by kernel_rfl) (by kernel_rfl) (by kernel_rfl) (Go.Ab.kc (by kernel_rfl) h)

-- 255
noncomputable def l255 : Nat → List Nat
  | _ => []
noncomputable def u255 : Nat → Bool
  | _ => false
noncomputable def m255 : Nat → Bool
  | _ => false
noncomputable def g255 : Cfg := { N := 8, live := l255, cut := u255, mu := m255, ret := rets }
theorem s255 : ∀ (l : List T.Span) (Post : AV → List AObj → Prop),
  (∀ (b : Bool),
      (b = true → Seq.toList (Seq.map T.encS ((0 : Int), (0 : Int)) l) = []) →
        condP b (Post (AV.sl 0 (Seq.raw []) Tip.nil) [])
        (needP (∀ (x : T.Span), List.all (T.encS x) oneAV = true)
        (needP ((0 + List.length l) * 16 ≤ 140737488351232)
        (Post (AV.sl 2 (Seq.app (Seq.raw []) (Seq.map T.encS ((0 : Int), (0 : Int)) l)) (Tip.tok 0)) [AObj.tok])))) →
    ASpec Try.prog 255 [AV.sl 2 (Seq.map T.encS ((0 : Int), (0 : Int)) l) Tip.none] [] Post := fun l Post h => Go.Ab.ASpec.of_vc g255 Go.Proofs.Try.func255 (by kernel_rfl) (by kernel_rfl) (by kernel_rfl) (Go.Ab.kc (by kernel_rfl) h)

-- 321
noncomputable def l321 : Nat → List Nat
  | 4 => [0, 1, 2, 7, 8, 9]
  | 7 => [0, 1, 2, 7, 8, 9]
  | 11 => [7]
  | _ => []
noncomputable def u321 : Nat → Bool
  | 7 => true
  | 11 => true
  | _ => false
noncomputable def m321 : Nat → Bool
  | 79 => true
  | _ => false
noncomputable def g321 : Cfg := { N := 81, live := l321, cut := u321, mu := m321, ret := rets }
noncomputable def c321 : Go.Code := Go.Ab.bodyOf Go.Proofs.Try.f321
noncomputable def q321_0 : Nat → (AV → List AObj → Prop) → AQ := fun (n : Nat) (Post : AV → List AObj → Prop) => endQ Try.prog (resultsOf Try.f321) Post
noncomputable def c321_11 : Go.Code := codeSnd (codeSnd (codeSnd (codeSnd c321)))
noncomputable def q321_1 : Nat → (AV → List AObj → Prop) → AQ := fun (n : Nat) (Post : AV → List AObj → Prop) => seqQ (fun (s' : Slots) (H' : List AObj) => AWP Try.prog (Cfg.N g321) n c321_11 (restrict s' (Cfg.live g321 11)) H' (q321_0 n Post)) (q321_0 n Post)
noncomputable def q321_2 : Nat → (AV → List AObj → Prop) → AQ := fun (n : Nat) (Post : AV → List AObj → Prop) => blockQ 0 (q321_1 n Post)
noncomputable def c321_4 : Go.Code := codeFst (codeSnd (codeFst (codeSnd (codeSnd (codeSnd c321)))))
theorem s321 : ∀ (op : Int) (a b : List T.Span) (Post : AV → List AObj → Prop),
  (ASpec Try.prog 370 [AV.sl 2 (Seq.map T.encS ((0 : Int), (0 : Int)) a) Tip.none, AV.sl 2 (Seq.map T.encS ((0 : Int), (0 : Int)) b) Tip.none] []
      fun (r : AV) (H' : List AObj) =>
      ∃ (x : List Int),
        r = AV.sl 1 (Seq.map encI (0 : Int) x) Tip.none ∧
        H' = [] ∧
        AWP Try.prog 81 0 c321_4
        [(0, AV.int IntKind.i64 op), (1, AV.sl 2 (Seq.map T.encS ((0 : Int), (0 : Int)) a) Tip.none),
        (2, AV.sl 2 (Seq.map T.encS ((0 : Int), (0 : Int)) b) Tip.none), (7, AV.sl 0 (Seq.raw []) Tip.nil),
        (8, AV.sl 1 (Seq.map encI (0 : Int) x) Tip.none), (9, AV.int IntKind.i64 (0 : Int))]
        [] (q321_2 0 Post)) →
    ASpec Try.prog 321 [AV.int IntKind.i64 op, AV.sl 2 (Seq.map T.encS ((0 : Int), (0 : Int)) a) Tip.none, AV.sl 2 (Seq.map T.encS ((0 : Int), (0 : Int)) b) Tip.none] [] Post := fun op a b Post h => Go.Ab.ASpec.of_vc g321 Go.Proofs.Try.func321 (by kernel_rfl) (by kernel_rfl) (by kernel_rfl) (Go.Ab.kc (by kernel_rfl) h)
noncomputable def q321_3 : Nat → (AV → List AObj → Prop) → AQ := fun (n : Nat) (Post : AV → List AObj → Prop) => loopQ Try.prog 81 n c321_4 (q321_2 n Post) (Cfg.live g321)
noncomputable def q321_4 : Nat → (AV → List AObj → Prop) → AQ := fun (n : Nat) (Post : AV → List AObj → Prop) => seqQ (fun (s' : Slots) (H' : List AObj) => awp Try.prog g321 n (codeSnd (codeSnd (codeFst c321_4))) s' H' (q321_3 n Post)) (q321_3 n Post)
noncomputable def q321_5 : Nat → (AV → List AObj → Prop) → AQ := fun (n : Nat) (Post : AV → List AObj → Prop) => blockQ 1 (q321_4 n Post)
noncomputable def c321_7 : Go.Code := codeSnd (codeFst (codeFst (codeSnd (codeFst c321_4))))
theorem v321_4n : ∀ (op : Int) (a b : List T.Span) (l : List Int) (i : Int) (n : Nat) (Post : AV → List AObj → Prop),
  condP (decide (IntKind.wrap IntKind.i64 (i + (1 : Int)) < (↑(List.length l) : Int)))
      (needP ((0 : Int) ≤ i ∧ i < (↑(List.length l) : Int))
        (needP ((0 : Int) ≤ i ∧ i < (↑(List.length l) : Int))
        (ASpec Try.prog 331 [AV.sl 2 (Seq.map T.encS ((0 : Int), (0 : Int)) a) Tip.none, AV.int IntKind.i64 (List.getD l (Int.toNat i) (0 : Int))] [] fun (r : AV) (H' : List AObj) =>
        ∃ (x : Bool),
        r = AV.bool x ∧
        H' = [] ∧
        (AV.int IntKind.i64 (List.getD l (Int.toNat i) (0 : Int)) = AV.int IntKind.i64 (List.getD l (Int.toNat i) (0 : Int)) ∧ ([] : List AObj) = []) ∧
        ASpec Try.prog 331 [AV.sl 2 (Seq.map T.encS ((0 : Int), (0 : Int)) b) Tip.none, AV.int IntKind.i64 (List.getD l (Int.toNat i) (0 : Int))] []
        fun (r : AV) (H' : List AObj) =>
        ∃ (x_1 : Bool),
        r = AV.bool x_1 ∧
        H' = [] ∧
        ASpec Try.prog 371 [AV.int IntKind.i64 op, AV.bool x, AV.bool x_1] [] fun (r : AV) (H' : List AObj) =>
        ∃ (x : Bool),
        r = AV.bool x ∧
        H' = [] ∧
        condP (!x)
        (AWP Try.prog 81 n c321_4
        [(0, AV.int IntKind.i64 op), (1, AV.sl 2 (Seq.map T.encS ((0 : Int), (0 : Int)) a) Tip.none),
        (2, AV.sl 2 (Seq.map T.encS ((0 : Int), (0 : Int)) b) Tip.none), (7, AV.sl 0 (Seq.raw []) Tip.nil),
        (8, AV.sl 1 (Seq.map encI (0 : Int) l) Tip.none), (9, AV.int IntKind.i64 (IntKind.wrap IntKind.i64 (i + (1 : Int))))]
        [] (q321_2 n Post))
        (AWP Try.prog 81 n c321_7
        [(0, AV.int IntKind.i64 op), (1, AV.sl 2 (Seq.map T.encS ((0 : Int), (0 : Int)) a) Tip.none),
        (2, AV.sl 2 (Seq.map T.encS ((0 : Int), (0 : Int)) b) Tip.none), (7, AV.sl 0 (Seq.raw []) Tip.nil),
        (8, AV.sl 1 (Seq.map encI (0 : Int) l) Tip.none), (9, AV.int IntKind.i64 i)]
        [] (q321_5 n Post)))))
      (AWP Try.prog 81 n c321_11 [(7, AV.sl 0 (Seq.raw []) Tip.nil)] [] (q321_0 n Post)) →
    AWP Try.prog 81 n c321_4
      [(0, AV.int IntKind.i64 op), (1, AV.sl 2 (Seq.map T.encS ((0 : Int), (0 : Int)) a) Tip.none),
        (2, AV.sl 2 (Seq.map T.encS ((0 : Int), (0 : Int)) b) Tip.none), (7, AV.sl 0 (Seq.raw []) Tip.nil),
        (8, AV.sl 1 (Seq.map encI (0 : Int) l) Tip.none), (9, AV.int IntKind.i64 i)]
      [] (q321_2 n Post) := fun op a b l i n Post h => Go.Ab.AWP.loop' g321 (Cfg.live g321) c321_4 (by kernel_rfl) (by kernel_rfl) (Go.Ab.kc (by kernel_rfl) h)
theorem v321_4m : ∀ (op : Int) (a b o : List T.Span) (k : Nat) (l : List Int) (i : Int) (n : Nat) (Post : AV → List AObj → Prop),
  condP (decide (IntKind.wrap IntKind.i64 (i + (1 : Int)) < (↑(List.length l) : Int)))
      (needP ((0 : Int) ≤ i ∧ i < (↑(List.length l) : Int))
        (needP ((0 : Int) ≤ i ∧ i < (↑(List.length l) : Int))
        (ASpec Try.prog 331 [AV.sl 2 (Seq.map T.encS ((0 : Int), (0 : Int)) a) Tip.none, AV.int IntKind.i64 (List.getD l (Int.toNat i) (0 : Int))]
        [AObj.arr 2 (Seq.map T.encS ((0 : Int), (0 : Int)) o)] fun (r : AV) (H' : List AObj) =>
        ∃ (x : Bool),
        r = AV.bool x ∧
        H' = [AObj.arr 2 (Seq.map T.encS ((0 : Int), (0 : Int)) o)] ∧
        (AV.int IntKind.i64 (List.getD l (Int.toNat i) (0 : Int)) = AV.int IntKind.i64 (List.getD l (Int.toNat i) (0 : Int)) ∧
        [AObj.arr 2 (Seq.map T.encS ((0 : Int), (0 : Int)) o)] = [AObj.arr 2 (Seq.map T.encS ((0 : Int), (0 : Int)) o)]) ∧
        ASpec Try.prog 331 [AV.sl 2 (Seq.map T.encS ((0 : Int), (0 : Int)) b) Tip.none, AV.int IntKind.i64 (List.getD l (Int.toNat i) (0 : Int))]
        [AObj.arr 2 (Seq.map T.encS ((0 : Int), (0 : Int)) o)] fun (r : AV) (H' : List AObj) =>
        ∃ (x_1 : Bool),
        r = AV.bool x_1 ∧
        H' = [AObj.arr 2 (Seq.map T.encS ((0 : Int), (0 : Int)) o)] ∧
        ASpec Try.prog 371 [AV.int IntKind.i64 op, AV.bool x, AV.bool x_1] [AObj.arr 2 (Seq.map T.encS ((0 : Int), (0 : Int)) o)] fun (r : AV) (H' : List AObj) =>
        ∃ (x : Bool),
        r = AV.bool x ∧
        H' = [AObj.arr 2 (Seq.map T.encS ((0 : Int), (0 : Int)) o)] ∧
        condP (!x)
        (AWP Try.prog 81 n c321_4
        [(0, AV.int IntKind.i64 op), (1, AV.sl 2 (Seq.map T.encS ((0 : Int), (0 : Int)) a) Tip.none),
        (2, AV.sl 2 (Seq.map T.encS ((0 : Int), (0 : Int)) b) Tip.none), (7, AV.msl 2 0 0 k),
        (8, AV.sl 1 (Seq.map encI (0 : Int) l) Tip.none), (9, AV.int IntKind.i64 (IntKind.wrap IntKind.i64 (i + (1 : Int))))]
        [AObj.arr 2 (Seq.map T.encS ((0 : Int), (0 : Int)) o)] (q321_2 n Post))
        (AWP Try.prog 81 n c321_7
        [(0, AV.int IntKind.i64 op), (1, AV.sl 2 (Seq.map T.encS ((0 : Int), (0 : Int)) a) Tip.none),
        (2, AV.sl 2 (Seq.map T.encS ((0 : Int), (0 : Int)) b) Tip.none), (7, AV.msl 2 0 0 k),
        (8, AV.sl 1 (Seq.map encI (0 : Int) l) Tip.none), (9, AV.int IntKind.i64 i)]
        [AObj.arr 2 (Seq.map T.encS ((0 : Int), (0 : Int)) o)] (q321_5 n Post)))))
      (AWP Try.prog 81 n c321_11 [(7, AV.msl 2 0 0 k)] [AObj.arr 2 (Seq.map T.encS ((0 : Int), (0 : Int)) o)] (q321_0 n Post)) →
    AWP Try.prog 81 n c321_4
      [(0, AV.int IntKind.i64 op), (1, AV.sl 2 (Seq.map T.encS ((0 : Int), (0 : Int)) a) Tip.none),
        (2, AV.sl 2 (Seq.map T.encS ((0 : Int), (0 : Int)) b) Tip.none), (7, AV.msl 2 0 0 k),
        (8, AV.sl 1 (Seq.map encI (0 : Int) l) Tip.none), (9, AV.int IntKind.i64 i)]
      [AObj.arr 2 (Seq.map T.encS ((0 : Int), (0 : Int)) o)] (q321_2 n Post) := fun op a b o k l i n Post h => Go.Ab.AWP.loop' g321 (Cfg.live g321) c321_4 (by kernel_rfl) (by kernel_rfl) (Go.Ab.kc (by kernel_rfl) h)
theorem v321_7n : ∀ (op : Int) (a b : List T.Span) (l : List Int) (i : Int) (n : Nat) (Post : AV → List AObj → Prop),
  needP ((0 : Int) ≤ i ∧ i < (↑(List.length l) : Int))
      (needP ((0 : Int) ≤ IntKind.wrap IntKind.i64 (i + (1 : Int)) ∧ IntKind.wrap IntKind.i64 (i + (1 : Int)) < (↑(List.length l) : Int))
        (needP (16 ≤ 140737488351232)
        (needP (1 ≤ 1)
        (AWP Try.prog 81 n c321_4
        [(0, AV.int IntKind.i64 op), (1, AV.sl 2 (Seq.map T.encS ((0 : Int), (0 : Int)) a) Tip.none),
        (2, AV.sl 2 (Seq.map T.encS ((0 : Int), (0 : Int)) b) Tip.none), (7, AV.msl 2 0 0 1),
        (8, AV.sl 1 (Seq.map encI (0 : Int) l) Tip.none), (9, AV.int IntKind.i64 (IntKind.wrap IntKind.i64 (i + (1 : Int))))]
        [AObj.arr 2
        (Seq.raw [[AV.int IntKind.i64 (List.getD l (Int.toNat i) (0 : Int)), AV.int IntKind.i64 (List.getD l (Int.toNat (IntKind.wrap IntKind.i64 (i + (1 : Int)))) (0 : Int))]])]
        (q321_2 n Post))))) →
    AWP Try.prog 81 n c321_7
      [(0, AV.int IntKind.i64 op), (1, AV.sl 2 (Seq.map T.encS ((0 : Int), (0 : Int)) a) Tip.none),
        (2, AV.sl 2 (Seq.map T.encS ((0 : Int), (0 : Int)) b) Tip.none), (7, AV.sl 0 (Seq.raw []) Tip.nil),
        (8, AV.sl 1 (Seq.map encI (0 : Int) l) Tip.none), (9, AV.int IntKind.i64 i)]
      [] (q321_5 n Post) := fun op a b l i n Post h => Go.Ab.awp_sound g321 n _ _ _ _ (Go.Ab.kc (by kernel_rfl) h)
theorem v321_7m : ∀ (op : Int) (a b o : List T.Span) (k : Nat) (l : List Int) (i : Int) (n : Nat) (Post : AV → List AObj → Prop),
  condP (decide (IntKind.wrap IntKind.i64 ((↑k : Int) - (1 : Int)) ≥ (0 : Int)))
      (needP ((0 : Int) ≤ IntKind.wrap IntKind.i64 ((↑k : Int) - (1 : Int)) ∧ IntKind.wrap IntKind.i64 ((↑k : Int) - (1 : Int)) < (↑k : Int))
        (needP (0 + Int.toNat (IntKind.wrap IntKind.i64 ((↑k : Int) - (1 : Int))) < List.length o)
        (needP ((0 : Int) ≤ i ∧ i < (↑(List.length l) : Int))
        (condP (Prod.snd (List.getD o (0 + Int.toNat (IntKind.wrap IntKind.i64 ((↑k : Int) - (1 : Int)))) ((0 : Int), (0 : Int))) == List.getD l (Int.toNat i) (0 : Int))
        (needP ((0 : Int) ≤ IntKind.wrap IntKind.i64 ((↑k : Int) - (1 : Int)) ∧ IntKind.wrap IntKind.i64 ((↑k : Int) - (1 : Int)) < (↑k : Int))
        (needP (0 + Int.toNat (IntKind.wrap IntKind.i64 ((↑k : Int) - (1 : Int))) < List.length o)
        (needP ((0 : Int) ≤ IntKind.wrap IntKind.i64 (i + (1 : Int)) ∧ IntKind.wrap IntKind.i64 (i + (1 : Int)) < (↑(List.length l) : Int))
        (needP ((0 : Int) ≤ IntKind.wrap IntKind.i64 ((↑k : Int) - (1 : Int)) ∧ IntKind.wrap IntKind.i64 ((↑k : Int) - (1 : Int)) < (↑k : Int))
        (needP (0 + Int.toNat (IntKind.wrap IntKind.i64 ((↑k : Int) - (1 : Int))) < List.length o)
        (AWP Try.prog 81 n c321_4
        [(0, AV.int IntKind.i64 op), (1, AV.sl 2 (Seq.map T.encS ((0 : Int), (0 : Int)) a) Tip.none),
        (2, AV.sl 2 (Seq.map T.encS ((0 : Int), (0 : Int)) b) Tip.none), (7, AV.msl 2 0 0 k),
        (8, AV.sl 1 (Seq.map encI (0 : Int) l) Tip.none), (9, AV.int IntKind.i64 (IntKind.wrap IntKind.i64 (i + (1 : Int))))]
        [AObj.arr 2
        (Seq.raw
        (List.set (Seq.toList (Seq.map T.encS ((0 : Int), (0 : Int)) o)) (0 + Int.toNat (IntKind.wrap IntKind.i64 ((↑k : Int) - (1 : Int))))
        [AV.int IntKind.i64 (Prod.fst (List.getD o (0 + Int.toNat (IntKind.wrap IntKind.i64 ((↑k : Int) - (1 : Int)))) ((0 : Int), (0 : Int)))),
        AV.int IntKind.i64 (List.getD l (Int.toNat (IntKind.wrap IntKind.i64 (i + (1 : Int)))) (0 : Int))]))]
        (q321_2 n Post)))))))
        (needP ((0 : Int) ≤ i ∧ i < (↑(List.length l) : Int))
        (needP ((0 : Int) ≤ IntKind.wrap IntKind.i64 (i + (1 : Int)) ∧ IntKind.wrap IntKind.i64 (i + (1 : Int)) < (↑(List.length l) : Int))
        (needP (k = List.length o ∧ (k + 1) * 16 ≤ 140737488351232)
        (AWP Try.prog 81 n c321_4
        [(0, AV.int IntKind.i64 op), (1, AV.sl 2 (Seq.map T.encS ((0 : Int), (0 : Int)) a) Tip.none),
        (2, AV.sl 2 (Seq.map T.encS ((0 : Int), (0 : Int)) b) Tip.none), (7, AV.msl 2 1 0 (k + 1)),
        (8, AV.sl 1 (Seq.map encI (0 : Int) l) Tip.none), (9, AV.int IntKind.i64 (IntKind.wrap IntKind.i64 (i + (1 : Int))))]
        [AObj.gone,
        AObj.arr 2
        (Seq.app (Seq.map T.encS ((0 : Int), (0 : Int)) o)
        (Seq.raw [[AV.int IntKind.i64 (List.getD l (Int.toNat i) (0 : Int)), AV.int IntKind.i64 (List.getD l (Int.toNat (IntKind.wrap IntKind.i64 (i + (1 : Int)))) (0 : Int))]]))]
        (q321_2 n Post)))))))))
      (needP ((0 : Int) ≤ i ∧ i < (↑(List.length l) : Int))
        (needP ((0 : Int) ≤ IntKind.wrap IntKind.i64 (i + (1 : Int)) ∧ IntKind.wrap IntKind.i64 (i + (1 : Int)) < (↑(List.length l) : Int))
        (needP (k = List.length o ∧ (k + 1) * 16 ≤ 140737488351232)
        (AWP Try.prog 81 n c321_4
        [(0, AV.int IntKind.i64 op), (1, AV.sl 2 (Seq.map T.encS ((0 : Int), (0 : Int)) a) Tip.none),
        (2, AV.sl 2 (Seq.map T.encS ((0 : Int), (0 : Int)) b) Tip.none), (7, AV.msl 2 1 0 (k + 1)),
        (8, AV.sl 1 (Seq.map encI (0 : Int) l) Tip.none), (9, AV.int IntKind.i64 (IntKind.wrap IntKind.i64 (i + (1 : Int))))]
        [AObj.gone,
        AObj.arr 2
        (Seq.app (Seq.map T.encS ((0 : Int), (0 : Int)) o)
        (Seq.raw [[AV.int IntKind.i64 (List.getD l (Int.toNat i) (0 : Int)), AV.int IntKind.i64 (List.getD l (Int.toNat (IntKind.wrap IntKind.i64 (i + (1 : Int)))) (0 : Int))]]))]
        (q321_2 n Post))))) →
    AWP Try.prog 81 n c321_7
      [(0, AV.int IntKind.i64 op), (1, AV.sl 2 (Seq.map T.encS ((0 : Int), (0 : Int)) a) Tip.none),
        (2, AV.sl 2 (Seq.map T.encS ((0 : Int), (0 : Int)) b) Tip.none), (7, AV.msl 2 0 0 k),
        (8, AV.sl 1 (Seq.map encI (0 : Int) l) Tip.none), (9, AV.int IntKind.i64 i)]
      [AObj.arr 2 (Seq.map T.encS ((0 : Int), (0 : Int)) o)] (q321_5 n Post) := fun op a b o k l i n Post h => Go.Ab.awp_sound g321 n _ _ _ _ (Go.Ab.kc (by kernel_rfl) h)
theorem v321_11n : ∀ (n : Nat) (Post : AV → List AObj → Prop), Post (AV.sl 0 (Seq.raw []) Tip.nil) [] → AWP Try.prog 81 n c321_11 [(7, AV.sl 0 (Seq.raw []) Tip.nil)] [] (q321_0 n Post) := fun n Post h => Go.Ab.awp_sound g321 n _ _ _ _ (Go.Ab.kc (by kernel_rfl) h)
theorem v321_11s : ∀ (o : List T.Span) (n : Nat) (Post : AV → List AObj → Prop),
  Post (AV.sl 2 (Seq.map T.encS ((0 : Int), (0 : Int)) o) Tip.none) [] →
    AWP Try.prog 81 n c321_11 [(7, AV.sl 2 (Seq.map T.encS ((0 : Int), (0 : Int)) o) Tip.none)] [] (q321_0 n Post) := fun o n Post h => Go.Ab.awp_sound g321 n _ _ _ _ (Go.Ab.kc (by kernel_rfl) h)

-- 260
noncomputable def l260 : Nat → List Nat
  | _ => []
noncomputable def u260 : Nat → Bool
  | _ => false
noncomputable def m260 : Nat → Bool
  | _ => false
noncomputable def g260 : Cfg := { N := 8, live := l260, cut := u260, mu := m260, ret := rets }
theorem s260 : ∀ (a b : List T.Span) (Post : AV → List AObj → Prop),
  (ASpec Try.prog 321 [AV.int IntKind.i64 (1 : Int), AV.sl 2 (Seq.map T.encS ((0 : Int), (0 : Int)) a) Tip.none, AV.sl 2 (Seq.map T.encS ((0 : Int), (0 : Int)) b) Tip.none] []
      fun (r : AV) (H' : List AObj) =>
      ∃ (x : List T.Span), r = AV.sl 2 (Seq.map T.encS ((0 : Int), (0 : Int)) x) Tip.none ∧ H' = [] ∧ Post (AV.sl 2 (Seq.map T.encS ((0 : Int), (0 : Int)) x) Tip.none) []) →
    ASpec Try.prog 260 [AV.sl 2 (Seq.map T.encS ((0 : Int), (0 : Int)) a) Tip.none, AV.sl 2 (Seq.map T.encS ((0 : Int), (0 : Int)) b) Tip.none] [] Post := fun a b Post h => Go.Ab.ASpec.of_vc g260 Go.Proofs.Try.func260 (by kernel_rfl) (by kernel_rfl) (by kernel_rfl) (Go.Ab.kc (by kernel_rfl) h)

-- 162
noncomputable def l162 : Nat → List Nat
  | _ => []
noncomputable def u162 : Nat → Bool
  | _ => false
noncomputable def m162 : Nat → Bool
  | _ => false
noncomputable def g162 : Cfg := { N := 10, live := l162, cut := u162, mu := m162, ret := rets }
theorem s162 : ∀ (a b : List T.Span) (Post : AV → List AObj → Prop),
  (ASpec Try.prog 260 [AV.sl 2 (Seq.map T.encS ((0 : Int), (0 : Int)) a) Tip.none, AV.sl 2 (Seq.map T.encS ((0 : Int), (0 : Int)) b) Tip.none] []
      fun (r : AV) (H' : List AObj) =>
      ∃ (x : List T.Span),
        r = AV.sl 2 (Seq.map T.encS ((0 : Int), (0 : Int)) x) Tip.none ∧
        H' = [] ∧
        ASpec Try.prog 163 [AV.sl 2 (Seq.map T.encS ((0 : Int), (0 : Int)) x) Tip.none, AV.sl 2 (Seq.map T.encS ((0 : Int), (0 : Int)) a) Tip.none] []
        fun (r : AV) (H' : List AObj) => ∃ (x : Bool), r = AV.bool x ∧ H' = [] ∧ Post (AV.bool x) []) →
    ASpec Try.prog 162 [AV.sl 2 (Seq.map T.encS ((0 : Int), (0 : Int)) a) Tip.none, AV.sl 2 (Seq.map T.encS ((0 : Int), (0 : Int)) b) Tip.none] [] Post := fun a b Post h => Go.Ab.ASpec.of_vc g162 Go.Proofs.Try.func162 (by kernel_rfl) (by kernel_rfl) (by kernel_rfl) (Go.Ab.kc (by kernel_rfl) h)

-- 331
noncomputable def l331 : Nat → List Nat
  | 2 => [0, 1, 5]
  | _ => []
noncomputable def u331 : Nat → Bool
  | _ => false
noncomputable def m331 : Nat → Bool
  | _ => false
noncomputable def g331 : Cfg := { N := 34, live := l331, cut := u331, mu := m331, ret := rets }
noncomputable def c331 : Go.Code := Go.Ab.bodyOf Go.Proofs.Try.f331
noncomputable def q331_0 : Nat → (AV → List AObj → Prop) → AQ := fun (n : Nat) (Post : AV → List AObj → Prop) => endQ Try.prog (resultsOf Try.f331) Post
noncomputable def q331_1 : Nat → (AV → List AObj → Prop) → AQ := fun (n : Nat) (Post : AV → List AObj → Prop) => seqQ (fun (s' : Slots) (H' : List AObj) => awp Try.prog g331 n (codeSnd (codeSnd c331)) s' H' (q331_0 n Post)) (q331_0 n Post)
noncomputable def q331_2 : Nat → (AV → List AObj → Prop) → AQ := fun (n : Nat) (Post : AV → List AObj → Prop) => blockQ 0 (q331_1 n Post)
noncomputable def c331_2 : Go.Code := codeFst (codeSnd (codeFst (codeSnd c331)))
theorem s331 : ∀ (l : List T.Span) (p : Int) (Post : AV → List AObj → Prop),
  AWP Try.prog 34 0 c331_2
      [(0, AV.sl 2 (Seq.map T.encS ((0 : Int), (0 : Int)) l) Tip.none), (1, AV.int IntKind.i64 p), (5, AV.int IntKind.i64 (0 : Int))] [] (q331_2 0 Post) →
    ASpec Try.prog 331 [AV.sl 2 (Seq.map T.encS ((0 : Int), (0 : Int)) l) Tip.none, AV.int IntKind.i64 p] [] Post := fun l p Post h => Go.Ab.ASpec.of_vc g331 Go.Proofs.Try.func331 (by kernel_rfl) (by kernel_rfl) (by kernel_rfl) (Go.Ab.kc (by kernel_rfl) h)
theorem v331_2 : ∀ (l : List T.Span) (p i : Int) (n : Nat) (Post : AV → List AObj → Prop),
  condP (decide (i < (↑(List.length l) : Int)))
      (needP ((0 : Int) ≤ i ∧ i < (↑(List.length l) : Int))
        (condP (decide (Prod.fst (List.getD l (Int.toNat i) ((0 : Int), (0 : Int))) ≤ p))
        (needP ((0 : Int) ≤ i ∧ i < (↑(List.length l) : Int))
        (condP (decide (p < Prod.snd (List.getD l (Int.toNat i) ((0 : Int), (0 : Int)))))
        (condP (decide (p ≥ (0 : Int))) (Post (AV.bool (decide (p < (1000000000 : Int)))) []) (Post (AV.bool false) []))
        (AWP Try.prog 34 n c331_2
        [(0, AV.sl 2 (Seq.map T.encS ((0 : Int), (0 : Int)) l) Tip.none), (1, AV.int IntKind.i64 p),
        (5, AV.int IntKind.i64 (IntKind.wrap IntKind.i64 (i + (1 : Int))))]
        [] (q331_2 n Post))))
        (AWP Try.prog 34 n c331_2
        [(0, AV.sl 2 (Seq.map T.encS ((0 : Int), (0 : Int)) l) Tip.none), (1, AV.int IntKind.i64 p),
        (5, AV.int IntKind.i64 (IntKind.wrap IntKind.i64 (i + (1 : Int))))]
        [] (q331_2 n Post))))
      (Post (AV.bool false) []) →
    AWP Try.prog 34 n c331_2 [(0, AV.sl 2 (Seq.map T.encS ((0 : Int), (0 : Int)) l) Tip.none), (1, AV.int IntKind.i64 p), (5, AV.int IntKind.i64 i)] []
      (q331_2 n Post) := fun l p i n Post h => Go.Ab.AWP.loop' g331 (Cfg.live g331) c331_2 (by kernel_rfl) (by kernel_rfl) (Go.Ab.kc (by kernel_rfl) h)

-- 371
noncomputable def l371 : Nat → List Nat
  | _ => []
noncomputable def u371 : Nat → Bool
  | _ => false
noncomputable def m371 : Nat → Bool
  | _ => false
noncomputable def g371 : Cfg := { N := 21, live := l371, cut := u371, mu := m371, ret := rets }
theorem s371 : ∀ (op : Int) (x y : Bool) (Post : AV → List AObj → Prop),
  condP (op == (0 : Int)) (condP x (Post (AV.bool true) []) (Post (AV.bool y) [])) (condP (op == (1 : Int)) (condP x (Post (AV.bool y) []) (Post (AV.bool false) [])) (Post (AV.bool !x) [])) →
    ASpec Try.prog 371 [AV.int IntKind.i64 op, AV.bool x, AV.bool y] [] Post := fun op x y Post h => Go.Ab.ASpec.of_vc g371 Go.Proofs.Try.func371 (by kernel_rfl) (by kernel_rfl) (by kernel_rfl) (Go.Ab.kc (by kernel_rfl) h)

-- 392
noncomputable def l392 : Nat → List Nat
  | 5 => [0, 1, 5, 6, 7]
  | 11 => [0, 1, 5, 6, 7]
  | 12 => [1, 5, 6]
  | _ => []
noncomputable def u392 : Nat → Bool
  | 11 => true
  | 12 => true
  | _ => false
noncomputable def m392 : Nat → Bool
  | _ => false
noncomputable def g392 : Cfg := { N := 51, live := l392, cut := u392, mu := m392, ret := rets }
noncomputable def c392 : Go.Code := Go.Ab.bodyOf Go.Proofs.Try.f392
noncomputable def q392_0 : Nat → (AV → List AObj → Prop) → AQ := fun (n : Nat) (Post : AV → List AObj → Prop) => endQ Try.prog (resultsOf Try.f392) Post
noncomputable def c392_12 : Go.Code := codeSnd (codeSnd (codeSnd (codeSnd (codeSnd c392))))
noncomputable def q392_1 : Nat → (AV → List AObj → Prop) → AQ := fun (n : Nat) (Post : AV → List AObj → Prop) => seqQ (fun (s' : Slots) (H' : List AObj) => AWP Try.prog (Cfg.N g392) n c392_12 (restrict s' (Cfg.live g392 12)) H' (q392_0 n Post)) (q392_0 n Post)
noncomputable def q392_2 : Nat → (AV → List AObj → Prop) → AQ := fun (n : Nat) (Post : AV → List AObj → Prop) => blockQ 0 (q392_1 n Post)
noncomputable def c392_5 : Go.Code := codeFst (codeSnd (codeFst (codeSnd (codeSnd (codeSnd (codeSnd c392))))))
theorem s392 : ∀ (l : List Int) (p : Int) (Post : AV → List AObj → Prop),
  AWP Try.prog 51 0 c392_5
      [(0, AV.sl 1 (Seq.map encI (0 : Int) l) Tip.none),
        (1, AV.int IntKind.i64 (if (1000000000 : Int) < if (0 : Int) > p then (0 : Int) else p then (1000000000 : Int) else if (0 : Int) > p then (0 : Int) else p)),
        (5, AV.sl 0 (Seq.raw []) Tip.nil), (6, AV.bool false), (7, AV.int IntKind.i64 (0 : Int))]
      [] (q392_2 0 Post) →
    ASpec Try.prog 392 [AV.sl 1 (Seq.map encI (0 : Int) l) Tip.none, AV.int IntKind.i64 p] [] Post := fun l p Post h => Go.Ab.ASpec.of_vc g392 Go.Proofs.Try.func392 (by kernel_rfl) (by kernel_rfl) (by kernel_rfl) (Go.Ab.kc (by kernel_rfl) h)
noncomputable def q392_3 : Nat → (AV → List AObj → Prop) → AQ := fun (n : Nat) (Post : AV → List AObj → Prop) => loopQ Try.prog 51 n c392_5 (q392_2 n Post) (Cfg.live g392)
noncomputable def q392_4 : Nat → (AV → List AObj → Prop) → AQ := fun (n : Nat) (Post : AV → List AObj → Prop) => seqQ (fun (s' : Slots) (H' : List AObj) => awp Try.prog g392 n (codeSnd (codeSnd (codeFst c392_5))) s' H' (q392_3 n Post)) (q392_3 n Post)
noncomputable def q392_5 : Nat → (AV → List AObj → Prop) → AQ := fun (n : Nat) (Post : AV → List AObj → Prop) => blockQ 1 (q392_4 n Post)
noncomputable def c392_11 : Go.Code := codeSnd (codeFst (codeFst (codeSnd (codeFst c392_5))))
theorem v392_5 : ∀ (l : List Int) (p : Int) (o : List Int) (z : Bool) (i : Int) (n : Nat) (Post : AV → List AObj → Prop),
  condP (decide (i < (↑(List.length l) : Int)))
      (condP (!z)
        (needP ((0 : Int) ≤ i ∧ i < (↑(List.length l) : Int))
        (condP (decide (p ≤ List.getD l (Int.toNat i) (0 : Int)))
        (needP ((List.length o + 1) * 8 ≤ 140737488351232)
        (needP ((0 : Int) ≤ i ∧ i < (↑(List.length l) : Int))
        (condP (p == List.getD l (Int.toNat i) (0 : Int))
        (AWP Try.prog 51 n c392_5
        [(0, AV.sl 1 (Seq.map encI (0 : Int) l) Tip.none), (1, AV.int IntKind.i64 p),
        (5, AV.sl 1 (Seq.app (Seq.map encI (0 : Int) o) (Seq.raw [[AV.int IntKind.i64 p]])) (Tip.tok 1)), (6, AV.bool true),
        (7, AV.int IntKind.i64 (IntKind.wrap IntKind.i64 (i + (1 : Int))))]
        [AObj.gone, AObj.tok] (q392_2 n Post))
        (AWP Try.prog 51 n c392_11
        [(0, AV.sl 1 (Seq.map encI (0 : Int) l) Tip.none), (1, AV.int IntKind.i64 p),
        (5, AV.sl 1 (Seq.app (Seq.map encI (0 : Int) o) (Seq.raw [[AV.int IntKind.i64 p]])) (Tip.tok 1)), (6, AV.bool true),
        (7, AV.int IntKind.i64 i)]
        [AObj.gone, AObj.tok] (q392_5 n Post)))))
        (AWP Try.prog 51 n c392_11
        [(0, AV.sl 1 (Seq.map encI (0 : Int) l) Tip.none), (1, AV.int IntKind.i64 p), (5, AV.sl 1 (Seq.map encI (0 : Int) o) (Tip.tok 0)),
        (6, AV.bool z), (7, AV.int IntKind.i64 i)]
        [AObj.tok] (q392_5 n Post))))
        (AWP Try.prog 51 n c392_11
        [(0, AV.sl 1 (Seq.map encI (0 : Int) l) Tip.none), (1, AV.int IntKind.i64 p), (5, AV.sl 1 (Seq.map encI (0 : Int) o) (Tip.tok 0)),
        (6, AV.bool z), (7, AV.int IntKind.i64 i)]
        [AObj.tok] (q392_5 n Post)))
      (AWP Try.prog 51 n c392_12 [(1, AV.int IntKind.i64 p), (5, AV.sl 1 (Seq.map encI (0 : Int) o) (Tip.tok 0)), (6, AV.bool z)] [AObj.tok]
        (q392_0 n Post)) →
    AWP Try.prog 51 n c392_5
      [(0, AV.sl 1 (Seq.map encI (0 : Int) l) Tip.none), (1, AV.int IntKind.i64 p), (5, AV.sl 1 (Seq.map encI (0 : Int) o) (Tip.tok 0)),
        (6, AV.bool z), (7, AV.int IntKind.i64 i)]
      [AObj.tok] (q392_2 n Post) := fun l p o z i n Post h => Go.Ab.AWP.loop' g392 (Cfg.live g392) c392_5 (by kernel_rfl) (by kernel_rfl) (Go.Ab.kc (by kernel_rfl) h)
theorem v392_11 : ∀ (l : List Int) (p : Int) (o : List Int) (z : Bool) (i : Int) (n : Nat) (Post : AV → List AObj → Prop),
  needP ((0 : Int) ≤ i ∧ i < (↑(List.length l) : Int))
      (needP ((List.length o + 1) * 8 ≤ 140737488351232)
        (AWP Try.prog 51 n c392_5
        [(0, AV.sl 1 (Seq.map encI (0 : Int) l) Tip.none), (1, AV.int IntKind.i64 p),
        (5, AV.sl 1 (Seq.app (Seq.map encI (0 : Int) o) (Seq.raw [[AV.int IntKind.i64 (List.getD l (Int.toNat i) (0 : Int))]])) (Tip.tok 1)), (6, AV.bool z),
        (7, AV.int IntKind.i64 (IntKind.wrap IntKind.i64 (i + (1 : Int))))]
        [AObj.gone, AObj.tok] (q392_2 n Post))) →
    AWP Try.prog 51 n c392_11
      [(0, AV.sl 1 (Seq.map encI (0 : Int) l) Tip.none), (1, AV.int IntKind.i64 p), (5, AV.sl 1 (Seq.map encI (0 : Int) o) (Tip.tok 0)),
        (6, AV.bool z), (7, AV.int IntKind.i64 i)]
      [AObj.tok] (q392_5 n Post) := fun l p o z i n Post h => Go.Ab.awp_sound g392 n _ _ _ _ (Go.Ab.kc (by kernel_rfl) h)
theorem v392_12 : ∀ (p : Int) (o : List Int) (z : Bool) (n : Nat) (Post : AV → List AObj → Prop),
  condP (!z)
      (needP ((List.length o + 1) * 8 ≤ 140737488351232)
        (Post (AV.sl 1 (Seq.app (Seq.map encI (0 : Int) o) (Seq.raw [[AV.int IntKind.i64 p]])) (Tip.tok 1)) [AObj.gone, AObj.tok]))
      (Post (AV.sl 1 (Seq.map encI (0 : Int) o) (Tip.tok 0)) [AObj.tok]) →
    AWP Try.prog 51 n c392_12 [(1, AV.int IntKind.i64 p), (5, AV.sl 1 (Seq.map encI (0 : Int) o) (Tip.tok 0)), (6, AV.bool z)] [AObj.tok]
      (q392_0 n Post) := fun p o z n Post h => Go.Ab.awp_sound g392 n _ _ _ _ (Go.Ab.kc (by kernel_rfl) h)

-- 370
noncomputable def l370 : Nat → List Nat
  | 3 => [0, 1, 5, 6]
  | 6 => [1, 5]
  | 7 => [1, 5, 7]
  | _ => []
noncomputable def u370 : Nat → Bool
  | 6 => true
  | _ => false
noncomputable def m370 : Nat → Bool
  | _ => false
noncomputable def g370 : Cfg := { N := 48, live := l370, cut := u370, mu := m370, ret := rets }
noncomputable def c370 : Go.Code := Go.Ab.bodyOf Go.Proofs.Try.f370
noncomputable def q370_0 : Nat → (AV → List AObj → Prop) → AQ := fun (n : Nat) (Post : AV → List AObj → Prop) => endQ Try.prog (resultsOf Try.f370) Post
noncomputable def c370_6 : Go.Code := codeSnd (codeSnd (codeSnd c370))
noncomputable def q370_1 : Nat → (AV → List AObj → Prop) → AQ := fun (n : Nat) (Post : AV → List AObj → Prop) => seqQ (fun (s' : Slots) (H' : List AObj) => AWP Try.prog (Cfg.N g370) n c370_6 (restrict s' (Cfg.live g370 6)) H' (q370_0 n Post)) (q370_0 n Post)
noncomputable def q370_2 : Nat → (AV → List AObj → Prop) → AQ := fun (n : Nat) (Post : AV → List AObj → Prop) => blockQ 0 (q370_1 n Post)
noncomputable def c370_3 : Go.Code := codeFst (codeSnd (codeFst (codeSnd (codeSnd c370))))
theorem s370 : ∀ (a b : List T.Span) (Post : AV → List AObj → Prop),
  AWP Try.prog 48 0 c370_3
      [(0, AV.sl 2 (Seq.map T.encS ((0 : Int), (0 : Int)) a) Tip.none), (1, AV.sl 2 (Seq.map T.encS ((0 : Int), (0 : Int)) b) Tip.none),
        (5, AV.sl 1 (Seq.raw [[AV.int IntKind.i64 (0 : Int)], [AV.int IntKind.i64 (1000000000 : Int)]]) Tip.full), (6, AV.int IntKind.i64 (0 : Int))]
      [] (q370_2 0 Post) →
    ASpec Try.prog 370 [AV.sl 2 (Seq.map T.encS ((0 : Int), (0 : Int)) a) Tip.none, AV.sl 2 (Seq.map T.encS ((0 : Int), (0 : Int)) b) Tip.none] [] Post := fun a b Post h => Go.Ab.ASpec.of_vc g370 Go.Proofs.Try.func370 (by kernel_rfl) (by kernel_rfl) (by kernel_rfl) (Go.Ab.kc (by kernel_rfl) h)
theorem v370_3 : ∀ (a b : List T.Span) (l : List Int) (i : Int) (n : Nat) (Post : AV → List AObj → Prop),
  condP (decide (i < (↑(List.length a) : Int)))
      (needP ((0 : Int) ≤ i ∧ i < (↑(List.length a) : Int))
        (needP ((0 : Int) ≤ i ∧ i < (↑(List.length a) : Int))
        (ASpec Try.prog 392 [AV.sl 1 (Seq.map encI (0 : Int) l) Tip.none, AV.int IntKind.i64 (Prod.fst (List.getD a (Int.toNat i) ((0 : Int), (0 : Int))))] []
        fun (r : AV) (H' : List AObj) =>
        ∃ (x : List Int),
        r = AV.sl 1 (Seq.map encI (0 : Int) x) Tip.none ∧
        H' = [] ∧
        (AV.int IntKind.i64 (Prod.snd (List.getD a (Int.toNat i) ((0 : Int), (0 : Int)))) = AV.int IntKind.i64 (Prod.snd (List.getD a (Int.toNat i) ((0 : Int), (0 : Int)))) ∧ ([] : List AObj) = []) ∧
        ASpec Try.prog 392 [AV.sl 1 (Seq.map encI (0 : Int) x) Tip.none, AV.int IntKind.i64 (Prod.snd (List.getD a (Int.toNat i) ((0 : Int), (0 : Int))))] []
        fun (r : AV) (H' : List AObj) =>
        ∃ (x : List Int),
        r = AV.sl 1 (Seq.map encI (0 : Int) x) Tip.none ∧
        H' = [] ∧
        AWP Try.prog 48 n c370_3
        [(0, AV.sl 2 (Seq.map T.encS ((0 : Int), (0 : Int)) a) Tip.none), (1, AV.sl 2 (Seq.map T.encS ((0 : Int), (0 : Int)) b) Tip.none),
        (5, AV.sl 1 (Seq.map encI (0 : Int) x) Tip.none), (6, AV.int IntKind.i64 (IntKind.wrap IntKind.i64 (i + (1 : Int))))]
        [] (q370_2 n Post))))
      (AWP Try.prog 48 n c370_6 [(1, AV.sl 2 (Seq.map T.encS ((0 : Int), (0 : Int)) b) Tip.none), (5, AV.sl 1 (Seq.map encI (0 : Int) l) Tip.none)] []
        (q370_0 n Post)) →
    AWP Try.prog 48 n c370_3
      [(0, AV.sl 2 (Seq.map T.encS ((0 : Int), (0 : Int)) a) Tip.none), (1, AV.sl 2 (Seq.map T.encS ((0 : Int), (0 : Int)) b) Tip.none),
        (5, AV.sl 1 (Seq.map encI (0 : Int) l) Tip.none), (6, AV.int IntKind.i64 i)]
      [] (q370_2 n Post) := fun a b l i n Post h => Go.Ab.AWP.loop' g370 (Cfg.live g370) c370_3 (by kernel_rfl) (by kernel_rfl) (Go.Ab.kc (by kernel_rfl) h)
noncomputable def q370_3 : Nat → (AV → List AObj → Prop) → AQ := fun (n : Nat) (Post : AV → List AObj → Prop) => seqQ (fun (s' : Slots) (H' : List AObj) => awp Try.prog g370 n (codeSnd c370_6) s' H' (q370_0 n Post)) (q370_0 n Post)
noncomputable def q370_4 : Nat → (AV → List AObj → Prop) → AQ := fun (n : Nat) (Post : AV → List AObj → Prop) => blockQ 2 (q370_3 n Post)
noncomputable def c370_7 : Go.Code := codeFst (codeSnd (codeFst c370_6))
theorem v370_6 : ∀ (b : List T.Span) (l : List Int) (n : Nat) (Post : AV → List AObj → Prop),
  AWP Try.prog 48 n c370_7
      [(1, AV.sl 2 (Seq.map T.encS ((0 : Int), (0 : Int)) b) Tip.none), (5, AV.sl 1 (Seq.map encI (0 : Int) l) Tip.none), (7, AV.int IntKind.i64 (0 : Int))] []
      (q370_4 n Post) →
    AWP Try.prog 48 n c370_6 [(1, AV.sl 2 (Seq.map T.encS ((0 : Int), (0 : Int)) b) Tip.none), (5, AV.sl 1 (Seq.map encI (0 : Int) l) Tip.none)] []
      (q370_0 n Post) := fun b l n Post h => Go.Ab.awp_sound g370 n _ _ _ _ (Go.Ab.kc (by kernel_rfl) h)
theorem v370_7 : ∀ (b : List T.Span) (l : List Int) (i : Int) (n : Nat) (Post : AV → List AObj → Prop),
  condP (decide (i < (↑(List.length b) : Int)))
      (needP ((0 : Int) ≤ i ∧ i < (↑(List.length b) : Int))
        (needP ((0 : Int) ≤ i ∧ i < (↑(List.length b) : Int))
        (ASpec Try.prog 392 [AV.sl 1 (Seq.map encI (0 : Int) l) Tip.none, AV.int IntKind.i64 (Prod.fst (List.getD b (Int.toNat i) ((0 : Int), (0 : Int))))] []
        fun (r : AV) (H' : List AObj) =>
        ∃ (x : List Int),
        r = AV.sl 1 (Seq.map encI (0 : Int) x) Tip.none ∧
        H' = [] ∧
        (AV.int IntKind.i64 (Prod.snd (List.getD b (Int.toNat i) ((0 : Int), (0 : Int)))) = AV.int IntKind.i64 (Prod.snd (List.getD b (Int.toNat i) ((0 : Int), (0 : Int)))) ∧ ([] : List AObj) = []) ∧
        ASpec Try.prog 392 [AV.sl 1 (Seq.map encI (0 : Int) x) Tip.none, AV.int IntKind.i64 (Prod.snd (List.getD b (Int.toNat i) ((0 : Int), (0 : Int))))] []
        fun (r : AV) (H' : List AObj) =>
        ∃ (x : List Int),
        r = AV.sl 1 (Seq.map encI (0 : Int) x) Tip.none ∧
        H' = [] ∧
        AWP Try.prog 48 n c370_7
        [(1, AV.sl 2 (Seq.map T.encS ((0 : Int), (0 : Int)) b) Tip.none), (5, AV.sl 1 (Seq.map encI (0 : Int) x) Tip.none),
        (7, AV.int IntKind.i64 (IntKind.wrap IntKind.i64 (i + (1 : Int))))]
        [] (q370_4 n Post))))
      (Post (AV.sl 1 (Seq.map encI (0 : Int) l) Tip.none) []) →
    AWP Try.prog 48 n c370_7
      [(1, AV.sl 2 (Seq.map T.encS ((0 : Int), (0 : Int)) b) Tip.none), (5, AV.sl 1 (Seq.map encI (0 : Int) l) Tip.none), (7, AV.int IntKind.i64 i)] []
      (q370_4 n Post) := fun b l i n Post h => Go.Ab.AWP.loop' g370 (Cfg.live g370) c370_7 (by kernel_rfl) (by kernel_rfl) (Go.Ab.kc (by kernel_rfl) h)

-- 257
noncomputable def l257 : Nat → List Nat
  | _ => []
noncomputable def u257 : Nat → Bool
  | _ => false
noncomputable def m257 : Nat → Bool
  | _ => false
noncomputable def g257 : Cfg := { N := 25, live := l257, cut := u257, mu := m257, ret := rets }
theorem s257 : ∀ (a b : T.Term) (n : Bool) (Post : AV → List AObj → Prop),
  condP (!ByteArray.toList { data := List.toArray (Prod.fst a) } == ByteArray.toList { data := List.toArray (Prod.fst b) })
      (Post (AV.agg [AV.str { data := #[] }, AV.sl 0 (Seq.raw []) Tip.nil, AV.bool false])
        [AObj.cells [AV.str { data := List.toArray (Prod.fst a) }, AV.sl 2 (Seq.map T.encS ((0 : Int), (0 : Int)) (Prod.fst (Prod.snd a))) Tip.none, AV.bool (Prod.snd (Prod.snd a))],
        AObj.cells [AV.str { data := List.toArray (Prod.fst b) }, AV.sl 2 (Seq.map T.encS ((0 : Int), (0 : Int)) (Prod.fst (Prod.snd b))) Tip.none, AV.bool (Prod.snd (Prod.snd b))],
        AObj.cells [AV.str { data := #[] }, AV.sl 0 (Seq.raw []) Tip.nil, AV.bool false]])
      (ASpec Try.prog 258
        [AV.sl 2 (Seq.map T.encS ((0 : Int), (0 : Int)) (Prod.fst (Prod.snd a))) Tip.none, AV.sl 2 (Seq.map T.encS ((0 : Int), (0 : Int)) (Prod.fst (Prod.snd b))) Tip.none]
        [AObj.cells [AV.str { data := List.toArray (Prod.fst a) }, AV.sl 2 (Seq.map T.encS ((0 : Int), (0 : Int)) (Prod.fst (Prod.snd a))) Tip.none, AV.bool (Prod.snd (Prod.snd a))],
        AObj.cells [AV.str { data := List.toArray (Prod.fst b) }, AV.sl 2 (Seq.map T.encS ((0 : Int), (0 : Int)) (Prod.fst (Prod.snd b))) Tip.none, AV.bool (Prod.snd (Prod.snd b))],
        AObj.cells [AV.str { data := #[] }, AV.sl 0 (Seq.raw []) Tip.nil, AV.bool false]]
        fun (r : AV) (H' : List AObj) =>
        ∃ (x : List T.Span),
        r = AV.sl 2 (Seq.map T.encS ((0 : Int), (0 : Int)) x) Tip.none ∧
        H' =
        [AObj.cells [AV.str { data := List.toArray (Prod.fst a) }, AV.sl 2 (Seq.map T.encS ((0 : Int), (0 : Int)) (Prod.fst (Prod.snd a))) Tip.none, AV.bool (Prod.snd (Prod.snd a))],
        AObj.cells [AV.str { data := List.toArray (Prod.fst b) }, AV.sl 2 (Seq.map T.encS ((0 : Int), (0 : Int)) (Prod.fst (Prod.snd b))) Tip.none, AV.bool (Prod.snd (Prod.snd b))],
        AObj.cells [AV.str { data := #[] }, AV.sl 0 (Seq.raw []) Tip.nil, AV.bool false]] ∧
        (AV.str { data := List.toArray (Prod.fst a) } = AV.str { data := List.toArray (Prod.fst a) } ∧
        [AObj.cells [AV.str { data := List.toArray (Prod.fst a) }, AV.sl 2 (Seq.map T.encS ((0 : Int), (0 : Int)) (Prod.fst (Prod.snd a))) Tip.none, AV.bool (Prod.snd (Prod.snd a))],
        AObj.cells
        [AV.str { data := List.toArray (Prod.fst b) }, AV.sl 2 (Seq.map T.encS ((0 : Int), (0 : Int)) (Prod.fst (Prod.snd b))) Tip.none, AV.bool (Prod.snd (Prod.snd b))],
        AObj.cells [AV.str { data := #[] }, AV.sl 0 (Seq.raw []) Tip.nil, AV.bool false]] =
        [AObj.cells
        [AV.str { data := List.toArray (Prod.fst a) }, AV.sl 2 (Seq.map T.encS ((0 : Int), (0 : Int)) (Prod.fst (Prod.snd a))) Tip.none, AV.bool (Prod.snd (Prod.snd a))],
        AObj.cells
        [AV.str { data := List.toArray (Prod.fst b) }, AV.sl 2 (Seq.map T.encS ((0 : Int), (0 : Int)) (Prod.fst (Prod.snd b))) Tip.none, AV.bool (Prod.snd (Prod.snd b))],
        AObj.cells [AV.str { data := #[] }, AV.sl 0 (Seq.raw []) Tip.nil, AV.bool false]]) ∧
        Post (AV.agg [AV.str { data := List.toArray (Prod.fst a) }, AV.sl 2 (Seq.map T.encS ((0 : Int), (0 : Int)) x) Tip.none, AV.bool n])
        [AObj.cells [AV.str { data := List.toArray (Prod.fst a) }, AV.sl 2 (Seq.map T.encS ((0 : Int), (0 : Int)) (Prod.fst (Prod.snd a))) Tip.none, AV.bool (Prod.snd (Prod.snd a))],
        AObj.cells
        [AV.str { data := List.toArray (Prod.fst b) }, AV.sl 2 (Seq.map T.encS ((0 : Int), (0 : Int)) (Prod.fst (Prod.snd b))) Tip.none, AV.bool (Prod.snd (Prod.snd b))],
        AObj.cells [AV.str { data := List.toArray (Prod.fst a) }, AV.sl 2 (Seq.map T.encS ((0 : Int), (0 : Int)) x) Tip.none, AV.bool n]]) →
    ASpec Try.prog 257 [AV.agg (T.encT a), AV.agg (T.encT b), AV.fn (258 : FuncId) [], AV.bool n] [] Post := fun a b n Post h => Go.Ab.ASpec.of_vc g257 Go.Proofs.Try.func257 (by kernel_rfl) (by kernel_rfl) (by kernel_rfl) (Go.Ab.kc (by kernel_rfl) h)

-- 160
noncomputable def l160 : Nat → List Nat
  | _ => []
noncomputable def u160 : Nat → Bool
  | _ => false
noncomputable def m160 : Nat → Bool
  | _ => false
noncomputable def g160 : Cfg := { N := 14, live := l160, cut := u160, mu := m160, ret := rets }
theorem s160 : ∀ (a b : T.Term) (Post : AV → List AObj → Prop),
  condP (Prod.snd (Prod.snd a))
      (ASpec Try.prog 257
        [AV.agg [AV.str { data := List.toArray (Prod.fst a) }, AV.sl 2 (Seq.map T.encS ((0 : Int), (0 : Int)) (Prod.fst (Prod.snd a))) Tip.none, AV.bool (Prod.snd (Prod.snd a))],
        AV.agg [AV.str { data := List.toArray (Prod.fst b) }, AV.sl 2 (Seq.map T.encS ((0 : Int), (0 : Int)) (Prod.fst (Prod.snd b))) Tip.none, AV.bool (Prod.snd (Prod.snd b))],
        AV.fn 258 [], AV.bool (Prod.snd (Prod.snd b))]
        [AObj.cells [AV.str { data := List.toArray (Prod.fst a) }, AV.sl 2 (Seq.map T.encS ((0 : Int), (0 : Int)) (Prod.fst (Prod.snd a))) Tip.none, AV.bool (Prod.snd (Prod.snd a))],
        AObj.cells [AV.str { data := List.toArray (Prod.fst b) }, AV.sl 2 (Seq.map T.encS ((0 : Int), (0 : Int)) (Prod.fst (Prod.snd b))) Tip.none, AV.bool (Prod.snd (Prod.snd b))],
        AObj.cells [AV.str { data := #[] }, AV.sl 0 (Seq.raw []) Tip.nil, AV.bool false]]
        fun (r : AV) (H' : List AObj) =>
        ∃ (x : List UInt8 × List T.Span × Bool),
        r = AV.agg [AV.str { data := List.toArray (Prod.fst x) }, AV.sl 2 (Seq.map T.encS ((0 : Int), (0 : Int)) (Prod.fst (Prod.snd x))) Tip.none, AV.bool (Prod.snd (Prod.snd x))] ∧
        H' =
        [AObj.cells [AV.str { data := List.toArray (Prod.fst a) }, AV.sl 2 (Seq.map T.encS ((0 : Int), (0 : Int)) (Prod.fst (Prod.snd a))) Tip.none, AV.bool (Prod.snd (Prod.snd a))],
        AObj.cells [AV.str { data := List.toArray (Prod.fst b) }, AV.sl 2 (Seq.map T.encS ((0 : Int), (0 : Int)) (Prod.fst (Prod.snd b))) Tip.none, AV.bool (Prod.snd (Prod.snd b))],
        AObj.cells [AV.str { data := #[] }, AV.sl 0 (Seq.raw []) Tip.nil, AV.bool false]] ∧
        Post (AV.agg [AV.str { data := List.toArray (Prod.fst x) }, AV.sl 2 (Seq.map T.encS ((0 : Int), (0 : Int)) (Prod.fst (Prod.snd x))) Tip.none, AV.bool (Prod.snd (Prod.snd x))])
        [AObj.cells [AV.str { data := List.toArray (Prod.fst a) }, AV.sl 2 (Seq.map T.encS ((0 : Int), (0 : Int)) (Prod.fst (Prod.snd a))) Tip.none, AV.bool (Prod.snd (Prod.snd a))],
        AObj.cells [AV.str { data := List.toArray (Prod.fst b) }, AV.sl 2 (Seq.map T.encS ((0 : Int), (0 : Int)) (Prod.fst (Prod.snd b))) Tip.none, AV.bool (Prod.snd (Prod.snd b))],
        AObj.cells [AV.str { data := List.toArray (Prod.fst x) }, AV.sl 2 (Seq.map T.encS ((0 : Int), (0 : Int)) (Prod.fst (Prod.snd x))) Tip.none, AV.bool (Prod.snd (Prod.snd x))]])
      (ASpec Try.prog 257
        [AV.agg [AV.str { data := List.toArray (Prod.fst a) }, AV.sl 2 (Seq.map T.encS ((0 : Int), (0 : Int)) (Prod.fst (Prod.snd a))) Tip.none, AV.bool (Prod.snd (Prod.snd a))],
        AV.agg [AV.str { data := List.toArray (Prod.fst b) }, AV.sl 2 (Seq.map T.encS ((0 : Int), (0 : Int)) (Prod.fst (Prod.snd b))) Tip.none, AV.bool (Prod.snd (Prod.snd b))],
        AV.fn 258 [], AV.bool false]
        [AObj.cells [AV.str { data := List.toArray (Prod.fst a) }, AV.sl 2 (Seq.map T.encS ((0 : Int), (0 : Int)) (Prod.fst (Prod.snd a))) Tip.none, AV.bool (Prod.snd (Prod.snd a))],
        AObj.cells [AV.str { data := List.toArray (Prod.fst b) }, AV.sl 2 (Seq.map T.encS ((0 : Int), (0 : Int)) (Prod.fst (Prod.snd b))) Tip.none, AV.bool (Prod.snd (Prod.snd b))],
        AObj.cells [AV.str { data := #[] }, AV.sl 0 (Seq.raw []) Tip.nil, AV.bool false]]
        fun (r : AV) (H' : List AObj) =>
        ∃ (x : List UInt8 × List T.Span × Bool),
        r = AV.agg [AV.str { data := List.toArray (Prod.fst x) }, AV.sl 2 (Seq.map T.encS ((0 : Int), (0 : Int)) (Prod.fst (Prod.snd x))) Tip.none, AV.bool (Prod.snd (Prod.snd x))] ∧
        H' =
        [AObj.cells [AV.str { data := List.toArray (Prod.fst a) }, AV.sl 2 (Seq.map T.encS ((0 : Int), (0 : Int)) (Prod.fst (Prod.snd a))) Tip.none, AV.bool (Prod.snd (Prod.snd a))],
        AObj.cells [AV.str { data := List.toArray (Prod.fst b) }, AV.sl 2 (Seq.map T.encS ((0 : Int), (0 : Int)) (Prod.fst (Prod.snd b))) Tip.none, AV.bool (Prod.snd (Prod.snd b))],
        AObj.cells [AV.str { data := #[] }, AV.sl 0 (Seq.raw []) Tip.nil, AV.bool false]] ∧
        Post (AV.agg [AV.str { data := List.toArray (Prod.fst x) }, AV.sl 2 (Seq.map T.encS ((0 : Int), (0 : Int)) (Prod.fst (Prod.snd x))) Tip.none, AV.bool (Prod.snd (Prod.snd x))])
        [AObj.cells [AV.str { data := List.toArray (Prod.fst a) }, AV.sl 2 (Seq.map T.encS ((0 : Int), (0 : Int)) (Prod.fst (Prod.snd a))) Tip.none, AV.bool (Prod.snd (Prod.snd a))],
        AObj.cells [AV.str { data := List.toArray (Prod.fst b) }, AV.sl 2 (Seq.map T.encS ((0 : Int), (0 : Int)) (Prod.fst (Prod.snd b))) Tip.none, AV.bool (Prod.snd (Prod.snd b))],
        AObj.cells
        [AV.str { data := List.toArray (Prod.fst x) }, AV.sl 2 (Seq.map T.encS ((0 : Int), (0 : Int)) (Prod.fst (Prod.snd x))) Tip.none, AV.bool (Prod.snd (Prod.snd x))]]) →
    ASpec Try.prog 160 [AV.agg (T.encT a), AV.agg (T.encT b)] [] Post := fun a b Post h => Go.Ab.ASpec.of_vc g160 Go.Proofs.Try.func160 (by kernel_rfl) (by kernel_rfl) (by kernel_rfl) (Go.Ab.kc (by kernel_rfl) h)

-- 161
noncomputable def l161 : Nat → List Nat
  | _ => []
noncomputable def u161 : Nat → Bool
  | _ => false
noncomputable def m161 : Nat → Bool
  | _ => false
noncomputable def g161 : Cfg := { N := 26, live := l161, cut := u161, mu := m161, ret := rets }
theorem s161 : ∀ (a b : T.Term) (Post : AV → List AObj → Prop),
  condP (ByteArray.toList { data := List.toArray (Prod.fst a) } == ByteArray.toList { data := List.toArray (Prod.fst b) })
      (condP (!Prod.snd (Prod.snd a))
        (ASpec Try.prog 259
        [AV.sl 2 (Seq.map T.encS ((0 : Int), (0 : Int)) (Prod.fst (Prod.snd a))) Tip.none, AV.sl 2 (Seq.map T.encS ((0 : Int), (0 : Int)) (Prod.fst (Prod.snd b))) Tip.none]
        [AObj.cells [AV.str { data := List.toArray (Prod.fst a) }, AV.sl 2 (Seq.map T.encS ((0 : Int), (0 : Int)) (Prod.fst (Prod.snd a))) Tip.none, AV.bool (Prod.snd (Prod.snd a))],
        AObj.cells [AV.str { data := List.toArray (Prod.fst b) }, AV.sl 2 (Seq.map T.encS ((0 : Int), (0 : Int)) (Prod.fst (Prod.snd b))) Tip.none, AV.bool (Prod.snd (Prod.snd b))]]
        fun (r : AV) (H' : List AObj) =>
        ∃ (x : Bool),
        r = AV.bool x ∧
        H' =
        [AObj.cells [AV.str { data := List.toArray (Prod.fst a) }, AV.sl 2 (Seq.map T.encS ((0 : Int), (0 : Int)) (Prod.fst (Prod.snd a))) Tip.none, AV.bool (Prod.snd (Prod.snd a))],
        AObj.cells
        [AV.str { data := List.toArray (Prod.fst b) }, AV.sl 2 (Seq.map T.encS ((0 : Int), (0 : Int)) (Prod.fst (Prod.snd b))) Tip.none, AV.bool (Prod.snd (Prod.snd b))]] ∧
        Post (AV.bool x)
        [AObj.cells [AV.str { data := List.toArray (Prod.fst a) }, AV.sl 2 (Seq.map T.encS ((0 : Int), (0 : Int)) (Prod.fst (Prod.snd a))) Tip.none, AV.bool (Prod.snd (Prod.snd a))],
        AObj.cells
        [AV.str { data := List.toArray (Prod.fst b) }, AV.sl 2 (Seq.map T.encS ((0 : Int), (0 : Int)) (Prod.fst (Prod.snd b))) Tip.none, AV.bool (Prod.snd (Prod.snd b))]])
        (condP (Prod.snd (Prod.snd b))
        (ASpec Try.prog 259
        [AV.sl 2 (Seq.map T.encS ((0 : Int), (0 : Int)) (Prod.fst (Prod.snd a))) Tip.none, AV.sl 2 (Seq.map T.encS ((0 : Int), (0 : Int)) (Prod.fst (Prod.snd b))) Tip.none]
        [AObj.cells [AV.str { data := List.toArray (Prod.fst a) }, AV.sl 2 (Seq.map T.encS ((0 : Int), (0 : Int)) (Prod.fst (Prod.snd a))) Tip.none, AV.bool (Prod.snd (Prod.snd a))],
        AObj.cells [AV.str { data := List.toArray (Prod.fst b) }, AV.sl 2 (Seq.map T.encS ((0 : Int), (0 : Int)) (Prod.fst (Prod.snd b))) Tip.none, AV.bool (Prod.snd (Prod.snd b))]]
        fun (r : AV) (H' : List AObj) =>
        ∃ (x : Bool),
        r = AV.bool x ∧
        H' =
        [AObj.cells
        [AV.str { data := List.toArray (Prod.fst a) }, AV.sl 2 (Seq.map T.encS ((0 : Int), (0 : Int)) (Prod.fst (Prod.snd a))) Tip.none, AV.bool (Prod.snd (Prod.snd a))],
        AObj.cells
        [AV.str { data := List.toArray (Prod.fst b) }, AV.sl 2 (Seq.map T.encS ((0 : Int), (0 : Int)) (Prod.fst (Prod.snd b))) Tip.none, AV.bool (Prod.snd (Prod.snd b))]] ∧
        Post (AV.bool x)
        [AObj.cells
        [AV.str { data := List.toArray (Prod.fst a) }, AV.sl 2 (Seq.map T.encS ((0 : Int), (0 : Int)) (Prod.fst (Prod.snd a))) Tip.none, AV.bool (Prod.snd (Prod.snd a))],
        AObj.cells
        [AV.str { data := List.toArray (Prod.fst b) }, AV.sl 2 (Seq.map T.encS ((0 : Int), (0 : Int)) (Prod.fst (Prod.snd b))) Tip.none, AV.bool (Prod.snd (Prod.snd b))]])
        (Post (AV.bool false)
        [AObj.cells [AV.str { data := List.toArray (Prod.fst a) }, AV.sl 2 (Seq.map T.encS ((0 : Int), (0 : Int)) (Prod.fst (Prod.snd a))) Tip.none, AV.bool (Prod.snd (Prod.snd a))],
        AObj.cells [AV.str { data := List.toArray (Prod.fst b) }, AV.sl 2 (Seq.map T.encS ((0 : Int), (0 : Int)) (Prod.fst (Prod.snd b))) Tip.none, AV.bool (Prod.snd (Prod.snd b))]])))
      (Post (AV.bool false)
        [AObj.cells [AV.str { data := List.toArray (Prod.fst a) }, AV.sl 2 (Seq.map T.encS ((0 : Int), (0 : Int)) (Prod.fst (Prod.snd a))) Tip.none, AV.bool (Prod.snd (Prod.snd a))],
        AObj.cells [AV.str { data := List.toArray (Prod.fst b) }, AV.sl 2 (Seq.map T.encS ((0 : Int), (0 : Int)) (Prod.fst (Prod.snd b))) Tip.none, AV.bool (Prod.snd (Prod.snd b))]]) →
    ASpec Try.prog 161 [AV.agg (T.encT a), AV.agg (T.encT b)] [] Post := fun a b Post h => Go.Ab.ASpec.of_vc g161 Go.Proofs.Try.func161 (by kernel_rfl) (by kernel_rfl) (by kernel_rfl) (Go.Ab.kc (by kernel_rfl) h)

-- 155
noncomputable def l155 : Nat → List Nat
  | _ => []
noncomputable def u155 : Nat → Bool
  | _ => false
noncomputable def m155 : Nat → Bool
  | _ => false
noncomputable def g155 : Cfg := { N := 15, live := l155, cut := u155, mu := m155, ret := rets }
theorem s155 : ∀ (a : T.Term) (v : Int) (c : Bool) (Post : AV → List AObj → Prop),
  condP (!c)
      (Post (AV.bool (Prod.snd (Prod.snd a)))
        [AObj.cells [AV.str { data := List.toArray (Prod.fst a) }, AV.sl 2 (Seq.map T.encS ((0 : Int), (0 : Int)) (Prod.fst (Prod.snd a))) Tip.none, AV.bool (Prod.snd (Prod.snd a))]])
      (ASpec Try.prog 254 [AV.sl 2 (Seq.map T.encS ((0 : Int), (0 : Int)) (Prod.fst (Prod.snd a))) Tip.none, AV.int IntKind.i64 v]
        [AObj.cells [AV.str { data := List.toArray (Prod.fst a) }, AV.sl 2 (Seq.map T.encS ((0 : Int), (0 : Int)) (Prod.fst (Prod.snd a))) Tip.none, AV.bool (Prod.snd (Prod.snd a))]]
        fun (r : AV) (H' : List AObj) =>
        ∃ (x : Bool),
        r = AV.bool x ∧
        H' =
        [AObj.cells [AV.str { data := List.toArray (Prod.fst a) }, AV.sl 2 (Seq.map T.encS ((0 : Int), (0 : Int)) (Prod.fst (Prod.snd a))) Tip.none, AV.bool (Prod.snd (Prod.snd a))]] ∧
        Post (AV.bool x)
        [AObj.cells
        [AV.str { data := List.toArray (Prod.fst a) }, AV.sl 2 (Seq.map T.encS ((0 : Int), (0 : Int)) (Prod.fst (Prod.snd a))) Tip.none, AV.bool (Prod.snd (Prod.snd a))]]) →
    ASpec Try.prog 155 [AV.agg (T.encT a), AV.int IntKind.i64 v, AV.bool c] [] Post := fun a v c Post h => Go.Ab.ASpec.of_vc g155 Go.Proofs.Try.func155 (by kernel_rfl) (by kernel_rfl) (by kernel_rfl) (Go.Ab.kc (by kernel_rfl) h)

-- 159
noncomputable def l159 : Nat → List Nat
  | _ => []
noncomputable def u159 : Nat → Bool
  | _ => false
noncomputable def m159 : Nat → Bool
  | _ => false
noncomputable def g159 : Cfg := { N := 12, live := l159, cut := u159, mu := m159, ret := rets }
theorem s159 : ∀ (a : T.Term) (Post : AV → List AObj → Prop),
  condP (!Prod.snd (Prod.snd a))
      (Post (AV.bool ((↑(List.length (Prod.fst (Prod.snd a))) : Int) == (0 : Int)))
        [AObj.cells [AV.str { data := List.toArray (Prod.fst a) }, AV.sl 2 (Seq.map T.encS ((0 : Int), (0 : Int)) (Prod.fst (Prod.snd a))) Tip.none, AV.bool (Prod.snd (Prod.snd a))]])
      (Post (AV.bool false)
        [AObj.cells [AV.str { data := List.toArray (Prod.fst a) }, AV.sl 2 (Seq.map T.encS ((0 : Int), (0 : Int)) (Prod.fst (Prod.snd a))) Tip.none, AV.bool (Prod.snd (Prod.snd a))]]) →
    ASpec Try.prog 159 [AV.agg (T.encT a)] [] Post := fun a Post h => Go.Ab.ASpec.of_vc g159 Go.Proofs.Try.func159 (by kernel_rfl) (by kernel_rfl) (by kernel_rfl) (Go.Ab.kc (by kernel_rfl) h)

-- 158
noncomputable def l158 : Nat → List Nat
  | _ => []
noncomputable def u158 : Nat → Bool
  | _ => false
noncomputable def m158 : Nat → Bool
  | _ => false
noncomputable def g158 : Cfg := { N := 11, live := l158, cut := u158, mu := m158, ret := rets }
theorem s158 : ∀ (a : T.Term) (Post : AV → List AObj → Prop),
  (ASpec Try.prog 154 [AV.str { data := List.toArray (Prod.fst a) }]
      [AObj.cells [AV.str { data := List.toArray (Prod.fst a) }, AV.sl 2 (Seq.map T.encS ((0 : Int), (0 : Int)) (Prod.fst (Prod.snd a))) Tip.none, AV.bool (Prod.snd (Prod.snd a))]]
      fun (r : AV) (H' : List AObj) =>
      ∃ (x : Bool),
        r = AV.bool x ∧
        H' = [AObj.cells [AV.str { data := List.toArray (Prod.fst a) }, AV.sl 2 (Seq.map T.encS ((0 : Int), (0 : Int)) (Prod.fst (Prod.snd a))) Tip.none, AV.bool (Prod.snd (Prod.snd a))]] ∧
        condP x
        (ASpec Try.prog 256 [AV.sl 2 (Seq.map T.encS ((0 : Int), (0 : Int)) (Prod.fst (Prod.snd a))) Tip.none]
        [AObj.cells [AV.str { data := List.toArray (Prod.fst a) }, AV.sl 2 (Seq.map T.encS ((0 : Int), (0 : Int)) (Prod.fst (Prod.snd a))) Tip.none, AV.bool (Prod.snd (Prod.snd a))]]
        fun (r : AV) (H' : List AObj) =>
        ∃ (x : Bool),
        r = AV.bool x ∧
        H' =
        [AObj.cells
        [AV.str { data := List.toArray (Prod.fst a) }, AV.sl 2 (Seq.map T.encS ((0 : Int), (0 : Int)) (Prod.fst (Prod.snd a))) Tip.none, AV.bool (Prod.snd (Prod.snd a))]] ∧
        Post (AV.bool x)
        [AObj.cells
        [AV.str { data := List.toArray (Prod.fst a) }, AV.sl 2 (Seq.map T.encS ((0 : Int), (0 : Int)) (Prod.fst (Prod.snd a))) Tip.none, AV.bool (Prod.snd (Prod.snd a))]])
        (Post (AV.bool false)
        [AObj.cells
        [AV.str { data := List.toArray (Prod.fst a) }, AV.sl 2 (Seq.map T.encS ((0 : Int), (0 : Int)) (Prod.fst (Prod.snd a))) Tip.none, AV.bool (Prod.snd (Prod.snd a))]])) →
    ASpec Try.prog 158 [AV.agg (T.encT a)] [] Post := fun a Post h => Go.Ab.ASpec.of_vc g158 Go.Proofs.Try.func158 (by kernel_rfl) (by kernel_rfl) (by kernel_rfl) (Go.Ab.kc (by kernel_rfl) h)

-- 200
noncomputable def l200 : Nat → List Nat
  | _ => []
noncomputable def u200 : Nat → Bool
  | _ => false
noncomputable def m200 : Nat → Bool
  | _ => false
noncomputable def g200 : Cfg := { N := 6, live := l200, cut := u200, mu := m200, ret := rets }
theorem s200 : ∀ (s : ByteArray) (Post : AV → List AObj → Prop),
  (ASpec Try.prog 289 [] [AObj.cells [AV.str { data := #[] }, AV.sl 0 (Seq.raw []) Tip.nil, AV.bool false]] fun (r : AV) (H' : List AObj) =>
      ∃ (x : List T.Span),
        r = AV.sl 2 (Seq.map T.encS ((0 : Int), (0 : Int)) x) Tip.none ∧
        H' = [AObj.cells [AV.str { data := #[] }, AV.sl 0 (Seq.raw []) Tip.nil, AV.bool false]] ∧
        Post (AV.agg [AV.str s, AV.sl 2 (Seq.map T.encS ((0 : Int), (0 : Int)) x) Tip.none, AV.bool true])
        [AObj.cells [AV.str s, AV.sl 2 (Seq.map T.encS ((0 : Int), (0 : Int)) x) Tip.none, AV.bool true]]) →
    ASpec Try.prog 200 [AV.str s] [] Post := fun s Post h => Go.Ab.ASpec.of_vc g200 Go.Proofs.Try.func200 (by kernel_rfl) (by kernel_rfl) (by kernel_rfl) (Go.Ab.kc (by kernel_rfl) h)

-- 33
noncomputable def l33 : Nat → List Nat
  | _ => []
noncomputable def u33 : Nat → Bool
  | _ => false
noncomputable def m33 : Nat → Bool
  | _ => false
noncomputable def g33 : Cfg := { N := 26, live := l33, cut := u33, mu := m33, ret := rets }
theorem s33 : ∀ (a b : T.Term) (Post : AV → List AObj → Prop),
  condP (ByteArray.toList { data := List.toArray (Prod.fst a) } == ByteArray.toList { data := List.toArray (Prod.fst b) })
      (ASpec Try.prog 162
        [AV.sl 2 (Seq.map T.encS ((0 : Int), (0 : Int)) (Prod.fst (Prod.snd a))) Tip.none, AV.sl 2 (Seq.map T.encS ((0 : Int), (0 : Int)) (Prod.fst (Prod.snd b))) Tip.none]
        [AObj.cells [AV.str { data := List.toArray (Prod.fst a) }, AV.sl 2 (Seq.map T.encS ((0 : Int), (0 : Int)) (Prod.fst (Prod.snd a))) Tip.none, AV.bool (Prod.snd (Prod.snd a))],
        AObj.cells [AV.str { data := List.toArray (Prod.fst b) }, AV.sl 2 (Seq.map T.encS ((0 : Int), (0 : Int)) (Prod.fst (Prod.snd b))) Tip.none, AV.bool (Prod.snd (Prod.snd b))]]
        fun (r : AV) (H' : List AObj) =>
        ∃ (x : Bool),
        r = AV.bool x ∧
        H' =
        [AObj.cells [AV.str { data := List.toArray (Prod.fst a) }, AV.sl 2 (Seq.map T.encS ((0 : Int), (0 : Int)) (Prod.fst (Prod.snd a))) Tip.none, AV.bool (Prod.snd (Prod.snd a))],
        AObj.cells
        [AV.str { data := List.toArray (Prod.fst b) }, AV.sl 2 (Seq.map T.encS ((0 : Int), (0 : Int)) (Prod.fst (Prod.snd b))) Tip.none, AV.bool (Prod.snd (Prod.snd b))]] ∧
        condP x
        (condP (Prod.snd (Prod.snd b))
        (Post (AV.bool true)
        [AObj.cells
        [AV.str { data := List.toArray (Prod.fst a) }, AV.sl 2 (Seq.map T.encS ((0 : Int), (0 : Int)) (Prod.fst (Prod.snd a))) Tip.none, AV.bool (Prod.snd (Prod.snd a))],
        AObj.cells
        [AV.str { data := List.toArray (Prod.fst b) }, AV.sl 2 (Seq.map T.encS ((0 : Int), (0 : Int)) (Prod.fst (Prod.snd b))) Tip.none, AV.bool (Prod.snd (Prod.snd b))]])
        (Post (AV.bool !Prod.snd (Prod.snd a))
        [AObj.cells
        [AV.str { data := List.toArray (Prod.fst a) }, AV.sl 2 (Seq.map T.encS ((0 : Int), (0 : Int)) (Prod.fst (Prod.snd a))) Tip.none, AV.bool (Prod.snd (Prod.snd a))],
        AObj.cells
        [AV.str { data := List.toArray (Prod.fst b) }, AV.sl 2 (Seq.map T.encS ((0 : Int), (0 : Int)) (Prod.fst (Prod.snd b))) Tip.none, AV.bool (Prod.snd (Prod.snd b))]]))
        (Post (AV.bool false)
        [AObj.cells [AV.str { data := List.toArray (Prod.fst a) }, AV.sl 2 (Seq.map T.encS ((0 : Int), (0 : Int)) (Prod.fst (Prod.snd a))) Tip.none, AV.bool (Prod.snd (Prod.snd a))],
        AObj.cells
        [AV.str { data := List.toArray (Prod.fst b) }, AV.sl 2 (Seq.map T.encS ((0 : Int), (0 : Int)) (Prod.fst (Prod.snd b))) Tip.none, AV.bool (Prod.snd (Prod.snd b))]]))
      (Post (AV.bool false)
        [AObj.cells [AV.str { data := List.toArray (Prod.fst a) }, AV.sl 2 (Seq.map T.encS ((0 : Int), (0 : Int)) (Prod.fst (Prod.snd a))) Tip.none, AV.bool (Prod.snd (Prod.snd a))],
        AObj.cells [AV.str { data := List.toArray (Prod.fst b) }, AV.sl 2 (Seq.map T.encS ((0 : Int), (0 : Int)) (Prod.fst (Prod.snd b))) Tip.none, AV.bool (Prod.snd (Prod.snd b))]]) →
    ASpec Try.prog 33 [AV.agg (T.encT a), AV.agg (T.encT b)] [] Post := fun a b Post h => Go.Ab.ASpec.of_vc g33 Go.Proofs.Try.func33 (by kernel_rfl) (by kernel_rfl) (by kernel_rfl) (Go.Ab.kc (by kernel_rfl) h)

-- 34
noncomputable def l34 : Nat → List Nat
  | _ => []
noncomputable def u34 : Nat → Bool
  | _ => false
noncomputable def m34 : Nat → Bool
  | _ => false
noncomputable def g34 : Cfg := { N := 12, live := l34, cut := u34, mu := m34, ret := rets }
theorem s34 : ∀ (a : T.Term) (Post : AV → List AObj → Prop),
  condP (!Prod.snd (Prod.snd a))
      (Post (AV.bool ((↑(List.length (Prod.fst (Prod.snd a))) : Int) == (0 : Int)))
        [AObj.cells [AV.str { data := List.toArray (Prod.fst a) }, AV.sl 2 (Seq.map T.encS ((0 : Int), (0 : Int)) (Prod.fst (Prod.snd a))) Tip.none, AV.bool (Prod.snd (Prod.snd a))]])
      (Post (AV.bool false)
        [AObj.cells [AV.str { data := List.toArray (Prod.fst a) }, AV.sl 2 (Seq.map T.encS ((0 : Int), (0 : Int)) (Prod.fst (Prod.snd a))) Tip.none, AV.bool (Prod.snd (Prod.snd a))]]) →
    ASpec Try.prog 34 [AV.agg (T.encT a)] [] Post := fun a Post h => Go.Ab.ASpec.of_vc g34 Go.Proofs.Try.func34 (by kernel_rfl) (by kernel_rfl) (by kernel_rfl) (Go.Ab.kc (by kernel_rfl) h)

-- 36
noncomputable def l36 : Nat → List Nat
  | _ => []
noncomputable def u36 : Nat → Bool
  | _ => false
noncomputable def m36 : Nat → Bool
  | _ => false
noncomputable def g36 : Cfg := { N := 24, live := l36, cut := u36, mu := m36, ret := rets }
theorem s36 : ∀ (a b : T.Term) (Post : AV → List AObj → Prop),
  condP (ByteArray.toList { data := List.toArray (Prod.fst a) } == ByteArray.toList { data := List.toArray (Prod.fst b) })
      (condP (Prod.snd (Prod.snd a) == Prod.snd (Prod.snd b))
        (ASpec Try.prog 163
        [AV.sl 2 (Seq.map T.encS ((0 : Int), (0 : Int)) (Prod.fst (Prod.snd a))) Tip.none, AV.sl 2 (Seq.map T.encS ((0 : Int), (0 : Int)) (Prod.fst (Prod.snd b))) Tip.none]
        [AObj.cells [AV.str { data := List.toArray (Prod.fst a) }, AV.sl 2 (Seq.map T.encS ((0 : Int), (0 : Int)) (Prod.fst (Prod.snd a))) Tip.none, AV.bool (Prod.snd (Prod.snd a))],
        AObj.cells [AV.str { data := List.toArray (Prod.fst b) }, AV.sl 2 (Seq.map T.encS ((0 : Int), (0 : Int)) (Prod.fst (Prod.snd b))) Tip.none, AV.bool (Prod.snd (Prod.snd b))]]
        fun (r : AV) (H' : List AObj) =>
        ∃ (x : Bool),
        r = AV.bool x ∧
        H' =
        [AObj.cells [AV.str { data := List.toArray (Prod.fst a) }, AV.sl 2 (Seq.map T.encS ((0 : Int), (0 : Int)) (Prod.fst (Prod.snd a))) Tip.none, AV.bool (Prod.snd (Prod.snd a))],
        AObj.cells
        [AV.str { data := List.toArray (Prod.fst b) }, AV.sl 2 (Seq.map T.encS ((0 : Int), (0 : Int)) (Prod.fst (Prod.snd b))) Tip.none, AV.bool (Prod.snd (Prod.snd b))]] ∧
        Post (AV.bool x)
        [AObj.cells [AV.str { data := List.toArray (Prod.fst a) }, AV.sl 2 (Seq.map T.encS ((0 : Int), (0 : Int)) (Prod.fst (Prod.snd a))) Tip.none, AV.bool (Prod.snd (Prod.snd a))],
        AObj.cells
        [AV.str { data := List.toArray (Prod.fst b) }, AV.sl 2 (Seq.map T.encS ((0 : Int), (0 : Int)) (Prod.fst (Prod.snd b))) Tip.none, AV.bool (Prod.snd (Prod.snd b))]])
        (Post (AV.bool false)
        [AObj.cells [AV.str { data := List.toArray (Prod.fst a) }, AV.sl 2 (Seq.map T.encS ((0 : Int), (0 : Int)) (Prod.fst (Prod.snd a))) Tip.none, AV.bool (Prod.snd (Prod.snd a))],
        AObj.cells [AV.str { data := List.toArray (Prod.fst b) }, AV.sl 2 (Seq.map T.encS ((0 : Int), (0 : Int)) (Prod.fst (Prod.snd b))) Tip.none, AV.bool (Prod.snd (Prod.snd b))]]))
      (Post (AV.bool false)
        [AObj.cells [AV.str { data := List.toArray (Prod.fst a) }, AV.sl 2 (Seq.map T.encS ((0 : Int), (0 : Int)) (Prod.fst (Prod.snd a))) Tip.none, AV.bool (Prod.snd (Prod.snd a))],
        AObj.cells [AV.str { data := List.toArray (Prod.fst b) }, AV.sl 2 (Seq.map T.encS ((0 : Int), (0 : Int)) (Prod.fst (Prod.snd b))) Tip.none, AV.bool (Prod.snd (Prod.snd b))]]) →
    ASpec Try.prog 36 [AV.agg (T.encT a), AV.agg (T.encT b)] [] Post := fun a b Post h => Go.Ab.ASpec.of_vc g36 Go.Proofs.Try.func36 (by kernel_rfl) (by kernel_rfl) (by kernel_rfl) (Go.Ab.kc (by kernel_rfl) h)

-- 153
noncomputable def l153 : Nat → List Nat
  | _ => []
noncomputable def u153 : Nat → Bool
  | _ => false
noncomputable def m153 : Nat → Bool
  | _ => false
noncomputable def g153 : Cfg := { N := 13, live := l153, cut := u153, mu := m153, ret := rets }
theorem s153 : ∀ (a : T.Term) (Post : AV → List AObj → Prop),
  condP (decide ((↑(List.length (Prod.fst (Prod.snd a))) : Int) > (60 : Int)))
      (Post (AV.bool true)
        [AObj.cells [AV.str { data := List.toArray (Prod.fst a) }, AV.sl 2 (Seq.map T.encS ((0 : Int), (0 : Int)) (Prod.fst (Prod.snd a))) Tip.none, AV.bool (Prod.snd (Prod.snd a))]])
      (Post (AV.bool (decide ((↑(ByteArray.size { data := List.toArray (Prod.fst a) }) : Int) > (200 : Int))))
        [AObj.cells [AV.str { data := List.toArray (Prod.fst a) }, AV.sl 2 (Seq.map T.encS ((0 : Int), (0 : Int)) (Prod.fst (Prod.snd a))) Tip.none, AV.bool (Prod.snd (Prod.snd a))]]) →
    ASpec Try.prog 153 [AV.agg (T.encT a)] [] Post := fun a Post h => Go.Ab.ASpec.of_vc g153 Go.Proofs.Try.func153 (by kernel_rfl) (by kernel_rfl) (by kernel_rfl) (Go.Ab.kc (by kernel_rfl) h)

end
end Sg
end

section
/- A trail as an object; what is done to it. -/

open Go Go.Ab Go.Proofs V
namespace T
noncomputable def tO (E : List TE) (L : List Int) (a b : Nat) : AObj := .cells [.sl 5 (.map encTE noTE E) (.tok a), .sl 1 (.map encI 0 L) (.tok b)]
noncomputable def HT (E : List TE) (L : List Int) : List AObj := [tO E L 1 2, .tok, .tok]
/-- kind, version, number, term -/
abbrev Dt := Int × Int × Int × Term
noncomputable def encDt (x : Dt) : List AV := [.int .i64 x.1, .int .i64 x.2.1, .int .i64 x.2.2.1, .str ⟨x.2.2.2.1.toArray⟩, .sl 2 (.map encS (0, 0) x.2.2.2.2.1) .none, .bool x.2.2.2.2.2]
abbrev noDt : Dt := (0, 0, 0, noT)
end T
end

section
/- Printed: what the code of functions 26, 28, 30, 80, 86, 29, 156, 31, 32, 35 asks for, by the framework's own reading of it; each line is checked against the code. -/

set_option linter.unusedVariables false
set_option maxRecDepth 100000
set_option maxHeartbeats 4000000
open Go Go.Ab Go.Proofs
namespace Tl
noncomputable section

noncomputable def updT (args : List AV) (H : List AObj) (E : List T.TE) (L : List Int) : List AObj := match args with
  | .ptr p _ :: _ => match H[p]? with
    | some (.cells [.sl _ _ (.tok a), .sl _ _ (.tok b)]) => (((H.set a .gone).set b .gone).set p (.cells [.sl 5 (.map T.encTE T.noTE E) (.tok H.length), .sl 1 (.map encI 0 L) (.tok (H.length + 1))])) ++ [.tok, .tok]
    | _ => H
  | _ => H
noncomputable def retT : List (Nat × Ret) := [
  (26, ⟨Bool, fun _ _ x => .bool x, fun _ H _ => H⟩), (27, ⟨Unit, fun _ _ _ => .bool true, fun _ H _ => H⟩),
  (28, ⟨Unit, fun _ H _ => .ptr H.length 0, fun _ H _ => H ++ [T.tO [] [] (H.length + 1) (H.length + 2), .tok, .tok]⟩),
  (30, ⟨Int, fun _ _ x => .int .i64 x, fun _ H _ => H⟩), (80, ⟨Int, fun _ _ x => .int .i64 x, fun _ H _ => H⟩), (29, ⟨T.Term, fun _ _ x => .agg (T.encT x), fun _ H _ => H⟩), (86, ⟨T.Term, fun _ _ x => .agg (T.encT x), fun _ H _ => H⟩),
  (156, ⟨List T.TE × List Int, fun _ _ _ => .tup [], fun a H x => updT a H x.1 x.2⟩),
  (31, ⟨Int × List T.TE × List Int, fun _ _ x => .int .i64 x.1, fun a H x => updT a H x.2.1 x.2.2⟩),
  (32, ⟨Int × List T.TE × List Int, fun _ _ x => .int .i64 x.1, fun a H x => updT a H x.2.1 x.2.2⟩),
  (35, ⟨List T.TE × List Int, fun _ _ _ => .tup [], fun a H x => updT a H x.1 x.2⟩),
  (81, ⟨Int, fun _ _ x => .int .i64 x, fun _ H _ => H⟩)]
noncomputable def rets : FuncId → List Ret := fun f => match lookupR retT f with
  | [] => Sg.rets f
  | l => l

-- 26
noncomputable def l26 : Nat → List Nat
  | 4 => [0, 3]
  | _ => []
noncomputable def u26 : Nat → Bool
  | _ => false
noncomputable def m26 : Nat → Bool
  | _ => false
noncomputable def g26 : Cfg := { N := 19, live := l26, cut := u26, mu := m26, ret := rets }
noncomputable def c26 : Go.Code := Go.Ab.bodyOf Go.Proofs.Try.f26
noncomputable def q26_0 : Nat → (AV → List AObj → Prop) → AQ := fun (n : Nat) (Post : AV → List AObj → Prop) => endQ Try.prog (resultsOf Try.f26) Post
noncomputable def q26_1 : Nat → (AV → List AObj → Prop) → AQ := fun (n : Nat) (Post : AV → List AObj → Prop) => seqQ (fun (s' : Slots) (H' : List AObj) => awp Try.prog g26 n (codeSnd (codeSnd (codeSnd c26))) s' H' (q26_0 n Post)) (q26_0 n Post)
noncomputable def q26_2 : Nat → (AV → List AObj → Prop) → AQ := fun (n : Nat) (Post : AV → List AObj → Prop) => blockQ 0 (q26_1 n Post)
noncomputable def c26_4 : Go.Code := codeFst (codeSnd (codeFst (codeSnd (codeSnd c26))))
theorem s26 : ∀ (l : List T.Dt) (Post : AV → List AObj → Prop),
  condP (decide ((↑(List.length l) : Int) > (60 : Int))) (Post (AV.bool true) [])
      (AWP Try.prog 19 0 c26_4 [(0, AV.sl 6 (Seq.map T.encDt T.noDt l) Tip.none), (3, AV.int IntKind.i64 (0 : Int))] [] (q26_2 0 Post)) →
    ASpec Try.prog 26 [AV.sl 6 (Seq.map T.encDt T.noDt l) Tip.none] [] Post := fun l Post h => Go.Ab.ASpec.of_vc g26 Go.Proofs.Try.func26 (by kernel_rfl) (by kernel_rfl) (by kernel_rfl) (Go.Ab.kc (by kernel_rfl) h)
theorem v26_4 : ∀ (l : List T.Dt) (i : Int) (n : Nat) (Post : AV → List AObj → Prop),
  condP (decide (i < (↑(List.length l) : Int)))
      (needP ((0 : Int) ≤ i ∧ i < (↑(List.length l) : Int))
        (ASpec Try.prog 153
        [AV.agg
        [AV.str { data := List.toArray (Prod.fst (Prod.snd (Prod.snd (Prod.snd (List.getD l (Int.toNat i) T.noDt))))) },
        AV.sl 2 (Seq.map T.encS ((0 : Int), (0 : Int)) (Prod.fst (Prod.snd (Prod.snd (Prod.snd (Prod.snd (List.getD l (Int.toNat i) T.noDt))))))) Tip.none,
        AV.bool (Prod.snd (Prod.snd (Prod.snd (Prod.snd (Prod.snd (List.getD l (Int.toNat i) T.noDt))))))]]
        [] fun (r : AV) (H' : List AObj) =>
        ∃ (x : Bool),
        r = AV.bool x ∧
        H' = [] ∧
        condP x (Post (AV.bool true) [])
        (AWP Try.prog 19 n c26_4 [(0, AV.sl 6 (Seq.map T.encDt T.noDt l) Tip.none), (3, AV.int IntKind.i64 (IntKind.wrap IntKind.i64 (i + (1 : Int))))] []
        (q26_2 n Post))))
      (Post (AV.bool false) []) →
    AWP Try.prog 19 n c26_4 [(0, AV.sl 6 (Seq.map T.encDt T.noDt l) Tip.none), (3, AV.int IntKind.i64 i)] [] (q26_2 n Post) := fun l i n Post h => Go.Ab.AWP.loop' g26 (Cfg.live g26) c26_4 (by kernel_rfl) (by kernel_rfl) (Go.Ab.kc (by kernel_rfl) h)

-- 28
noncomputable def l28 : Nat → List Nat
  | _ => []
noncomputable def u28 : Nat → Bool
  | _ => false
noncomputable def m28 : Nat → Bool
  | _ => false
noncomputable def g28 : Cfg := { N := 3, live := l28, cut := u28, mu := m28, ret := rets }
theorem s28 : ∀ (Post : AV → List AObj → Prop), Post (AV.ptr 0 0) [AObj.cells [AV.sl 0 (Seq.raw []) Tip.nil, AV.sl 0 (Seq.raw []) Tip.nil]] → ASpec Try.prog 28 [] [] Post := fun Post h => Go.Ab.ASpec.of_vc g28 Go.Proofs.Try.func28 (by kernel_rfl) (by kernel_rfl) (by kernel_rfl) (Go.Ab.kc (by kernel_rfl) h)

-- 30
noncomputable def l30 : Nat → List Nat
  | _ => []
noncomputable def u30 : Nat → Bool
  | _ => false
noncomputable def m30 : Nat → Bool
  | _ => false
noncomputable def g30 : Cfg := { N := 10, live := l30, cut := u30, mu := m30, ret := rets }
theorem s30 : ∀ (E : List T.TE) (L : List Int) (Post : AV → List AObj → Prop),
  Post (AV.int IntKind.i64 (↑(List.length L) : Int))
      [AObj.cells [AV.sl 5 (Seq.map T.encTE T.noTE E) (Tip.tok 1), AV.sl 1 (Seq.map encI (0 : Int) L) (Tip.tok 2)], AObj.tok, AObj.tok] →
    ASpec Try.prog 30 [AV.ptr 0 0] (T.HT E L) Post := fun E L Post h => Go.Ab.ASpec.of_vc g30 Go.Proofs.Try.func30 (by kernel_rfl) (by kernel_rfl) (by kernel_rfl) (Go.Ab.kc (by kernel_rfl) h)

-- 80
noncomputable def l80 : Nat → List Nat
  | _ => []
noncomputable def u80 : Nat → Bool
  | _ => false
noncomputable def m80 : Nat → Bool
  | _ => false
noncomputable def g80 : Cfg := { N := 10, live := l80, cut := u80, mu := m80, ret := rets }
theorem s80 : ∀ (E : List T.TE) (L : List Int) (Post : AV → List AObj → Prop),
  Post (AV.int IntKind.i64 (↑(List.length E) : Int))
      [AObj.cells [AV.sl 5 (Seq.map T.encTE T.noTE E) (Tip.tok 1), AV.sl 1 (Seq.map encI (0 : Int) L) (Tip.tok 2)], AObj.tok, AObj.tok] →
    ASpec Try.prog 80 [AV.ptr 0 0] (T.HT E L) Post := fun E L Post h => Go.Ab.ASpec.of_vc g80 Go.Proofs.Try.func80 (by kernel_rfl) (by kernel_rfl) (by kernel_rfl) (Go.Ab.kc (by kernel_rfl) h)

-- 86
noncomputable def l86 : Nat → List Nat
  | 5 => [2, 6, 7, 27, 28, 29]
  | _ => []
noncomputable def u86 : Nat → Bool
  | _ => false
noncomputable def m86 : Nat → Bool
  | _ => false
noncomputable def g86 : Cfg := { N := 44, live := l86, cut := u86, mu := m86, ret := rets }
noncomputable def c86 : Go.Code := Go.Ab.bodyOf Go.Proofs.Try.f86
noncomputable def q86_0 : Nat → (AV → List AObj → Prop) → AQ := fun (n : Nat) (Post : AV → List AObj → Prop) => endQ Try.prog (resultsOf Try.f86) Post
noncomputable def q86_1 : Nat → (AV → List AObj → Prop) → AQ := fun (n : Nat) (Post : AV → List AObj → Prop) => seqQ (fun (s' : Slots) (H' : List AObj) => awp Try.prog g86 n (codeSnd (codeSnd (codeSnd (codeSnd c86)))) s' H' (q86_0 n Post)) (q86_0 n Post)
noncomputable def q86_2 : Nat → (AV → List AObj → Prop) → AQ := fun (n : Nat) (Post : AV → List AObj → Prop) => blockQ 0 (q86_1 n Post)
noncomputable def c86_5 : Go.Code := codeFst (codeSnd (codeFst (codeSnd (codeSnd (codeSnd c86)))))
theorem s86 : ∀ (E : List T.TE) (L : List Int) (n : Int) (s : ByteArray) (Post : AV → List AObj → Prop),
  (ASpec Try.prog 200 [AV.str s]
      [AObj.cells [AV.sl 5 (Seq.map T.encTE T.noTE E) (Tip.tok 1), AV.sl 1 (Seq.map encI (0 : Int) L) (Tip.tok 2)], AObj.tok, AObj.tok,
        AObj.cells [AV.str { data := #[] }, AV.sl 0 (Seq.raw []) Tip.nil, AV.bool false]]
      fun (r : AV) (H' : List AObj) =>
      ∃ (x : List UInt8 × List T.Span × Bool),
        r = AV.agg [AV.str { data := List.toArray (Prod.fst x) }, AV.sl 2 (Seq.map T.encS ((0 : Int), (0 : Int)) (Prod.fst (Prod.snd x))) Tip.none, AV.bool (Prod.snd (Prod.snd x))] ∧
        H' =
        [AObj.cells [AV.sl 5 (Seq.map T.encTE T.noTE E) (Tip.tok 1), AV.sl 1 (Seq.map encI (0 : Int) L) (Tip.tok 2)], AObj.tok, AObj.tok,
        AObj.cells [AV.str { data := #[] }, AV.sl 0 (Seq.raw []) Tip.nil, AV.bool false]] ∧
        needP
        (((0 : Int) ≤
        if (if (↑(List.length E) : Int) < n then (↑(List.length E) : Int) else n) > (0 : Int) then if (↑(List.length E) : Int) < n then (↑(List.length E) : Int) else n else (0 : Int)) ∧
        (if (if (↑(List.length E) : Int) < n then (↑(List.length E) : Int) else n) > (0 : Int) then if (↑(List.length E) : Int) < n then (↑(List.length E) : Int) else n else (0 : Int)) ≤
        (↑(List.length E) : Int))
        (AWP Try.prog 44 3 c86_5
        [(2, AV.str s), (6, AV.ptr 3 0), (7, AV.ptr 4 0),
        (27,
        AV.sl 5
        (Seq.map T.encTE T.noTE
        (List.drop 0
        (List.take
        (Int.toNat
        (if (if (↑(List.length E) : Int) < n then (↑(List.length E) : Int) else n) > (0 : Int) then if (↑(List.length E) : Int) < n then (↑(List.length E) : Int) else n
        else (0 : Int)))
        E)))
        Tip.none),
        (28,
        AV.int IntKind.i64
        (↑(List.length
        (List.drop 0
        (List.take
        (Int.toNat
        (if (if (↑(List.length E) : Int) < n then (↑(List.length E) : Int) else n) > (0 : Int) then if (↑(List.length E) : Int) < n then (↑(List.length E) : Int) else n
        else (0 : Int)))
        E))) :
        Int)),
        (29, AV.int IntKind.i64 (0 : Int))]
        [AObj.cells [AV.sl 5 (Seq.map T.encTE T.noTE E) (Tip.tok 1), AV.sl 1 (Seq.map encI (0 : Int) L) (Tip.tok 2)], AObj.tok, AObj.tok,
        AObj.cells [AV.str { data := #[] }, AV.sl 0 (Seq.raw []) Tip.nil, AV.bool false],
        AObj.cells [AV.str { data := List.toArray (Prod.fst x) }, AV.sl 2 (Seq.map T.encS ((0 : Int), (0 : Int)) (Prod.fst (Prod.snd x))) Tip.none, AV.bool (Prod.snd (Prod.snd x))]]
        (q86_2 3 Post))) →
    ASpec Try.prog 86 [AV.ptr 0 0, AV.int IntKind.i64 n, AV.str s] (T.HT E L) Post := fun E L n s Post h => Go.Ab.ASpec.of_vc g86 Go.Proofs.Try.func86 (by kernel_rfl) (by kernel_rfl) (by kernel_rfl) (Go.Ab.kc (by kernel_rfl) h)
theorem v86_5 : ∀ (E : List T.TE) (L : List Int) (s : ByteArray) (o : T.Term) (l : List T.TE) (n i : Int) (n_1 : Nat) (Post : AV → List AObj → Prop),
  condP (decide (i < n))
      (needP ((0 : Int) ≤ i ∧ i < (↑(List.length l) : Int))
        (condP (ByteArray.toList { data := List.toArray (Prod.fst (Prod.fst (List.getD l (Int.toNat i) T.noTE))) } == ByteArray.toList s)
        (ASpec Try.prog 160
        [AV.agg [AV.str { data := List.toArray (Prod.fst o) }, AV.sl 2 (Seq.map T.encS ((0 : Int), (0 : Int)) (Prod.fst (Prod.snd o))) Tip.none, AV.bool (Prod.snd (Prod.snd o))],
        AV.agg
        [AV.str { data := List.toArray (Prod.fst (Prod.fst (List.getD l (Int.toNat i) T.noTE))) },
        AV.sl 2 (Seq.map T.encS ((0 : Int), (0 : Int)) (Prod.fst (Prod.snd (Prod.fst (List.getD l (Int.toNat i) T.noTE))))) Tip.none,
        AV.bool (Prod.snd (Prod.snd (Prod.fst (List.getD l (Int.toNat i) T.noTE))))]]
        [AObj.cells [AV.sl 5 (Seq.map T.encTE T.noTE E) (Tip.tok 1), AV.sl 1 (Seq.map encI (0 : Int) L) (Tip.tok 2)], AObj.tok, AObj.tok,
        AObj.cells [AV.str { data := #[] }, AV.sl 0 (Seq.raw []) Tip.nil, AV.bool false],
        AObj.cells [AV.str { data := List.toArray (Prod.fst o) }, AV.sl 2 (Seq.map T.encS ((0 : Int), (0 : Int)) (Prod.fst (Prod.snd o))) Tip.none, AV.bool (Prod.snd (Prod.snd o))],
        AObj.cells
        [AV.str { data := List.toArray (Prod.fst (Prod.fst (List.getD l (Int.toNat i) T.noTE))) },
        AV.sl 2 (Seq.map T.encS ((0 : Int), (0 : Int)) (Prod.fst (Prod.snd (Prod.fst (List.getD l (Int.toNat i) T.noTE))))) Tip.none,
        AV.bool (Prod.snd (Prod.snd (Prod.fst (List.getD l (Int.toNat i) T.noTE)))), AV.int IntKind.i64 (Prod.fst (Prod.snd (List.getD l (Int.toNat i) T.noTE))),
        AV.int IntKind.i64 (Prod.snd (Prod.snd (List.getD l (Int.toNat i) T.noTE)))]]
        fun (r : AV) (H' : List AObj) =>
        ∃ (x : List UInt8 × List T.Span × Bool),
        r = AV.agg [AV.str { data := List.toArray (Prod.fst x) }, AV.sl 2 (Seq.map T.encS ((0 : Int), (0 : Int)) (Prod.fst (Prod.snd x))) Tip.none, AV.bool (Prod.snd (Prod.snd x))] ∧
        H' =
        [AObj.cells [AV.sl 5 (Seq.map T.encTE T.noTE E) (Tip.tok 1), AV.sl 1 (Seq.map encI (0 : Int) L) (Tip.tok 2)], AObj.tok, AObj.tok,
        AObj.cells [AV.str { data := #[] }, AV.sl 0 (Seq.raw []) Tip.nil, AV.bool false],
        AObj.cells
        [AV.str { data := List.toArray (Prod.fst o) }, AV.sl 2 (Seq.map T.encS ((0 : Int), (0 : Int)) (Prod.fst (Prod.snd o))) Tip.none, AV.bool (Prod.snd (Prod.snd o))],
        AObj.cells
        [AV.str { data := List.toArray (Prod.fst (Prod.fst (List.getD l (Int.toNat i) T.noTE))) },
        AV.sl 2 (Seq.map T.encS ((0 : Int), (0 : Int)) (Prod.fst (Prod.snd (Prod.fst (List.getD l (Int.toNat i) T.noTE))))) Tip.none,
        AV.bool (Prod.snd (Prod.snd (Prod.fst (List.getD l (Int.toNat i) T.noTE)))), AV.int IntKind.i64 (Prod.fst (Prod.snd (List.getD l (Int.toNat i) T.noTE))),
        AV.int IntKind.i64 (Prod.snd (Prod.snd (List.getD l (Int.toNat i) T.noTE)))]] ∧
        AWP Try.prog 44 n_1 c86_5
        [(2, AV.str s), (6, AV.ptr 3 0), (7, AV.ptr 4 0), (27, AV.sl 5 (Seq.map T.encTE T.noTE l) Tip.none),
        (28, AV.int IntKind.i64 n), (29, AV.int IntKind.i64 (IntKind.wrap IntKind.i64 (i + (1 : Int))))]
        [AObj.cells [AV.sl 5 (Seq.map T.encTE T.noTE E) (Tip.tok 1), AV.sl 1 (Seq.map encI (0 : Int) L) (Tip.tok 2)], AObj.tok, AObj.tok,
        AObj.cells [AV.str { data := #[] }, AV.sl 0 (Seq.raw []) Tip.nil, AV.bool false],
        AObj.cells
        [AV.str { data := List.toArray (Prod.fst x) }, AV.sl 2 (Seq.map T.encS ((0 : Int), (0 : Int)) (Prod.fst (Prod.snd x))) Tip.none, AV.bool (Prod.snd (Prod.snd x))],
        AObj.cells
        [AV.str { data := List.toArray (Prod.fst (Prod.fst (List.getD l (Int.toNat i) T.noTE))) },
        AV.sl 2 (Seq.map T.encS ((0 : Int), (0 : Int)) (Prod.fst (Prod.snd (Prod.fst (List.getD l (Int.toNat i) T.noTE))))) Tip.none,
        AV.bool (Prod.snd (Prod.snd (Prod.fst (List.getD l (Int.toNat i) T.noTE)))), AV.int IntKind.i64 (Prod.fst (Prod.snd (List.getD l (Int.toNat i) T.noTE))),
        AV.int IntKind.i64 (Prod.snd (Prod.snd (List.getD l (Int.toNat i) T.noTE)))]]
        (q86_2 n_1 Post))
        (AWP Try.prog 44 n_1 c86_5
        [(2, AV.str s), (6, AV.ptr 3 0), (7, AV.ptr 4 0), (27, AV.sl 5 (Seq.map T.encTE T.noTE l) Tip.none),
        (28, AV.int IntKind.i64 n), (29, AV.int IntKind.i64 (IntKind.wrap IntKind.i64 (i + (1 : Int))))]
        [AObj.cells [AV.sl 5 (Seq.map T.encTE T.noTE E) (Tip.tok 1), AV.sl 1 (Seq.map encI (0 : Int) L) (Tip.tok 2)], AObj.tok, AObj.tok,
        AObj.cells [AV.str { data := #[] }, AV.sl 0 (Seq.raw []) Tip.nil, AV.bool false],
        AObj.cells [AV.str { data := List.toArray (Prod.fst o) }, AV.sl 2 (Seq.map T.encS ((0 : Int), (0 : Int)) (Prod.fst (Prod.snd o))) Tip.none, AV.bool (Prod.snd (Prod.snd o))],
        AObj.cells
        [AV.str { data := List.toArray (Prod.fst (Prod.fst (List.getD l (Int.toNat i) T.noTE))) },
        AV.sl 2 (Seq.map T.encS ((0 : Int), (0 : Int)) (Prod.fst (Prod.snd (Prod.fst (List.getD l (Int.toNat i) T.noTE))))) Tip.none,
        AV.bool (Prod.snd (Prod.snd (Prod.fst (List.getD l (Int.toNat i) T.noTE)))), AV.int IntKind.i64 (Prod.fst (Prod.snd (List.getD l (Int.toNat i) T.noTE))),
        AV.int IntKind.i64 (Prod.snd (Prod.snd (List.getD l (Int.toNat i) T.noTE)))]]
        (q86_2 n_1 Post))))
      (Post (AV.agg [AV.str { data := List.toArray (Prod.fst o) }, AV.sl 2 (Seq.map T.encS ((0 : Int), (0 : Int)) (Prod.fst (Prod.snd o))) Tip.none, AV.bool (Prod.snd (Prod.snd o))])
        [AObj.cells [AV.sl 5 (Seq.map T.encTE T.noTE E) (Tip.tok 1), AV.sl 1 (Seq.map encI (0 : Int) L) (Tip.tok 2)], AObj.tok, AObj.tok,
        AObj.cells [AV.str { data := List.toArray (Prod.fst o) }, AV.sl 2 (Seq.map T.encS ((0 : Int), (0 : Int)) (Prod.fst (Prod.snd o))) Tip.none, AV.bool (Prod.snd (Prod.snd o))],
        AObj.cells [AV.str { data := List.toArray (Prod.fst o) }, AV.sl 2 (Seq.map T.encS ((0 : Int), (0 : Int)) (Prod.fst (Prod.snd o))) Tip.none, AV.bool (Prod.snd (Prod.snd o))]]) →
    AWP Try.prog 44 n_1 c86_5
      [(2, AV.str s), (6, AV.ptr 3 0), (7, AV.ptr 4 0), (27, AV.sl 5 (Seq.map T.encTE T.noTE l) Tip.none),
        (28, AV.int IntKind.i64 n), (29, AV.int IntKind.i64 i)]
      (T.HT E L ++ [AObj.cells [AV.str { data := #[] }, AV.sl 0 (Seq.raw []) Tip.nil, AV.bool false], AObj.cells (T.encT o)]) (q86_2 n_1 Post) := fun E L s o l n i n Post h => Go.Ab.AWP.loop' g86 (Cfg.live g86) c86_5 (by kernel_rfl) (by kernel_rfl) (Go.Ab.kc (by kernel_rfl) h)

-- 29
noncomputable def l29 : Nat → List Nat
  | _ => []
noncomputable def u29 : Nat → Bool
  | _ => false
noncomputable def m29 : Nat → Bool
  | _ => false
noncomputable def g29 : Cfg := { N := 10, live := l29, cut := u29, mu := m29, ret := rets }
theorem s29 : ∀ (E : List T.TE) (L : List Int) (s : ByteArray) (Post : AV → List AObj → Prop),
  (ASpec Try.prog 80 [AV.ptr 0 0]
      [AObj.cells [AV.sl 5 (Seq.map T.encTE T.noTE E) (Tip.tok 1), AV.sl 1 (Seq.map encI (0 : Int) L) (Tip.tok 2)], AObj.tok, AObj.tok,
        AObj.cells [AV.str { data := #[] }, AV.sl 0 (Seq.raw []) Tip.nil, AV.bool false]]
      fun (r : AV) (H' : List AObj) =>
      ∃ (x : Int),
        r = AV.int IntKind.i64 x ∧
        H' =
        [AObj.cells [AV.sl 5 (Seq.map T.encTE T.noTE E) (Tip.tok 1), AV.sl 1 (Seq.map encI (0 : Int) L) (Tip.tok 2)], AObj.tok, AObj.tok,
        AObj.cells [AV.str { data := #[] }, AV.sl 0 (Seq.raw []) Tip.nil, AV.bool false]] ∧
        ASpec Try.prog 86 [AV.ptr 0 0, AV.int IntKind.i64 x, AV.str s]
        [AObj.cells [AV.sl 5 (Seq.map T.encTE T.noTE E) (Tip.tok 1), AV.sl 1 (Seq.map encI (0 : Int) L) (Tip.tok 2)], AObj.tok, AObj.tok,
        AObj.cells [AV.str { data := #[] }, AV.sl 0 (Seq.raw []) Tip.nil, AV.bool false]]
        fun (r : AV) (H' : List AObj) =>
        ∃ (x : List UInt8 × List T.Span × Bool),
        r = AV.agg [AV.str { data := List.toArray (Prod.fst x) }, AV.sl 2 (Seq.map T.encS ((0 : Int), (0 : Int)) (Prod.fst (Prod.snd x))) Tip.none, AV.bool (Prod.snd (Prod.snd x))] ∧
        H' =
        [AObj.cells [AV.sl 5 (Seq.map T.encTE T.noTE E) (Tip.tok 1), AV.sl 1 (Seq.map encI (0 : Int) L) (Tip.tok 2)], AObj.tok, AObj.tok,
        AObj.cells [AV.str { data := #[] }, AV.sl 0 (Seq.raw []) Tip.nil, AV.bool false]] ∧
        Post
        (AV.agg [AV.str { data := List.toArray (Prod.fst x) }, AV.sl 2 (Seq.map T.encS ((0 : Int), (0 : Int)) (Prod.fst (Prod.snd x))) Tip.none, AV.bool (Prod.snd (Prod.snd x))])
        [AObj.cells [AV.sl 5 (Seq.map T.encTE T.noTE E) (Tip.tok 1), AV.sl 1 (Seq.map encI (0 : Int) L) (Tip.tok 2)], AObj.tok, AObj.tok,
        AObj.cells
        [AV.str { data := List.toArray (Prod.fst x) }, AV.sl 2 (Seq.map T.encS ((0 : Int), (0 : Int)) (Prod.fst (Prod.snd x))) Tip.none, AV.bool (Prod.snd (Prod.snd x))]]) →
    ASpec Try.prog 29 [AV.ptr 0 0, AV.str s] (T.HT E L) Post := fun E L s Post h => Go.Ab.ASpec.of_vc g29 Go.Proofs.Try.func29 (by kernel_rfl) (by kernel_rfl) (by kernel_rfl) (Go.Ab.kc (by kernel_rfl) h)

-- 156
noncomputable def l156 : Nat → List Nat
  | _ => []
noncomputable def u156 : Nat → Bool
  | _ => false
noncomputable def m156 : Nat → Bool
  | _ => false
noncomputable def g156 : Cfg := { N := 24, live := l156, cut := u156, mu := m156, ret := rets }
theorem s156 : ∀ (E : List T.TE) (L : List Int) (t : T.Term) (c : Int) (Post : AV → List AObj → Prop),
  (ASpec Try.prog 255 [AV.sl 2 (Seq.map T.encS ((0 : Int), (0 : Int)) (Prod.fst (Prod.snd t))) Tip.none]
      [AObj.cells [AV.sl 5 (Seq.map T.encTE T.noTE E) (Tip.tok 1), AV.sl 1 (Seq.map encI (0 : Int) L) (Tip.tok 2)], AObj.tok, AObj.tok,
        AObj.cells [AV.str { data := List.toArray (Prod.fst t) }, AV.sl 2 (Seq.map T.encS ((0 : Int), (0 : Int)) (Prod.fst (Prod.snd t))) Tip.none, AV.bool (Prod.snd (Prod.snd t))]]
      fun (r : AV) (H' : List AObj) =>
      ∃ (x : List T.Span),
        r = AV.sl 2 (Seq.map T.encS ((0 : Int), (0 : Int)) x) Tip.none ∧
        H' =
        [AObj.cells [AV.sl 5 (Seq.map T.encTE T.noTE E) (Tip.tok 1), AV.sl 1 (Seq.map encI (0 : Int) L) (Tip.tok 2)], AObj.tok, AObj.tok,
        AObj.cells [AV.str { data := List.toArray (Prod.fst t) }, AV.sl 2 (Seq.map T.encS ((0 : Int), (0 : Int)) (Prod.fst (Prod.snd t))) Tip.none, AV.bool (Prod.snd (Prod.snd t))]] ∧
        ASpec Try.prog 30 [AV.ptr 0 0]
        [AObj.cells [AV.sl 5 (Seq.map T.encTE T.noTE E) (Tip.tok 1), AV.sl 1 (Seq.map encI (0 : Int) L) (Tip.tok 2)], AObj.tok, AObj.tok,
        AObj.cells [AV.str { data := List.toArray (Prod.fst t) }, AV.sl 2 (Seq.map T.encS ((0 : Int), (0 : Int)) x) Tip.none, AV.bool (Prod.snd (Prod.snd t))]]
        fun (r : AV) (H' : List AObj) =>
        ∃ (x_1 : Int),
        r = AV.int IntKind.i64 x_1 ∧
        H' =
        [AObj.cells [AV.sl 5 (Seq.map T.encTE T.noTE E) (Tip.tok 1), AV.sl 1 (Seq.map encI (0 : Int) L) (Tip.tok 2)], AObj.tok, AObj.tok,
        AObj.cells [AV.str { data := List.toArray (Prod.fst t) }, AV.sl 2 (Seq.map T.encS ((0 : Int), (0 : Int)) x) Tip.none, AV.bool (Prod.snd (Prod.snd t))]] ∧
        (AV.agg [AV.str { data := List.toArray (Prod.fst t) }, AV.sl 2 (Seq.map T.encS ((0 : Int), (0 : Int)) x) Tip.none, AV.bool (Prod.snd (Prod.snd t))] =
        AV.agg [AV.str { data := List.toArray (Prod.fst t) }, AV.sl 2 (Seq.map T.encS ((0 : Int), (0 : Int)) x) Tip.none, AV.bool (Prod.snd (Prod.snd t))] ∧
        [AObj.cells [AV.sl 5 (Seq.map T.encTE T.noTE E) (Tip.tok 1), AV.sl 1 (Seq.map encI (0 : Int) L) (Tip.tok 2)], AObj.tok, AObj.tok,
        AObj.cells [AV.str { data := List.toArray (Prod.fst t) }, AV.sl 2 (Seq.map T.encS ((0 : Int), (0 : Int)) x) Tip.none, AV.bool (Prod.snd (Prod.snd t))]] =
        [AObj.cells [AV.sl 5 (Seq.map T.encTE T.noTE E) (Tip.tok 1), AV.sl 1 (Seq.map encI (0 : Int) L) (Tip.tok 2)], AObj.tok, AObj.tok,
        AObj.cells [AV.str { data := List.toArray (Prod.fst t) }, AV.sl 2 (Seq.map T.encS ((0 : Int), (0 : Int)) x) Tip.none, AV.bool (Prod.snd (Prod.snd t))]]) ∧
        (AV.sl 5 (Seq.map T.encTE T.noTE E) (Tip.tok 1) = AV.sl 5 (Seq.map T.encTE T.noTE E) (Tip.tok 1) ∧
        [AObj.cells [AV.sl 5 (Seq.map T.encTE T.noTE E) (Tip.tok 1), AV.sl 1 (Seq.map encI (0 : Int) L) (Tip.tok 2)], AObj.tok, AObj.tok,
        AObj.cells [AV.str { data := List.toArray (Prod.fst t) }, AV.sl 2 (Seq.map T.encS ((0 : Int), (0 : Int)) x) Tip.none, AV.bool (Prod.snd (Prod.snd t))]] =
        [AObj.cells [AV.sl 5 (Seq.map T.encTE T.noTE E) (Tip.tok 1), AV.sl 1 (Seq.map encI (0 : Int) L) (Tip.tok 2)], AObj.tok, AObj.tok,
        AObj.cells [AV.str { data := List.toArray (Prod.fst t) }, AV.sl 2 (Seq.map T.encS ((0 : Int), (0 : Int)) x) Tip.none, AV.bool (Prod.snd (Prod.snd t))]]) ∧
        needP ((List.length E + 1) * 64 ≤ 140737488351232)
        (Post (AV.tup [])
        [AObj.cells
        [AV.sl 5
        (Seq.app (Seq.map T.encTE T.noTE E)
        (Seq.raw
        [[AV.str { data := List.toArray (Prod.fst t) }, AV.sl 2 (Seq.map T.encS ((0 : Int), (0 : Int)) x) Tip.none, AV.bool (Prod.snd (Prod.snd t)),
        AV.int IntKind.i64 x_1, AV.int IntKind.i64 c]]))
        (Tip.tok 4),
        AV.sl 1 (Seq.map encI (0 : Int) L) (Tip.tok 2)],
        AObj.gone, AObj.tok,
        AObj.cells [AV.str { data := List.toArray (Prod.fst t) }, AV.sl 2 (Seq.map T.encS ((0 : Int), (0 : Int)) x) Tip.none, AV.bool (Prod.snd (Prod.snd t))],
        AObj.tok])) →
    ASpec Try.prog 156 [AV.ptr 0 0, AV.agg (T.encT t), AV.int IntKind.i64 c] (T.HT E L) Post := fun E L t c Post h => Go.Ab.ASpec.of_vc g156 Go.Proofs.Try.func156 (by kernel_rfl) (by kernel_rfl) (by kernel_rfl) (Go.Ab.kc (by kernel_rfl) h)

-- 31
noncomputable def l31 : Nat → List Nat
  | _ => []
noncomputable def u31 : Nat → Bool
  | _ => false
noncomputable def m31 : Nat → Bool
  | _ => false
noncomputable def g31 : Cfg := { N := 50, live := l31, cut := u31, mu := m31, ret := rets }
theorem s31 : ∀ (E : List T.TE) (L : List Int) (s : ByteArray) (v : Int) (Post : AV → List AObj → Prop),
  (ASpec Try.prog 154 [AV.str s]
      [AObj.cells [AV.sl 5 (Seq.map T.encTE T.noTE E) (Tip.tok 1), AV.sl 1 (Seq.map encI (0 : Int) L) (Tip.tok 2)], AObj.tok, AObj.tok] fun (r : AV) (H' : List AObj) =>
      ∃ (x : Bool),
        r = AV.bool x ∧
        H' = [AObj.cells [AV.sl 5 (Seq.map T.encTE T.noTE E) (Tip.tok 1), AV.sl 1 (Seq.map encI (0 : Int) L) (Tip.tok 2)], AObj.tok, AObj.tok] ∧
        condP (!x)
        (Post (AV.int IntKind.i64 (1 : Int))
        [AObj.cells [AV.sl 5 (Seq.map T.encTE T.noTE E) (Tip.tok 1), AV.sl 1 (Seq.map encI (0 : Int) L) (Tip.tok 2)], AObj.tok, AObj.tok])
        (condP (decide (v < (0 : Int)))
        (Post (AV.int IntKind.i64 (1 : Int))
        [AObj.cells [AV.sl 5 (Seq.map T.encTE T.noTE E) (Tip.tok 1), AV.sl 1 (Seq.map encI (0 : Int) L) (Tip.tok 2)], AObj.tok, AObj.tok])
        (condP (decide (v ≥ (1000000000 : Int)))
        (Post (AV.int IntKind.i64 (1 : Int))
        [AObj.cells [AV.sl 5 (Seq.map T.encTE T.noTE E) (Tip.tok 1), AV.sl 1 (Seq.map encI (0 : Int) L) (Tip.tok 2)], AObj.tok, AObj.tok])
        (ASpec Try.prog 29 [AV.ptr 0 0, AV.str s]
        [AObj.cells [AV.sl 5 (Seq.map T.encTE T.noTE E) (Tip.tok 1), AV.sl 1 (Seq.map encI (0 : Int) L) (Tip.tok 2)], AObj.tok, AObj.tok]
        fun (r : AV) (H' : List AObj) =>
        ∃ (x : List UInt8 × List T.Span × Bool),
        r =
        AV.agg
        [AV.str { data := List.toArray (Prod.fst x) }, AV.sl 2 (Seq.map T.encS ((0 : Int), (0 : Int)) (Prod.fst (Prod.snd x))) Tip.none, AV.bool (Prod.snd (Prod.snd x))] ∧
        H' = [AObj.cells [AV.sl 5 (Seq.map T.encTE T.noTE E) (Tip.tok 1), AV.sl 1 (Seq.map encI (0 : Int) L) (Tip.tok 2)], AObj.tok, AObj.tok] ∧
        ASpec Try.prog 155
        [AV.agg
        [AV.str { data := List.toArray (Prod.fst x) }, AV.sl 2 (Seq.map T.encS ((0 : Int), (0 : Int)) (Prod.fst (Prod.snd x))) Tip.none,
        AV.bool (Prod.snd (Prod.snd x))],
        AV.int IntKind.i64 v, AV.bool true]
        [AObj.cells [AV.sl 5 (Seq.map T.encTE T.noTE E) (Tip.tok 1), AV.sl 1 (Seq.map encI (0 : Int) L) (Tip.tok 2)], AObj.tok, AObj.tok]
        fun (r : AV) (H' : List AObj) =>
        ∃ (x : Bool),
        r = AV.bool x ∧
        H' = [AObj.cells [AV.sl 5 (Seq.map T.encTE T.noTE E) (Tip.tok 1), AV.sl 1 (Seq.map encI (0 : Int) L) (Tip.tok 2)], AObj.tok, AObj.tok] ∧
        condP (!x)
        (Post (AV.int IntKind.i64 (5 : Int))
        [AObj.cells [AV.sl 5 (Seq.map T.encTE T.noTE E) (Tip.tok 1), AV.sl 1 (Seq.map encI (0 : Int) L) (Tip.tok 2)], AObj.tok, AObj.tok])
        (needP ((List.length L + 1) * 8 ≤ 140737488351232)
        (ASpec Try.prog 157 [AV.int IntKind.i64 v]
        [AObj.cells
        [AV.sl 5 (Seq.map T.encTE T.noTE E) (Tip.tok 1),
        AV.sl 1 (Seq.app (Seq.map encI (0 : Int) L) (Seq.raw [[AV.int IntKind.i64 (↑(List.length E) : Int)]])) (Tip.tok 3)],
        AObj.tok, AObj.gone, AObj.tok]
        fun (r : AV) (H' : List AObj) =>
        ∃ (x : List T.Span),
        r = AV.sl 2 (Seq.map T.encS ((0 : Int), (0 : Int)) x) Tip.none ∧
        H' =
        [AObj.cells
        [AV.sl 5 (Seq.map T.encTE T.noTE E) (Tip.tok 1),
        AV.sl 1 (Seq.app (Seq.map encI (0 : Int) L) (Seq.raw [[AV.int IntKind.i64 (↑(List.length E) : Int)]])) (Tip.tok 3)],
        AObj.tok, AObj.gone, AObj.tok] ∧
        ASpec Try.prog 156
        [AV.ptr 0 0, AV.agg [AV.str s, AV.sl 2 (Seq.map T.encS ((0 : Int), (0 : Int)) x) Tip.none, AV.bool false],
        AV.int IntKind.i64 (-1 : Int)]
        [AObj.cells
        [AV.sl 5 (Seq.map T.encTE T.noTE E) (Tip.tok 1),
        AV.sl 1 (Seq.app (Seq.map encI (0 : Int) L) (Seq.raw [[AV.int IntKind.i64 (↑(List.length E) : Int)]])) (Tip.tok 3)],
        AObj.tok, AObj.gone, AObj.tok]
        fun (r : AV) (H' : List AObj) =>
        ∃ (x : List T.TE × List Int),
        r = AV.tup [] ∧
        H' =
        [AObj.cells
        [AV.sl 5 (Seq.map T.encTE T.noTE (Prod.fst x)) (Tip.tok 4),
        AV.sl 1 (Seq.map encI (0 : Int) (Prod.snd x)) (Tip.tok 5)],
        AObj.gone, AObj.gone, AObj.gone, AObj.tok, AObj.tok] ∧
        Post (AV.int IntKind.i64 (0 : Int))
        [AObj.cells
        [AV.sl 5 (Seq.map T.encTE T.noTE (Prod.fst x)) (Tip.tok 4),
        AV.sl 1 (Seq.map encI (0 : Int) (Prod.snd x)) (Tip.tok 5)],
        AObj.gone, AObj.gone, AObj.gone, AObj.tok, AObj.tok])))))) →
    ASpec Try.prog 31 [AV.ptr 0 0, AV.str s, AV.int IntKind.i64 v] (T.HT E L) Post := fun E L s v Post h => Go.Ab.ASpec.of_vc g31 Go.Proofs.Try.func31 (by kernel_rfl) (by kernel_rfl) (by kernel_rfl) (Go.Ab.kc (by kernel_rfl) h)

-- 32
noncomputable def l32 : Nat → List Nat
  | _ => []
noncomputable def u32 : Nat → Bool
  | _ => false
noncomputable def m32 : Nat → Bool
  | _ => false
noncomputable def g32 : Cfg := { N := 36, live := l32, cut := u32, mu := m32, ret := rets }
theorem s32 : ∀ (E : List T.TE) (L : List Int) (t : T.Term) (c : Int) (Post : AV → List AObj → Prop),
  (ASpec Try.prog 158
      [AV.agg [AV.str { data := List.toArray (Prod.fst t) }, AV.sl 2 (Seq.map T.encS ((0 : Int), (0 : Int)) (Prod.fst (Prod.snd t))) Tip.none, AV.bool (Prod.snd (Prod.snd t))]]
      [AObj.cells [AV.sl 5 (Seq.map T.encTE T.noTE E) (Tip.tok 1), AV.sl 1 (Seq.map encI (0 : Int) L) (Tip.tok 2)], AObj.tok, AObj.tok,
        AObj.cells [AV.str { data := List.toArray (Prod.fst t) }, AV.sl 2 (Seq.map T.encS ((0 : Int), (0 : Int)) (Prod.fst (Prod.snd t))) Tip.none, AV.bool (Prod.snd (Prod.snd t))]]
      fun (r : AV) (H' : List AObj) =>
      ∃ (x : Bool),
        r = AV.bool x ∧
        H' =
        [AObj.cells [AV.sl 5 (Seq.map T.encTE T.noTE E) (Tip.tok 1), AV.sl 1 (Seq.map encI (0 : Int) L) (Tip.tok 2)], AObj.tok, AObj.tok,
        AObj.cells [AV.str { data := List.toArray (Prod.fst t) }, AV.sl 2 (Seq.map T.encS ((0 : Int), (0 : Int)) (Prod.fst (Prod.snd t))) Tip.none, AV.bool (Prod.snd (Prod.snd t))]] ∧
        condP (!x)
        (Post (AV.int IntKind.i64 (1 : Int))
        [AObj.cells [AV.sl 5 (Seq.map T.encTE T.noTE E) (Tip.tok 1), AV.sl 1 (Seq.map encI (0 : Int) L) (Tip.tok 2)], AObj.tok, AObj.tok,
        AObj.cells [AV.str { data := List.toArray (Prod.fst t) }, AV.sl 2 (Seq.map T.encS ((0 : Int), (0 : Int)) (Prod.fst (Prod.snd t))) Tip.none, AV.bool (Prod.snd (Prod.snd t))]])
        (condP (decide (c < (0 : Int)))
        (Post (AV.int IntKind.i64 (1 : Int))
        [AObj.cells [AV.sl 5 (Seq.map T.encTE T.noTE E) (Tip.tok 1), AV.sl 1 (Seq.map encI (0 : Int) L) (Tip.tok 2)], AObj.tok, AObj.tok,
        AObj.cells
        [AV.str { data := List.toArray (Prod.fst t) }, AV.sl 2 (Seq.map T.encS ((0 : Int), (0 : Int)) (Prod.fst (Prod.snd t))) Tip.none, AV.bool (Prod.snd (Prod.snd t))]])
        (ASpec Try.prog 29 [AV.ptr 0 0, AV.str { data := List.toArray (Prod.fst t) }]
        [AObj.cells [AV.sl 5 (Seq.map T.encTE T.noTE E) (Tip.tok 1), AV.sl 1 (Seq.map encI (0 : Int) L) (Tip.tok 2)], AObj.tok, AObj.tok,
        AObj.cells
        [AV.str { data := List.toArray (Prod.fst t) }, AV.sl 2 (Seq.map T.encS ((0 : Int), (0 : Int)) (Prod.fst (Prod.snd t))) Tip.none, AV.bool (Prod.snd (Prod.snd t))]]
        fun (r : AV) (H' : List AObj) =>
        ∃ (x : List UInt8 × List T.Span × Bool),
        r =
        AV.agg
        [AV.str { data := List.toArray (Prod.fst x) }, AV.sl 2 (Seq.map T.encS ((0 : Int), (0 : Int)) (Prod.fst (Prod.snd x))) Tip.none, AV.bool (Prod.snd (Prod.snd x))] ∧
        H' =
        [AObj.cells [AV.sl 5 (Seq.map T.encTE T.noTE E) (Tip.tok 1), AV.sl 1 (Seq.map encI (0 : Int) L) (Tip.tok 2)], AObj.tok, AObj.tok,
        AObj.cells
        [AV.str { data := List.toArray (Prod.fst t) }, AV.sl 2 (Seq.map T.encS ((0 : Int), (0 : Int)) (Prod.fst (Prod.snd t))) Tip.none,
        AV.bool (Prod.snd (Prod.snd t))]] ∧
        ASpec Try.prog 160
        [AV.agg
        [AV.str { data := List.toArray (Prod.fst x) }, AV.sl 2 (Seq.map T.encS ((0 : Int), (0 : Int)) (Prod.fst (Prod.snd x))) Tip.none, AV.bool (Prod.snd (Prod.snd x))],
        AV.agg
        [AV.str { data := List.toArray (Prod.fst t) }, AV.sl 2 (Seq.map T.encS ((0 : Int), (0 : Int)) (Prod.fst (Prod.snd t))) Tip.none, AV.bool (Prod.snd (Prod.snd t))]]
        [AObj.cells [AV.sl 5 (Seq.map T.encTE T.noTE E) (Tip.tok 1), AV.sl 1 (Seq.map encI (0 : Int) L) (Tip.tok 2)], AObj.tok, AObj.tok,
        AObj.cells
        [AV.str { data := List.toArray (Prod.fst t) }, AV.sl 2 (Seq.map T.encS ((0 : Int), (0 : Int)) (Prod.fst (Prod.snd t))) Tip.none, AV.bool (Prod.snd (Prod.snd t))],
        AObj.cells
        [AV.str { data := List.toArray (Prod.fst x) }, AV.sl 2 (Seq.map T.encS ((0 : Int), (0 : Int)) (Prod.fst (Prod.snd x))) Tip.none, AV.bool (Prod.snd (Prod.snd x))]]
        fun (r : AV) (H' : List AObj) =>
        ∃ (x_1 : List UInt8 × List T.Span × Bool),
        r =
        AV.agg
        [AV.str { data := List.toArray (Prod.fst x_1) }, AV.sl 2 (Seq.map T.encS ((0 : Int), (0 : Int)) (Prod.fst (Prod.snd x_1))) Tip.none,
        AV.bool (Prod.snd (Prod.snd x_1))] ∧
        H' =
        [AObj.cells [AV.sl 5 (Seq.map T.encTE T.noTE E) (Tip.tok 1), AV.sl 1 (Seq.map encI (0 : Int) L) (Tip.tok 2)], AObj.tok, AObj.tok,
        AObj.cells
        [AV.str { data := List.toArray (Prod.fst t) }, AV.sl 2 (Seq.map T.encS ((0 : Int), (0 : Int)) (Prod.fst (Prod.snd t))) Tip.none,
        AV.bool (Prod.snd (Prod.snd t))],
        AObj.cells
        [AV.str { data := List.toArray (Prod.fst x) }, AV.sl 2 (Seq.map T.encS ((0 : Int), (0 : Int)) (Prod.fst (Prod.snd x))) Tip.none,
        AV.bool (Prod.snd (Prod.snd x))]] ∧
        ASpec Try.prog 159
        [AV.agg
        [AV.str { data := List.toArray (Prod.fst x_1) }, AV.sl 2 (Seq.map T.encS ((0 : Int), (0 : Int)) (Prod.fst (Prod.snd x_1))) Tip.none,
        AV.bool (Prod.snd (Prod.snd x_1))]]
        [AObj.cells [AV.sl 5 (Seq.map T.encTE T.noTE E) (Tip.tok 1), AV.sl 1 (Seq.map encI (0 : Int) L) (Tip.tok 2)], AObj.tok, AObj.tok,
        AObj.cells
        [AV.str { data := List.toArray (Prod.fst t) }, AV.sl 2 (Seq.map T.encS ((0 : Int), (0 : Int)) (Prod.fst (Prod.snd t))) Tip.none,
        AV.bool (Prod.snd (Prod.snd t))],
        AObj.cells
        [AV.str { data := List.toArray (Prod.fst x) }, AV.sl 2 (Seq.map T.encS ((0 : Int), (0 : Int)) (Prod.fst (Prod.snd x))) Tip.none,
        AV.bool (Prod.snd (Prod.snd x))]]
        fun (r : AV) (H' : List AObj) =>
        ∃ (x_2 : Bool),
        r = AV.bool x_2 ∧
        H' =
        [AObj.cells [AV.sl 5 (Seq.map T.encTE T.noTE E) (Tip.tok 1), AV.sl 1 (Seq.map encI (0 : Int) L) (Tip.tok 2)], AObj.tok,
        AObj.tok,
        AObj.cells
        [AV.str { data := List.toArray (Prod.fst t) }, AV.sl 2 (Seq.map T.encS ((0 : Int), (0 : Int)) (Prod.fst (Prod.snd t))) Tip.none,
        AV.bool (Prod.snd (Prod.snd t))],
        AObj.cells
        [AV.str { data := List.toArray (Prod.fst x) }, AV.sl 2 (Seq.map T.encS ((0 : Int), (0 : Int)) (Prod.fst (Prod.snd x))) Tip.none,
        AV.bool (Prod.snd (Prod.snd x))]] ∧
        condP x_2
        (Post (AV.int IntKind.i64 (5 : Int))
        [AObj.cells [AV.sl 5 (Seq.map T.encTE T.noTE E) (Tip.tok 1), AV.sl 1 (Seq.map encI (0 : Int) L) (Tip.tok 2)], AObj.tok,
        AObj.tok,
        AObj.cells
        [AV.str { data := List.toArray (Prod.fst t) }, AV.sl 2 (Seq.map T.encS ((0 : Int), (0 : Int)) (Prod.fst (Prod.snd t))) Tip.none,
        AV.bool (Prod.snd (Prod.snd t))],
        AObj.cells
        [AV.str { data := List.toArray (Prod.fst x) }, AV.sl 2 (Seq.map T.encS ((0 : Int), (0 : Int)) (Prod.fst (Prod.snd x))) Tip.none,
        AV.bool (Prod.snd (Prod.snd x))]])
        (ASpec Try.prog 161
        [AV.agg
        [AV.str { data := List.toArray (Prod.fst x) }, AV.sl 2 (Seq.map T.encS ((0 : Int), (0 : Int)) (Prod.fst (Prod.snd x))) Tip.none,
        AV.bool (Prod.snd (Prod.snd x))],
        AV.agg
        [AV.str { data := List.toArray (Prod.fst t) }, AV.sl 2 (Seq.map T.encS ((0 : Int), (0 : Int)) (Prod.fst (Prod.snd t))) Tip.none,
        AV.bool (Prod.snd (Prod.snd t))]]
        [AObj.cells [AV.sl 5 (Seq.map T.encTE T.noTE E) (Tip.tok 1), AV.sl 1 (Seq.map encI (0 : Int) L) (Tip.tok 2)], AObj.tok,
        AObj.tok,
        AObj.cells
        [AV.str { data := List.toArray (Prod.fst t) }, AV.sl 2 (Seq.map T.encS ((0 : Int), (0 : Int)) (Prod.fst (Prod.snd t))) Tip.none,
        AV.bool (Prod.snd (Prod.snd t))],
        AObj.cells
        [AV.str { data := List.toArray (Prod.fst x) }, AV.sl 2 (Seq.map T.encS ((0 : Int), (0 : Int)) (Prod.fst (Prod.snd x))) Tip.none,
        AV.bool (Prod.snd (Prod.snd x))]]
        fun (r : AV) (H' : List AObj) =>
        ∃ (x_3 : Bool),
        r = AV.bool x_3 ∧
        H' =
        [AObj.cells [AV.sl 5 (Seq.map T.encTE T.noTE E) (Tip.tok 1), AV.sl 1 (Seq.map encI (0 : Int) L) (Tip.tok 2)],
        AObj.tok, AObj.tok,
        AObj.cells
        [AV.str { data := List.toArray (Prod.fst t) }, AV.sl 2 (Seq.map T.encS ((0 : Int), (0 : Int)) (Prod.fst (Prod.snd t))) Tip.none,
        AV.bool (Prod.snd (Prod.snd t))],
        AObj.cells
        [AV.str { data := List.toArray (Prod.fst x) }, AV.sl 2 (Seq.map T.encS ((0 : Int), (0 : Int)) (Prod.fst (Prod.snd x))) Tip.none,
        AV.bool (Prod.snd (Prod.snd x))]] ∧
        condP x_3
        (Post (AV.int IntKind.i64 (6 : Int))
        [AObj.cells [AV.sl 5 (Seq.map T.encTE T.noTE E) (Tip.tok 1), AV.sl 1 (Seq.map encI (0 : Int) L) (Tip.tok 2)],
        AObj.tok, AObj.tok,
        AObj.cells
        [AV.str { data := List.toArray (Prod.fst t) }, AV.sl 2 (Seq.map T.encS ((0 : Int), (0 : Int)) (Prod.fst (Prod.snd t))) Tip.none,
        AV.bool (Prod.snd (Prod.snd t))],
        AObj.cells
        [AV.str { data := List.toArray (Prod.fst x) }, AV.sl 2 (Seq.map T.encS ((0 : Int), (0 : Int)) (Prod.fst (Prod.snd x))) Tip.none,
        AV.bool (Prod.snd (Prod.snd x))]])
        (ASpec Try.prog 156
        [AV.ptr 0 0,
        AV.agg
        [AV.str { data := List.toArray (Prod.fst t) }, AV.sl 2 (Seq.map T.encS ((0 : Int), (0 : Int)) (Prod.fst (Prod.snd t))) Tip.none,
        AV.bool (Prod.snd (Prod.snd t))],
        AV.int IntKind.i64 c]
        [AObj.cells [AV.sl 5 (Seq.map T.encTE T.noTE E) (Tip.tok 1), AV.sl 1 (Seq.map encI (0 : Int) L) (Tip.tok 2)],
        AObj.tok, AObj.tok,
        AObj.cells
        [AV.str { data := List.toArray (Prod.fst t) }, AV.sl 2 (Seq.map T.encS ((0 : Int), (0 : Int)) (Prod.fst (Prod.snd t))) Tip.none,
        AV.bool (Prod.snd (Prod.snd t))],
        AObj.cells
        [AV.str { data := List.toArray (Prod.fst x) }, AV.sl 2 (Seq.map T.encS ((0 : Int), (0 : Int)) (Prod.fst (Prod.snd x))) Tip.none,
        AV.bool (Prod.snd (Prod.snd x))]]
        fun (r : AV) (H' : List AObj) =>
        ∃ (x_4 : List T.TE × List Int),
        r = AV.tup [] ∧
        H' =
        [AObj.cells
        [AV.sl 5 (Seq.map T.encTE T.noTE (Prod.fst x_4)) (Tip.tok 5),
        AV.sl 1 (Seq.map encI (0 : Int) (Prod.snd x_4)) (Tip.tok 6)],
        AObj.gone, AObj.gone,
        AObj.cells
        [AV.str { data := List.toArray (Prod.fst t) },
        AV.sl 2 (Seq.map T.encS ((0 : Int), (0 : Int)) (Prod.fst (Prod.snd t))) Tip.none, AV.bool (Prod.snd (Prod.snd t))],
        AObj.cells
        [AV.str { data := List.toArray (Prod.fst x) },
        AV.sl 2 (Seq.map T.encS ((0 : Int), (0 : Int)) (Prod.fst (Prod.snd x))) Tip.none, AV.bool (Prod.snd (Prod.snd x))],
        AObj.tok, AObj.tok] ∧
        Post (AV.int IntKind.i64 (0 : Int))
        [AObj.cells
        [AV.sl 5 (Seq.map T.encTE T.noTE (Prod.fst x_4)) (Tip.tok 5),
        AV.sl 1 (Seq.map encI (0 : Int) (Prod.snd x_4)) (Tip.tok 6)],
        AObj.gone, AObj.gone,
        AObj.cells
        [AV.str { data := List.toArray (Prod.fst t) },
        AV.sl 2 (Seq.map T.encS ((0 : Int), (0 : Int)) (Prod.fst (Prod.snd t))) Tip.none, AV.bool (Prod.snd (Prod.snd t))],
        AObj.cells
        [AV.str { data := List.toArray (Prod.fst x) },
        AV.sl 2 (Seq.map T.encS ((0 : Int), (0 : Int)) (Prod.fst (Prod.snd x))) Tip.none, AV.bool (Prod.snd (Prod.snd x))],
        AObj.tok, AObj.tok]))))) →
    ASpec Try.prog 32 [AV.ptr 0 0, AV.agg (T.encT t), AV.int IntKind.i64 c] (T.HT E L) Post := fun E L t c Post h => Go.Ab.ASpec.of_vc g32 Go.Proofs.Try.func32 (by kernel_rfl) (by kernel_rfl) (by kernel_rfl) (Go.Ab.kc (by kernel_rfl) h)

-- 35
noncomputable def l35 : Nat → List Nat
  | _ => []
noncomputable def u35 : Nat → Bool
  | _ => false
noncomputable def m35 : Nat → Bool
  | _ => false
noncomputable def g35 : Cfg := { N := 38, live := l35, cut := u35, mu := m35, ret := rets }
theorem s35 : ∀ (E : List T.TE) (L : List Int) (n : Int) (Post : AV → List AObj → Prop),
  (ASpec Try.prog 30 [AV.ptr 0 0]
      [AObj.cells [AV.sl 5 (Seq.map T.encTE T.noTE E) (Tip.tok 1), AV.sl 1 (Seq.map encI (0 : Int) L) (Tip.tok 2)], AObj.tok, AObj.tok] fun (r : AV) (H' : List AObj) =>
      ∃ (x : Int),
        r = AV.int IntKind.i64 x ∧
        H' = [AObj.cells [AV.sl 5 (Seq.map T.encTE T.noTE E) (Tip.tok 1), AV.sl 1 (Seq.map encI (0 : Int) L) (Tip.tok 2)], AObj.tok, AObj.tok] ∧
        condP (decide ((if (0 : Int) > n then (0 : Int) else n) ≥ x))
        (Post (AV.tup []) [AObj.cells [AV.sl 5 (Seq.map T.encTE T.noTE E) (Tip.tok 1), AV.sl 1 (Seq.map encI (0 : Int) L) (Tip.tok 2)], AObj.tok, AObj.tok])
        (needP (((0 : Int) ≤ if (0 : Int) > n then (0 : Int) else n) ∧ (if (0 : Int) > n then (0 : Int) else n) < (↑(List.length L) : Int))
        (needP
        ((0 : Int) ≤ List.getD L (Int.toNat (if (0 : Int) > n then (0 : Int) else n)) (0 : Int) ∧
        List.getD L (Int.toNat (if (0 : Int) > n then (0 : Int) else n)) (0 : Int) ≤ (↑(List.length E) : Int) ∧
        List.getD L (Int.toNat (if (0 : Int) > n then (0 : Int) else n)) (0 : Int) = List.getD L (Int.toNat (if (0 : Int) > n then (0 : Int) else n)) (0 : Int))
        (needP
        (((0 : Int) ≤ if (0 : Int) > n then (0 : Int) else n) ∧
        (if (0 : Int) > n then (0 : Int) else n) ≤ (↑(List.length L) : Int) ∧ (if (0 : Int) > n then (0 : Int) else n) = if (0 : Int) > n then (0 : Int) else n)
        (Post (AV.tup [])
        [AObj.cells
        [AV.sl 5 (Seq.map T.encTE T.noTE (List.drop 0 (List.take (Int.toNat (List.getD L (Int.toNat (if (0 : Int) > n then (0 : Int) else n)) (0 : Int))) E)))
        Tip.full,
        AV.sl 1 (Seq.map encI (0 : Int) (List.drop 0 (List.take (Int.toNat (if (0 : Int) > n then (0 : Int) else n)) L))) Tip.full],
        AObj.tok, AObj.tok]))))) →
    ASpec Try.prog 35 [AV.ptr 0 0, AV.int IntKind.i64 n] (T.HT E L) Post := fun E L n Post h => Go.Ab.ASpec.of_vc g35 Go.Proofs.Try.func35 (by kernel_rfl) (by kernel_rfl) (by kernel_rfl) (Go.Ab.kc (by kernel_rfl) h)

end
end Tl
end

section
/- Picks as cells. -/

open Go Go.Ab Go.Proofs
namespace T
/-- a name and a version -/
abbrev Pk := List UInt8 × Int
abbrev noPk : Pk := ([], 0)
noncomputable def encPk (x : Pk) : List AV := [.str ⟨x.1.toArray⟩, .int .i64 x.2]
end T
end

section
/- Printed: what the code of functions 201, 82, 206, 81 asks for, by the framework's own reading of it; each line is checked against the code. -/

set_option linter.unusedVariables false
set_option maxRecDepth 100000
set_option maxHeartbeats 4000000
open Go Go.Ab Go.Proofs
namespace Tx
noncomputable section

noncomputable def retX : List (Nat × Ret) := [
  (81, ⟨Int, fun _ _ x => .int .i64 x, fun _ H _ => H⟩),
  (82, ⟨List T.Pk, fun _ _ x => .sl 2 (.map T.encPk T.noPk x) .none, fun _ H _ => H⟩),
  (201, ⟨Int × Bool, fun _ _ x => .tup [.int .i64 x.1, .bool x.2], fun _ H _ => H⟩),
  (202, ⟨List T.Pk, fun _ _ x => .sl 2 (.map T.encPk T.noPk x) .none, fun _ H _ => H⟩),
  (206, ⟨T.TE × Bool, fun _ _ x => .tup [.agg (T.encTE x.1), .bool x.2], fun _ H _ => H⟩)]
noncomputable def rets : FuncId → List Ret := fun f => match lookupR retX f with
  | [] => Tl.rets f
  | l => l

-- 201
noncomputable def l201 : Nat → List Nat
  | _ => []
noncomputable def u201 : Nat → Bool
  | _ => false
noncomputable def m201 : Nat → Bool
  | _ => false
noncomputable def g201 : Cfg := { N := 11, live := l201, cut := u201, mu := m201, ret := rets }
theorem s201 : ∀ (l : List T.Span) (Post : AV → List AObj → Prop),
  condP ((↑(List.length l) : Int) == (0 : Int)) (Post (AV.tup [AV.int IntKind.i64 (0 : Int), AV.bool false]) [])
      (needP ((0 : Int) ≤ (0 : Int) ∧ (0 : Int) < (↑(List.length l) : Int)) (Post (AV.tup [AV.int IntKind.i64 (Prod.fst (List.getD l 0 ((0 : Int), (0 : Int)))), AV.bool true]) [])) →
    ASpec Try.prog 201 [AV.sl 2 (Seq.map T.encS ((0 : Int), (0 : Int)) l) Tip.none] [] Post := fun l Post h => Go.Ab.ASpec.of_vc g201 Go.Proofs.Try.func201 (by kernel_rfl) (by kernel_rfl) (by kernel_rfl) (Go.Ab.kc (by kernel_rfl) h)

-- 82
noncomputable def l82 : Nat → List Nat
  | 5 => [0, 3, 14, 15, 16]
  | _ => []
noncomputable def u82 : Nat → Bool
  | _ => false
noncomputable def m82 : Nat → Bool
  | _ => false
noncomputable def g82 : Cfg := { N := 42, live := l82, cut := u82, mu := m82, ret := rets }
noncomputable def c82 : Go.Code := Go.Ab.bodyOf Go.Proofs.Try.f82
noncomputable def q82_0 : Nat → (AV → List AObj → Prop) → AQ := fun (n : Nat) (Post : AV → List AObj → Prop) => endQ Try.prog (resultsOf Try.f82) Post
noncomputable def q82_1 : Nat → (AV → List AObj → Prop) → AQ := fun (n : Nat) (Post : AV → List AObj → Prop) => seqQ (fun (s' : Slots) (H' : List AObj) => awp Try.prog g82 n (codeSnd (codeSnd (codeSnd (codeSnd c82)))) s' H' (q82_0 n Post)) (q82_0 n Post)
noncomputable def q82_2 : Nat → (AV → List AObj → Prop) → AQ := fun (n : Nat) (Post : AV → List AObj → Prop) => blockQ 0 (q82_1 n Post)
noncomputable def c82_5 : Go.Code := codeFst (codeSnd (codeFst (codeSnd (codeSnd (codeSnd c82)))))
theorem s82m : ∀ (E : List T.TE) (L : List Int) (Post : AV → List AObj → Prop),
  AWP Try.prog 42 3 c82_5
      [(0, AV.ptr 0 0), (3, AV.sl 0 (Seq.raw []) Tip.nil), (14, AV.sl 1 (Seq.map encI (0 : Int) L) (Tip.tok 2)),
        (15, AV.int IntKind.i64 (↑(List.length L) : Int)), (16, AV.int IntKind.i64 (0 : Int))]
      [AObj.cells [AV.sl 5 (Seq.map T.encTE T.noTE E) (Tip.tok 1), AV.sl 1 (Seq.map encI (0 : Int) L) (Tip.tok 2)], AObj.tok, AObj.tok] (q82_2 3 Post) →
    ASpec Try.prog 82 [AV.ptr 0 0] (T.HT E L) Post := fun E L Post h => Go.Ab.ASpec.of_vc g82 Go.Proofs.Try.func82 (by kernel_rfl) (by kernel_rfl) (by kernel_rfl) (Go.Ab.kc (by kernel_rfl) h)
theorem s82n : ∀ (Post : AV → List AObj → Prop), Post (AV.sl 0 (Seq.raw []) Tip.nil) [] → ASpec Try.prog 82 [AV.nilp] [] Post := fun Post h => Go.Ab.ASpec.of_vc g82 Go.Proofs.Try.func82 (by kernel_rfl) (by kernel_rfl) (by kernel_rfl) (Go.Ab.kc (by kernel_rfl) h)
theorem v82_5 : ∀ (E : List T.TE) (L : List Int) (o : List T.Pk) (n i : Int) (n_1 : Nat) (Post : AV → List AObj → Prop),
  condP (decide (i < n))
      (needP ((0 : Int) ≤ i ∧ i < (↑(List.length L) : Int))
        (needP ((0 : Int) ≤ List.getD L (Int.toNat i) (0 : Int) ∧ List.getD L (Int.toNat i) (0 : Int) < (↑(List.length E) : Int))
        (ASpec Try.prog 201
        [AV.sl 2 (Seq.map T.encS ((0 : Int), (0 : Int)) (Prod.fst (Prod.snd (Prod.fst (List.getD E (Int.toNat (List.getD L (Int.toNat i) (0 : Int))) T.noTE))))) Tip.none]
        [AObj.cells [AV.sl 5 (Seq.map T.encTE T.noTE E) (Tip.tok 1), AV.sl 1 (Seq.map encI (0 : Int) L) (Tip.tok 2)], AObj.tok, AObj.tok,
        AObj.cells
        [AV.str { data := List.toArray (Prod.fst (Prod.fst (List.getD E (Int.toNat (List.getD L (Int.toNat i) (0 : Int))) T.noTE))) },
        AV.sl 2 (Seq.map T.encS ((0 : Int), (0 : Int)) (Prod.fst (Prod.snd (Prod.fst (List.getD E (Int.toNat (List.getD L (Int.toNat i) (0 : Int))) T.noTE))))) Tip.none,
        AV.bool (Prod.snd (Prod.snd (Prod.fst (List.getD E (Int.toNat (List.getD L (Int.toNat i) (0 : Int))) T.noTE))))]]
        fun (r : AV) (H' : List AObj) =>
        ∃ (x : Int × Bool),
        r = AV.tup [AV.int IntKind.i64 (Prod.fst x), AV.bool (Prod.snd x)] ∧
        H' =
        [AObj.cells [AV.sl 5 (Seq.map T.encTE T.noTE E) (Tip.tok 1), AV.sl 1 (Seq.map encI (0 : Int) L) (Tip.tok 2)], AObj.tok, AObj.tok,
        AObj.cells
        [AV.str { data := List.toArray (Prod.fst (Prod.fst (List.getD E (Int.toNat (List.getD L (Int.toNat i) (0 : Int))) T.noTE))) },
        AV.sl 2 (Seq.map T.encS ((0 : Int), (0 : Int)) (Prod.fst (Prod.snd (Prod.fst (List.getD E (Int.toNat (List.getD L (Int.toNat i) (0 : Int))) T.noTE))))) Tip.none,
        AV.bool (Prod.snd (Prod.snd (Prod.fst (List.getD E (Int.toNat (List.getD L (Int.toNat i) (0 : Int))) T.noTE))))]] ∧
        ASpec Try.prog 202
        [AV.sl 2 (Seq.map T.encPk T.noPk o) Tip.none,
        AV.agg [AV.str { data := List.toArray (Prod.fst (Prod.fst (List.getD E (Int.toNat (List.getD L (Int.toNat i) (0 : Int))) T.noTE))) }, AV.int IntKind.i64 (Prod.fst x)]]
        [AObj.cells [AV.sl 5 (Seq.map T.encTE T.noTE E) (Tip.tok 1), AV.sl 1 (Seq.map encI (0 : Int) L) (Tip.tok 2)], AObj.tok, AObj.tok,
        AObj.cells
        [AV.str { data := List.toArray (Prod.fst (Prod.fst (List.getD E (Int.toNat (List.getD L (Int.toNat i) (0 : Int))) T.noTE))) },
        AV.sl 2 (Seq.map T.encS ((0 : Int), (0 : Int)) (Prod.fst (Prod.snd (Prod.fst (List.getD E (Int.toNat (List.getD L (Int.toNat i) (0 : Int))) T.noTE))))) Tip.none,
        AV.bool (Prod.snd (Prod.snd (Prod.fst (List.getD E (Int.toNat (List.getD L (Int.toNat i) (0 : Int))) T.noTE))))]]
        fun (r : AV) (H' : List AObj) =>
        ∃ (x : List T.Pk),
        r = AV.sl 2 (Seq.map T.encPk T.noPk x) Tip.none ∧
        H' =
        [AObj.cells [AV.sl 5 (Seq.map T.encTE T.noTE E) (Tip.tok 1), AV.sl 1 (Seq.map encI (0 : Int) L) (Tip.tok 2)], AObj.tok, AObj.tok,
        AObj.cells
        [AV.str { data := List.toArray (Prod.fst (Prod.fst (List.getD E (Int.toNat (List.getD L (Int.toNat i) (0 : Int))) T.noTE))) },
        AV.sl 2 (Seq.map T.encS ((0 : Int), (0 : Int)) (Prod.fst (Prod.snd (Prod.fst (List.getD E (Int.toNat (List.getD L (Int.toNat i) (0 : Int))) T.noTE)))))
        Tip.none,
        AV.bool (Prod.snd (Prod.snd (Prod.fst (List.getD E (Int.toNat (List.getD L (Int.toNat i) (0 : Int))) T.noTE))))]] ∧
        AWP Try.prog 42 n_1 c82_5
        [(0, AV.ptr 0 0), (3, AV.sl 2 (Seq.map T.encPk T.noPk x) Tip.none),
        (14, AV.sl 1 (Seq.map encI (0 : Int) L) Tip.none), (15, AV.int IntKind.i64 n),
        (16, AV.int IntKind.i64 (IntKind.wrap IntKind.i64 (i + (1 : Int))))]
        [AObj.cells [AV.sl 5 (Seq.map T.encTE T.noTE E) (Tip.tok 1), AV.sl 1 (Seq.map encI (0 : Int) L) (Tip.tok 2)], AObj.tok, AObj.tok,
        AObj.cells
        [AV.str { data := List.toArray (Prod.fst (Prod.fst (List.getD E (Int.toNat (List.getD L (Int.toNat i) (0 : Int))) T.noTE))) },
        AV.sl 2 (Seq.map T.encS ((0 : Int), (0 : Int)) (Prod.fst (Prod.snd (Prod.fst (List.getD E (Int.toNat (List.getD L (Int.toNat i) (0 : Int))) T.noTE)))))
        Tip.none,
        AV.bool (Prod.snd (Prod.snd (Prod.fst (List.getD E (Int.toNat (List.getD L (Int.toNat i) (0 : Int))) T.noTE))))]]
        (q82_2 n_1 Post))))
      (Post (AV.sl 2 (Seq.map T.encPk T.noPk o) Tip.none)
        [AObj.cells [AV.sl 5 (Seq.map T.encTE T.noTE E) (Tip.tok 1), AV.sl 1 (Seq.map encI (0 : Int) L) (Tip.tok 2)], AObj.tok, AObj.tok]) →
    AWP Try.prog 42 n_1 c82_5
      [(0, AV.ptr 0 0), (3, AV.sl 2 (Seq.map T.encPk T.noPk o) Tip.none), (14, AV.sl 1 (Seq.map encI (0 : Int) L) Tip.none),
        (15, AV.int IntKind.i64 n), (16, AV.int IntKind.i64 i)]
      (T.HT E L) (q82_2 n_1 Post) := fun E L o n i n Post h => Go.Ab.AWP.loop' g82 (Cfg.live g82) c82_5 (by kernel_rfl) (by kernel_rfl) (Go.Ab.kc (by kernel_rfl) h)

-- 206
noncomputable def l206 : Nat → List Nat
  | _ => []
noncomputable def u206 : Nat → Bool
  | _ => false
noncomputable def m206 : Nat → Bool
  | _ => false
noncomputable def g206 : Cfg := { N := 30, live := l206, cut := u206, mu := m206, ret := rets }
theorem s206 : ∀ (E : List T.TE) (L : List Int) (i : Int) (Post : AV → List AObj → Prop),
  condP (decide (i < (0 : Int)))
      (Post (AV.tup [AV.agg [AV.str { data := #[] }, AV.sl 0 (Seq.raw []) Tip.nil, AV.bool false, AV.int IntKind.i64 (0 : Int), AV.int IntKind.i64 (0 : Int)], AV.bool false])
        [AObj.cells [AV.sl 5 (Seq.map T.encTE T.noTE E) (Tip.tok 1), AV.sl 1 (Seq.map encI (0 : Int) L) (Tip.tok 2)], AObj.tok, AObj.tok,
        AObj.cells [AV.str { data := #[] }, AV.sl 0 (Seq.raw []) Tip.nil, AV.bool false, AV.int IntKind.i64 (0 : Int), AV.int IntKind.i64 (0 : Int)]])
      (ASpec Try.prog 80 [AV.ptr 0 0]
        [AObj.cells [AV.sl 5 (Seq.map T.encTE T.noTE E) (Tip.tok 1), AV.sl 1 (Seq.map encI (0 : Int) L) (Tip.tok 2)], AObj.tok, AObj.tok,
        AObj.cells [AV.str { data := #[] }, AV.sl 0 (Seq.raw []) Tip.nil, AV.bool false, AV.int IntKind.i64 (0 : Int), AV.int IntKind.i64 (0 : Int)]]
        fun (r : AV) (H' : List AObj) =>
        ∃ (x : Int),
        r = AV.int IntKind.i64 x ∧
        H' =
        [AObj.cells [AV.sl 5 (Seq.map T.encTE T.noTE E) (Tip.tok 1), AV.sl 1 (Seq.map encI (0 : Int) L) (Tip.tok 2)], AObj.tok, AObj.tok,
        AObj.cells [AV.str { data := #[] }, AV.sl 0 (Seq.raw []) Tip.nil, AV.bool false, AV.int IntKind.i64 (0 : Int), AV.int IntKind.i64 (0 : Int)]] ∧
        condP (decide (i ≥ x))
        (Post (AV.tup [AV.agg [AV.str { data := #[] }, AV.sl 0 (Seq.raw []) Tip.nil, AV.bool false, AV.int IntKind.i64 (0 : Int), AV.int IntKind.i64 (0 : Int)], AV.bool false])
        [AObj.cells [AV.sl 5 (Seq.map T.encTE T.noTE E) (Tip.tok 1), AV.sl 1 (Seq.map encI (0 : Int) L) (Tip.tok 2)], AObj.tok, AObj.tok,
        AObj.cells [AV.str { data := #[] }, AV.sl 0 (Seq.raw []) Tip.nil, AV.bool false, AV.int IntKind.i64 (0 : Int), AV.int IntKind.i64 (0 : Int)]])
        (needP ((0 : Int) ≤ i ∧ i < (↑(List.length E) : Int))
        (ASpec Try.prog 255 [AV.sl 2 (Seq.map T.encS ((0 : Int), (0 : Int)) (Prod.fst (Prod.snd (Prod.fst (List.getD E (Int.toNat i) T.noTE))))) Tip.none]
        [AObj.cells [AV.sl 5 (Seq.map T.encTE T.noTE E) (Tip.tok 1), AV.sl 1 (Seq.map encI (0 : Int) L) (Tip.tok 2)], AObj.tok, AObj.tok,
        AObj.cells [AV.str { data := #[] }, AV.sl 0 (Seq.raw []) Tip.nil, AV.bool false, AV.int IntKind.i64 (0 : Int), AV.int IntKind.i64 (0 : Int)],
        AObj.cells
        [AV.str { data := List.toArray (Prod.fst (Prod.fst (List.getD E (Int.toNat i) T.noTE))) },
        AV.sl 2 (Seq.map T.encS ((0 : Int), (0 : Int)) (Prod.fst (Prod.snd (Prod.fst (List.getD E (Int.toNat i) T.noTE))))) Tip.none,
        AV.bool (Prod.snd (Prod.snd (Prod.fst (List.getD E (Int.toNat i) T.noTE)))), AV.int IntKind.i64 (Prod.fst (Prod.snd (List.getD E (Int.toNat i) T.noTE))),
        AV.int IntKind.i64 (Prod.snd (Prod.snd (List.getD E (Int.toNat i) T.noTE)))]]
        fun (r : AV) (H' : List AObj) =>
        ∃ (x : List T.Span),
        r = AV.sl 2 (Seq.map T.encS ((0 : Int), (0 : Int)) x) Tip.none ∧
        H' =
        [AObj.cells [AV.sl 5 (Seq.map T.encTE T.noTE E) (Tip.tok 1), AV.sl 1 (Seq.map encI (0 : Int) L) (Tip.tok 2)], AObj.tok, AObj.tok,
        AObj.cells [AV.str { data := #[] }, AV.sl 0 (Seq.raw []) Tip.nil, AV.bool false, AV.int IntKind.i64 (0 : Int), AV.int IntKind.i64 (0 : Int)],
        AObj.cells
        [AV.str { data := List.toArray (Prod.fst (Prod.fst (List.getD E (Int.toNat i) T.noTE))) },
        AV.sl 2 (Seq.map T.encS ((0 : Int), (0 : Int)) (Prod.fst (Prod.snd (Prod.fst (List.getD E (Int.toNat i) T.noTE))))) Tip.none,
        AV.bool (Prod.snd (Prod.snd (Prod.fst (List.getD E (Int.toNat i) T.noTE)))), AV.int IntKind.i64 (Prod.fst (Prod.snd (List.getD E (Int.toNat i) T.noTE))),
        AV.int IntKind.i64 (Prod.snd (Prod.snd (List.getD E (Int.toNat i) T.noTE)))]] ∧
        Post
        (AV.tup
        [AV.agg
        [AV.str { data := List.toArray (Prod.fst (Prod.fst (List.getD E (Int.toNat i) T.noTE))) }, AV.sl 2 (Seq.map T.encS ((0 : Int), (0 : Int)) x) Tip.none,
        AV.bool (Prod.snd (Prod.snd (Prod.fst (List.getD E (Int.toNat i) T.noTE)))), AV.int IntKind.i64 (Prod.fst (Prod.snd (List.getD E (Int.toNat i) T.noTE))),
        AV.int IntKind.i64 (Prod.snd (Prod.snd (List.getD E (Int.toNat i) T.noTE)))],
        AV.bool true])
        [AObj.cells [AV.sl 5 (Seq.map T.encTE T.noTE E) (Tip.tok 1), AV.sl 1 (Seq.map encI (0 : Int) L) (Tip.tok 2)], AObj.tok, AObj.tok,
        AObj.cells
        [AV.str { data := List.toArray (Prod.fst (Prod.fst (List.getD E (Int.toNat i) T.noTE))) }, AV.sl 2 (Seq.map T.encS ((0 : Int), (0 : Int)) x) Tip.none,
        AV.bool (Prod.snd (Prod.snd (Prod.fst (List.getD E (Int.toNat i) T.noTE)))), AV.int IntKind.i64 (Prod.fst (Prod.snd (List.getD E (Int.toNat i) T.noTE))),
        AV.int IntKind.i64 (Prod.snd (Prod.snd (List.getD E (Int.toNat i) T.noTE)))],
        AObj.cells
        [AV.str { data := List.toArray (Prod.fst (Prod.fst (List.getD E (Int.toNat i) T.noTE))) }, AV.sl 2 (Seq.map T.encS ((0 : Int), (0 : Int)) x) Tip.none,
        AV.bool (Prod.snd (Prod.snd (Prod.fst (List.getD E (Int.toNat i) T.noTE)))), AV.int IntKind.i64 (Prod.fst (Prod.snd (List.getD E (Int.toNat i) T.noTE))),
        AV.int IntKind.i64 (Prod.snd (Prod.snd (List.getD E (Int.toNat i) T.noTE)))]]))) →
    ASpec Try.prog 206 [AV.ptr 0 0, AV.int IntKind.i64 i] (T.HT E L) Post := fun E L i Post h => Go.Ab.ASpec.of_vc g206 Go.Proofs.Try.func206 (by kernel_rfl) (by kernel_rfl) (by kernel_rfl) (Go.Ab.kc (by kernel_rfl) h)

-- 81
noncomputable def l81 : Nat → List Nat
  | 5 => [0, 5, 12, 13, 14]
  | 9 => [0, 5, 7, 8, 9, 12, 13, 14]
  | _ => []
noncomputable def u81 : Nat → Bool
  | _ => false
noncomputable def m81 : Nat → Bool
  | _ => false
noncomputable def g81 : Cfg := { N := 67, live := l81, cut := u81, mu := m81, ret := rets }
noncomputable def c81 : Go.Code := Go.Ab.bodyOf Go.Proofs.Try.f81
noncomputable def q81_0 : Nat → (AV → List AObj → Prop) → AQ := fun (n : Nat) (Post : AV → List AObj → Prop) => endQ Try.prog (resultsOf Try.f81) Post
noncomputable def q81_1 : Nat → (AV → List AObj → Prop) → AQ := fun (n : Nat) (Post : AV → List AObj → Prop) => seqQ (fun (s' : Slots) (H' : List AObj) => awp Try.prog g81 n (codeSnd (codeSnd (codeSnd (codeSnd c81)))) s' H' (q81_0 n Post)) (q81_0 n Post)
noncomputable def q81_2 : Nat → (AV → List AObj → Prop) → AQ := fun (n : Nat) (Post : AV → List AObj → Prop) => blockQ 0 (q81_1 n Post)
noncomputable def c81_5 : Go.Code := codeFst (codeSnd (codeFst (codeSnd (codeSnd (codeSnd c81)))))
theorem s81m : ∀ (E : List T.TE) (L : List Int) (c : List T.Term) (Post : AV → List AObj → Prop),
  AWP Try.prog 67 3 c81_5
      [(0, AV.ptr 0 0), (5, AV.int IntKind.i64 (0 : Int)), (12, AV.sl 3 (Seq.map T.encT T.noT c) Tip.none),
        (13, AV.int IntKind.i64 (↑(List.length c) : Int)), (14, AV.int IntKind.i64 (0 : Int))]
      [AObj.cells [AV.sl 5 (Seq.map T.encTE T.noTE E) (Tip.tok 1), AV.sl 1 (Seq.map encI (0 : Int) L) (Tip.tok 2)], AObj.tok, AObj.tok] (q81_2 3 Post) →
    ASpec Try.prog 81 [AV.ptr 0 0, AV.sl 3 (Seq.map T.encT T.noT c) Tip.none] (T.HT E L) Post := fun E L c Post h => Go.Ab.ASpec.of_vc g81 Go.Proofs.Try.func81 (by kernel_rfl) (by kernel_rfl) (by kernel_rfl) (Go.Ab.kc (by kernel_rfl) h)
theorem s81n : ∀ (v : AV) (Post : AV → List AObj → Prop), Post (AV.int IntKind.i64 (-1 : Int)) [] → ASpec Try.prog 81 [AV.nilp, v] [] Post := fun v Post h => Go.Ab.ASpec.of_vc g81 Go.Proofs.Try.func81 (by kernel_rfl) (by kernel_rfl) (by kernel_rfl) (Go.Ab.kc (by kernel_rfl) h)
noncomputable def q81_3 : Nat → (AV → List AObj → Prop) → AQ := fun (n : Nat) (Post : AV → List AObj → Prop) => loopQ Try.prog 67 n c81_5 (q81_2 n Post) (Cfg.live g81)
noncomputable def q81_4 : Nat → (AV → List AObj → Prop) → AQ := fun (n : Nat) (Post : AV → List AObj → Prop) => seqQ (fun (s' : Slots) (H' : List AObj) => awp Try.prog g81 n (codeSnd (codeSnd (codeSnd (codeFst c81_5)))) s' H' (q81_3 n Post)) (q81_3 n Post)
noncomputable def q81_5 : Nat → (AV → List AObj → Prop) → AQ := fun (n : Nat) (Post : AV → List AObj → Prop) => blockQ 1 (q81_4 n Post)
noncomputable def q81_6 : Nat → (AV → List AObj → Prop) → AQ := fun (n : Nat) (Post : AV → List AObj → Prop) => seqQ (fun (s' : Slots) (H' : List AObj) => awp Try.prog g81 n (codeSnd (codeSnd (codeSnd (codeSnd (codeFst (codeFst (codeSnd (codeSnd (codeFst c81_5))))))))) s' H' (q81_5 n Post)) (q81_5 n Post)
noncomputable def q81_7 : Nat → (AV → List AObj → Prop) → AQ := fun (n : Nat) (Post : AV → List AObj → Prop) => blockQ 2 (q81_6 n Post)
noncomputable def c81_9 : Go.Code := codeFst (codeFst (codeSnd (codeSnd (codeSnd (codeFst (codeFst (codeSnd (codeSnd (codeFst c81_5)))))))))
theorem v81_5 : ∀ (E : List T.TE) (L : List Int) (c : List T.Term) (m n i : Int) (n_1 : Nat) (Post : AV → List AObj → Prop),
  condP (decide (i < n))
      (needP ((0 : Int) ≤ i ∧ i < (↑(List.length c) : Int))
        (ASpec Try.prog 200 [AV.str { data := List.toArray (Prod.fst (List.getD c (Int.toNat i) T.noT)) }]
        [AObj.cells [AV.sl 5 (Seq.map T.encTE T.noTE E) (Tip.tok 1), AV.sl 1 (Seq.map encI (0 : Int) L) (Tip.tok 2)], AObj.tok, AObj.tok,
        AObj.cells
        [AV.str { data := List.toArray (Prod.fst (List.getD c (Int.toNat i) T.noT)) },
        AV.sl 2 (Seq.map T.encS ((0 : Int), (0 : Int)) (Prod.fst (Prod.snd (List.getD c (Int.toNat i) T.noT)))) Tip.none,
        AV.bool (Prod.snd (Prod.snd (List.getD c (Int.toNat i) T.noT)))]]
        fun (r : AV) (H' : List AObj) =>
        ∃ (x : List UInt8 × List T.Span × Bool),
        r = AV.agg [AV.str { data := List.toArray (Prod.fst x) }, AV.sl 2 (Seq.map T.encS ((0 : Int), (0 : Int)) (Prod.fst (Prod.snd x))) Tip.none, AV.bool (Prod.snd (Prod.snd x))] ∧
        H' =
        [AObj.cells [AV.sl 5 (Seq.map T.encTE T.noTE E) (Tip.tok 1), AV.sl 1 (Seq.map encI (0 : Int) L) (Tip.tok 2)], AObj.tok, AObj.tok,
        AObj.cells
        [AV.str { data := List.toArray (Prod.fst (List.getD c (Int.toNat i) T.noT)) },
        AV.sl 2 (Seq.map T.encS ((0 : Int), (0 : Int)) (Prod.fst (Prod.snd (List.getD c (Int.toNat i) T.noT)))) Tip.none,
        AV.bool (Prod.snd (Prod.snd (List.getD c (Int.toNat i) T.noT)))]] ∧
        AWP Try.prog 67 n_1 c81_9
        [(0, AV.ptr 0 0), (5, AV.int IntKind.i64 m), (7, AV.ptr 3 0), (8, AV.ptr 4 0),
        (9, AV.int IntKind.i64 (0 : Int)), (12, AV.sl 3 (Seq.map T.encT T.noT c) Tip.none), (13, AV.int IntKind.i64 n), (14, AV.int IntKind.i64 i)]
        [AObj.cells [AV.sl 5 (Seq.map T.encTE T.noTE E) (Tip.tok 1), AV.sl 1 (Seq.map encI (0 : Int) L) (Tip.tok 2)], AObj.tok, AObj.tok,
        AObj.cells
        [AV.str { data := List.toArray (Prod.fst (List.getD c (Int.toNat i) T.noT)) },
        AV.sl 2 (Seq.map T.encS ((0 : Int), (0 : Int)) (Prod.fst (Prod.snd (List.getD c (Int.toNat i) T.noT)))) Tip.none,
        AV.bool (Prod.snd (Prod.snd (List.getD c (Int.toNat i) T.noT)))],
        AObj.cells
        [AV.str { data := List.toArray (Prod.fst x) }, AV.sl 2 (Seq.map T.encS ((0 : Int), (0 : Int)) (Prod.fst (Prod.snd x))) Tip.none, AV.bool (Prod.snd (Prod.snd x))]]
        (q81_7 n_1 Post)))
      (Post (AV.int IntKind.i64 m) [AObj.cells [AV.sl 5 (Seq.map T.encTE T.noTE E) (Tip.tok 1), AV.sl 1 (Seq.map encI (0 : Int) L) (Tip.tok 2)], AObj.tok, AObj.tok]) →
    AWP Try.prog 67 n_1 c81_5
      [(0, AV.ptr 0 0), (5, AV.int IntKind.i64 m), (12, AV.sl 3 (Seq.map T.encT T.noT c) Tip.none), (13, AV.int IntKind.i64 n),
        (14, AV.int IntKind.i64 i)]
      (T.HT E L) (q81_2 n_1 Post) := fun E L c m n i n Post h => Go.Ab.AWP.loop' g81 (Cfg.live g81) c81_5 (by kernel_rfl) (by kernel_rfl) (Go.Ab.kc (by kernel_rfl) h)
theorem v81_9 : ∀ (E : List T.TE) (L : List Int) (c : List T.Term) (x k : T.Term) (m j n i : Int) (n_1 : Nat) (Post : AV → List AObj → Prop),
  condP (decide (j < (↑(List.length E) : Int)))
      (ASpec Try.prog 161
        [AV.agg [AV.str { data := List.toArray (Prod.fst k) }, AV.sl 2 (Seq.map T.encS ((0 : Int), (0 : Int)) (Prod.fst (Prod.snd k))) Tip.none, AV.bool (Prod.snd (Prod.snd k))],
        AV.agg [AV.str { data := List.toArray (Prod.fst x) }, AV.sl 2 (Seq.map T.encS ((0 : Int), (0 : Int)) (Prod.fst (Prod.snd x))) Tip.none, AV.bool (Prod.snd (Prod.snd x))]]
        [AObj.cells [AV.sl 5 (Seq.map T.encTE T.noTE E) (Tip.tok 1), AV.sl 1 (Seq.map encI (0 : Int) L) (Tip.tok 2)], AObj.tok, AObj.tok,
        AObj.cells [AV.str { data := List.toArray (Prod.fst x) }, AV.sl 2 (Seq.map T.encS ((0 : Int), (0 : Int)) (Prod.fst (Prod.snd x))) Tip.none, AV.bool (Prod.snd (Prod.snd x))],
        AObj.cells [AV.str { data := List.toArray (Prod.fst k) }, AV.sl 2 (Seq.map T.encS ((0 : Int), (0 : Int)) (Prod.fst (Prod.snd k))) Tip.none, AV.bool (Prod.snd (Prod.snd k))]]
        fun (r : AV) (H' : List AObj) =>
        ∃ (x_1 : Bool),
        r = AV.bool x_1 ∧
        H' =
        [AObj.cells [AV.sl 5 (Seq.map T.encTE T.noTE E) (Tip.tok 1), AV.sl 1 (Seq.map encI (0 : Int) L) (Tip.tok 2)], AObj.tok, AObj.tok,
        AObj.cells [AV.str { data := List.toArray (Prod.fst x) }, AV.sl 2 (Seq.map T.encS ((0 : Int), (0 : Int)) (Prod.fst (Prod.snd x))) Tip.none, AV.bool (Prod.snd (Prod.snd x))],
        AObj.cells
        [AV.str { data := List.toArray (Prod.fst k) }, AV.sl 2 (Seq.map T.encS ((0 : Int), (0 : Int)) (Prod.fst (Prod.snd k))) Tip.none, AV.bool (Prod.snd (Prod.snd k))]] ∧
        condP (!x_1)
        (needP ((0 : Int) ≤ j ∧ j < (↑(List.length E) : Int))
        (condP (ByteArray.toList { data := List.toArray (Prod.fst (Prod.fst (List.getD E (Int.toNat j) T.noTE))) } == ByteArray.toList { data := List.toArray (Prod.fst x) })
        (needP ((0 : Int) ≤ j ∧ j < (↑(List.length E) : Int))
        (ASpec Try.prog 160
        [AV.agg
        [AV.str { data := List.toArray (Prod.fst k) }, AV.sl 2 (Seq.map T.encS ((0 : Int), (0 : Int)) (Prod.fst (Prod.snd k))) Tip.none, AV.bool (Prod.snd (Prod.snd k))],
        AV.agg
        [AV.str { data := List.toArray (Prod.fst (Prod.fst (List.getD E (Int.toNat j) T.noTE))) },
        AV.sl 2 (Seq.map T.encS ((0 : Int), (0 : Int)) (Prod.fst (Prod.snd (Prod.fst (List.getD E (Int.toNat j) T.noTE))))) Tip.none,
        AV.bool (Prod.snd (Prod.snd (Prod.fst (List.getD E (Int.toNat j) T.noTE))))]]
        [AObj.cells [AV.sl 5 (Seq.map T.encTE T.noTE E) (Tip.tok 1), AV.sl 1 (Seq.map encI (0 : Int) L) (Tip.tok 2)], AObj.tok, AObj.tok,
        AObj.cells
        [AV.str { data := List.toArray (Prod.fst x) }, AV.sl 2 (Seq.map T.encS ((0 : Int), (0 : Int)) (Prod.fst (Prod.snd x))) Tip.none, AV.bool (Prod.snd (Prod.snd x))],
        AObj.cells
        [AV.str { data := List.toArray (Prod.fst k) }, AV.sl 2 (Seq.map T.encS ((0 : Int), (0 : Int)) (Prod.fst (Prod.snd k))) Tip.none, AV.bool (Prod.snd (Prod.snd k))]]
        fun (r : AV) (H' : List AObj) =>
        ∃ (x_2 : List UInt8 × List T.Span × Bool),
        r =
        AV.agg
        [AV.str { data := List.toArray (Prod.fst x_2) }, AV.sl 2 (Seq.map T.encS ((0 : Int), (0 : Int)) (Prod.fst (Prod.snd x_2))) Tip.none,
        AV.bool (Prod.snd (Prod.snd x_2))] ∧
        H' =
        [AObj.cells [AV.sl 5 (Seq.map T.encTE T.noTE E) (Tip.tok 1), AV.sl 1 (Seq.map encI (0 : Int) L) (Tip.tok 2)], AObj.tok, AObj.tok,
        AObj.cells
        [AV.str { data := List.toArray (Prod.fst x) }, AV.sl 2 (Seq.map T.encS ((0 : Int), (0 : Int)) (Prod.fst (Prod.snd x))) Tip.none,
        AV.bool (Prod.snd (Prod.snd x))],
        AObj.cells
        [AV.str { data := List.toArray (Prod.fst k) }, AV.sl 2 (Seq.map T.encS ((0 : Int), (0 : Int)) (Prod.fst (Prod.snd k))) Tip.none,
        AV.bool (Prod.snd (Prod.snd k))]] ∧
        AWP Try.prog 67 n_1 c81_9
        [(0, AV.ptr 0 0), (5, AV.int IntKind.i64 m), (7, AV.ptr 3 0), (8, AV.ptr 4 0),
        (9, AV.int IntKind.i64 (IntKind.wrap IntKind.i64 (j + (1 : Int)))), (12, AV.sl 3 (Seq.map T.encT T.noT c) Tip.none),
        (13, AV.int IntKind.i64 n), (14, AV.int IntKind.i64 i)]
        [AObj.cells [AV.sl 5 (Seq.map T.encTE T.noTE E) (Tip.tok 1), AV.sl 1 (Seq.map encI (0 : Int) L) (Tip.tok 2)], AObj.tok, AObj.tok,
        AObj.cells
        [AV.str { data := List.toArray (Prod.fst x) }, AV.sl 2 (Seq.map T.encS ((0 : Int), (0 : Int)) (Prod.fst (Prod.snd x))) Tip.none,
        AV.bool (Prod.snd (Prod.snd x))],
        AObj.cells
        [AV.str { data := List.toArray (Prod.fst x_2) }, AV.sl 2 (Seq.map T.encS ((0 : Int), (0 : Int)) (Prod.fst (Prod.snd x_2))) Tip.none,
        AV.bool (Prod.snd (Prod.snd x_2))]]
        (q81_7 n_1 Post)))
        (AWP Try.prog 67 n_1 c81_9
        [(0, AV.ptr 0 0), (5, AV.int IntKind.i64 m), (7, AV.ptr 3 0), (8, AV.ptr 4 0),
        (9, AV.int IntKind.i64 (IntKind.wrap IntKind.i64 (j + (1 : Int)))), (12, AV.sl 3 (Seq.map T.encT T.noT c) Tip.none), (13, AV.int IntKind.i64 n),
        (14, AV.int IntKind.i64 i)]
        [AObj.cells [AV.sl 5 (Seq.map T.encTE T.noTE E) (Tip.tok 1), AV.sl 1 (Seq.map encI (0 : Int) L) (Tip.tok 2)], AObj.tok, AObj.tok,
        AObj.cells
        [AV.str { data := List.toArray (Prod.fst x) }, AV.sl 2 (Seq.map T.encS ((0 : Int), (0 : Int)) (Prod.fst (Prod.snd x))) Tip.none, AV.bool (Prod.snd (Prod.snd x))],
        AObj.cells
        [AV.str { data := List.toArray (Prod.fst k) }, AV.sl 2 (Seq.map T.encS ((0 : Int), (0 : Int)) (Prod.fst (Prod.snd k))) Tip.none, AV.bool (Prod.snd (Prod.snd k))]]
        (q81_7 n_1 Post))))
        (ASpec Try.prog 161
        [AV.agg [AV.str { data := List.toArray (Prod.fst k) }, AV.sl 2 (Seq.map T.encS ((0 : Int), (0 : Int)) (Prod.fst (Prod.snd k))) Tip.none, AV.bool (Prod.snd (Prod.snd k))],
        AV.agg [AV.str { data := List.toArray (Prod.fst x) }, AV.sl 2 (Seq.map T.encS ((0 : Int), (0 : Int)) (Prod.fst (Prod.snd x))) Tip.none, AV.bool (Prod.snd (Prod.snd x))]]
        [AObj.cells [AV.sl 5 (Seq.map T.encTE T.noTE E) (Tip.tok 1), AV.sl 1 (Seq.map encI (0 : Int) L) (Tip.tok 2)], AObj.tok, AObj.tok,
        AObj.cells
        [AV.str { data := List.toArray (Prod.fst x) }, AV.sl 2 (Seq.map T.encS ((0 : Int), (0 : Int)) (Prod.fst (Prod.snd x))) Tip.none, AV.bool (Prod.snd (Prod.snd x))],
        AObj.cells
        [AV.str { data := List.toArray (Prod.fst k) }, AV.sl 2 (Seq.map T.encS ((0 : Int), (0 : Int)) (Prod.fst (Prod.snd k))) Tip.none, AV.bool (Prod.snd (Prod.snd k))]]
        fun (r : AV) (H' : List AObj) =>
        ∃ (x_2 : Bool),
        r = AV.bool x_2 ∧
        H' =
        [AObj.cells [AV.sl 5 (Seq.map T.encTE T.noTE E) (Tip.tok 1), AV.sl 1 (Seq.map encI (0 : Int) L) (Tip.tok 2)], AObj.tok, AObj.tok,
        AObj.cells
        [AV.str { data := List.toArray (Prod.fst x) }, AV.sl 2 (Seq.map T.encS ((0 : Int), (0 : Int)) (Prod.fst (Prod.snd x))) Tip.none, AV.bool (Prod.snd (Prod.snd x))],
        AObj.cells
        [AV.str { data := List.toArray (Prod.fst k) }, AV.sl 2 (Seq.map T.encS ((0 : Int), (0 : Int)) (Prod.fst (Prod.snd k))) Tip.none,
        AV.bool (Prod.snd (Prod.snd k))]] ∧
        condP (!x_2)
        (Post (AV.int IntKind.i64 (-1 : Int))
        [AObj.cells [AV.sl 5 (Seq.map T.encTE T.noTE E) (Tip.tok 1), AV.sl 1 (Seq.map encI (0 : Int) L) (Tip.tok 2)], AObj.tok, AObj.tok,
        AObj.cells
        [AV.str { data := List.toArray (Prod.fst x) }, AV.sl 2 (Seq.map T.encS ((0 : Int), (0 : Int)) (Prod.fst (Prod.snd x))) Tip.none,
        AV.bool (Prod.snd (Prod.snd x))],
        AObj.cells
        [AV.str { data := List.toArray (Prod.fst k) }, AV.sl 2 (Seq.map T.encS ((0 : Int), (0 : Int)) (Prod.fst (Prod.snd k))) Tip.none,
        AV.bool (Prod.snd (Prod.snd k))]])
        (AWP Try.prog 67 n_1 c81_5
        [(0, AV.ptr 0 0), (5, AV.int IntKind.i64 (if j > m then j else m)), (12, AV.sl 3 (Seq.map T.encT T.noT c) Tip.none),
        (13, AV.int IntKind.i64 n), (14, AV.int IntKind.i64 (IntKind.wrap IntKind.i64 (i + (1 : Int))))]
        [AObj.cells [AV.sl 5 (Seq.map T.encTE T.noTE E) (Tip.tok 1), AV.sl 1 (Seq.map encI (0 : Int) L) (Tip.tok 2)], AObj.tok, AObj.tok,
        AObj.cells
        [AV.str { data := List.toArray (Prod.fst x) }, AV.sl 2 (Seq.map T.encS ((0 : Int), (0 : Int)) (Prod.fst (Prod.snd x))) Tip.none,
        AV.bool (Prod.snd (Prod.snd x))],
        AObj.cells
        [AV.str { data := List.toArray (Prod.fst k) }, AV.sl 2 (Seq.map T.encS ((0 : Int), (0 : Int)) (Prod.fst (Prod.snd k))) Tip.none,
        AV.bool (Prod.snd (Prod.snd k))]]
        (q81_2 n_1 Post))))
      (ASpec Try.prog 161
        [AV.agg [AV.str { data := List.toArray (Prod.fst k) }, AV.sl 2 (Seq.map T.encS ((0 : Int), (0 : Int)) (Prod.fst (Prod.snd k))) Tip.none, AV.bool (Prod.snd (Prod.snd k))],
        AV.agg [AV.str { data := List.toArray (Prod.fst x) }, AV.sl 2 (Seq.map T.encS ((0 : Int), (0 : Int)) (Prod.fst (Prod.snd x))) Tip.none, AV.bool (Prod.snd (Prod.snd x))]]
        [AObj.cells [AV.sl 5 (Seq.map T.encTE T.noTE E) (Tip.tok 1), AV.sl 1 (Seq.map encI (0 : Int) L) (Tip.tok 2)], AObj.tok, AObj.tok,
        AObj.cells [AV.str { data := List.toArray (Prod.fst x) }, AV.sl 2 (Seq.map T.encS ((0 : Int), (0 : Int)) (Prod.fst (Prod.snd x))) Tip.none, AV.bool (Prod.snd (Prod.snd x))],
        AObj.cells [AV.str { data := List.toArray (Prod.fst k) }, AV.sl 2 (Seq.map T.encS ((0 : Int), (0 : Int)) (Prod.fst (Prod.snd k))) Tip.none, AV.bool (Prod.snd (Prod.snd k))]]
        fun (r : AV) (H' : List AObj) =>
        ∃ (x_1 : Bool),
        r = AV.bool x_1 ∧
        H' =
        [AObj.cells [AV.sl 5 (Seq.map T.encTE T.noTE E) (Tip.tok 1), AV.sl 1 (Seq.map encI (0 : Int) L) (Tip.tok 2)], AObj.tok, AObj.tok,
        AObj.cells [AV.str { data := List.toArray (Prod.fst x) }, AV.sl 2 (Seq.map T.encS ((0 : Int), (0 : Int)) (Prod.fst (Prod.snd x))) Tip.none, AV.bool (Prod.snd (Prod.snd x))],
        AObj.cells
        [AV.str { data := List.toArray (Prod.fst k) }, AV.sl 2 (Seq.map T.encS ((0 : Int), (0 : Int)) (Prod.fst (Prod.snd k))) Tip.none, AV.bool (Prod.snd (Prod.snd k))]] ∧
        condP (!x_1)
        (Post (AV.int IntKind.i64 (-1 : Int))
        [AObj.cells [AV.sl 5 (Seq.map T.encTE T.noTE E) (Tip.tok 1), AV.sl 1 (Seq.map encI (0 : Int) L) (Tip.tok 2)], AObj.tok, AObj.tok,
        AObj.cells
        [AV.str { data := List.toArray (Prod.fst x) }, AV.sl 2 (Seq.map T.encS ((0 : Int), (0 : Int)) (Prod.fst (Prod.snd x))) Tip.none, AV.bool (Prod.snd (Prod.snd x))],
        AObj.cells
        [AV.str { data := List.toArray (Prod.fst k) }, AV.sl 2 (Seq.map T.encS ((0 : Int), (0 : Int)) (Prod.fst (Prod.snd k))) Tip.none, AV.bool (Prod.snd (Prod.snd k))]])
        (AWP Try.prog 67 n_1 c81_5
        [(0, AV.ptr 0 0), (5, AV.int IntKind.i64 (if j > m then j else m)), (12, AV.sl 3 (Seq.map T.encT T.noT c) Tip.none),
        (13, AV.int IntKind.i64 n), (14, AV.int IntKind.i64 (IntKind.wrap IntKind.i64 (i + (1 : Int))))]
        [AObj.cells [AV.sl 5 (Seq.map T.encTE T.noTE E) (Tip.tok 1), AV.sl 1 (Seq.map encI (0 : Int) L) (Tip.tok 2)], AObj.tok, AObj.tok,
        AObj.cells
        [AV.str { data := List.toArray (Prod.fst x) }, AV.sl 2 (Seq.map T.encS ((0 : Int), (0 : Int)) (Prod.fst (Prod.snd x))) Tip.none, AV.bool (Prod.snd (Prod.snd x))],
        AObj.cells
        [AV.str { data := List.toArray (Prod.fst k) }, AV.sl 2 (Seq.map T.encS ((0 : Int), (0 : Int)) (Prod.fst (Prod.snd k))) Tip.none, AV.bool (Prod.snd (Prod.snd k))]]
        (q81_2 n_1 Post))) →
    AWP Try.prog 67 n_1 c81_9
      [(0, AV.ptr 0 0), (5, AV.int IntKind.i64 m), (7, AV.ptr 3 0), (8, AV.ptr 4 0), (9, AV.int IntKind.i64 j),
        (12, AV.sl 3 (Seq.map T.encT T.noT c) Tip.none), (13, AV.int IntKind.i64 n), (14, AV.int IntKind.i64 i)]
      (T.HT E L ++ [AObj.cells (T.encT x), AObj.cells (T.encT k)]) (q81_7 n_1 Post) := fun E L c x k m j n i n Post h => Go.Ab.AWP.loop' g81 (Cfg.live g81) c81_9 (by kernel_rfl) (by kernel_rfl) (Go.Ab.kc (by kernel_rfl) h)

end
end Tx
end

section
/- The document's trail as cells. -/

open Go Go.Ab Go.Proofs
namespace T
/-- entries and the level -/
abbrev Xt := List TE × Int
noncomputable def encXt (x : Xt) : List AV := [.sl 5 (.map encTE noTE x.1) .none, .int .i64 x.2]
end T
end

section
/- Printed: what the code of functions 77, 78, 83, 196, 203, 208, 286, 288, 87, 207, 287, 197, 198, 199, 205, 85, 204, 293, 334 asks for, by the framework's own reading of it; each line is checked against the code. -/

set_option linter.unusedVariables false
set_option maxRecDepth 100000
set_option maxHeartbeats 4000000
open Go Go.Ab Go.Proofs
namespace Td
noncomputable section

noncomputable def addP (args : List AV) (H : List AObj) (o : AObj) : List AObj := match args with
  | .ptr id _ :: _ => H.set id o
  | _ => H
noncomputable def retD : List (Nat × Ret) := [
  (77, ⟨Bool, fun _ _ x => .bool x, fun _ H _ => H⟩), (78, ⟨Bool, fun _ _ x => .bool x, fun _ H _ => H⟩), (83, ⟨Bool, fun _ _ x => .bool x, fun _ H _ => H⟩), (196, ⟨Bool, fun _ _ x => .bool x, fun _ H _ => H⟩), (286, ⟨Bool, fun _ _ x => .bool x, fun _ H _ => H⟩), (204, ⟨Bool, fun _ _ x => .bool x, fun _ H _ => H⟩), (203, ⟨List T.Span, fun _ _ x => .sl 2 (.map T.encS (0, 0) x) .none, fun _ H _ => H⟩), (288, ⟨List T.Span, fun _ _ x => .sl 2 (.map T.encS (0, 0) x) .none, fun _ H _ => H⟩), (208, ⟨T.Term, fun _ _ x => .agg (T.encT x), fun _ H _ => H⟩), (87, ⟨T.Term, fun _ _ x => .agg (T.encT x), fun _ H _ => H⟩), (207, ⟨T.Term, fun _ _ x => .agg (T.encT x), fun _ H _ => H⟩), (205, ⟨List T.Pk, fun _ _ x => .sl 2 (.map T.encPk T.noPk x) .none, fun _ H _ => H⟩), (293, ⟨List T.Pk, fun _ _ x => .sl 2 (.map T.encPk T.noPk x) .none, fun _ H _ => H⟩), (334, ⟨List T.Pk, fun _ _ x => .sl 2 (.map T.encPk T.noPk x) .none, fun _ H _ => H⟩),
  (85, ⟨Int, fun _ _ x => .int .i64 x, fun _ H _ => H⟩),
  (287, ⟨T.Xt, fun _ _ _ => .tup [], fun a H x => addP a H (.cells (T.encXt x))⟩), (199, ⟨T.Xt, fun _ _ _ => .tup [], fun a H x => addP a H (.cells (T.encXt x))⟩),
  (197, ⟨Int × T.Xt, fun _ _ x => .int .i64 x.1, fun a H x => addP a H (.cells (T.encXt x.2))⟩), (198, ⟨Int × T.Xt, fun _ _ x => .int .i64 x.1, fun a H x => addP a H (.cells (T.encXt x.2))⟩)]
noncomputable def rets : FuncId → List Ret := fun f => match lookupR retD f with
  | [] => Tl.rets f
  | l => l

-- 77
noncomputable def l77 : Nat → List Nat
  | 4 => [0, 3]
  | _ => []
noncomputable def u77 : Nat → Bool
  | _ => false
noncomputable def m77 : Nat → Bool
  | _ => false
noncomputable def g77 : Cfg := { N := 18, live := l77, cut := u77, mu := m77, ret := rets }
noncomputable def c77 : Go.Code := Go.Ab.bodyOf Go.Proofs.Try.f77
noncomputable def q77_0 : Nat → (AV → List AObj → Prop) → AQ := fun (n : Nat) (Post : AV → List AObj → Prop) => endQ Try.prog (resultsOf Try.f77) Post
noncomputable def q77_1 : Nat → (AV → List AObj → Prop) → AQ := fun (n : Nat) (Post : AV → List AObj → Prop) => seqQ (fun (s' : Slots) (H' : List AObj) => awp Try.prog g77 n (codeSnd (codeSnd (codeSnd c77))) s' H' (q77_0 n Post)) (q77_0 n Post)
noncomputable def q77_2 : Nat → (AV → List AObj → Prop) → AQ := fun (n : Nat) (Post : AV → List AObj → Prop) => blockQ 0 (q77_1 n Post)
noncomputable def c77_4 : Go.Code := codeFst (codeSnd (codeFst (codeSnd (codeSnd c77))))
theorem s77 : ∀ (c : List T.Term) (Post : AV → List AObj → Prop),
  condP (decide ((↑(List.length c) : Int) > (40 : Int))) (Post (AV.bool true) [])
      (AWP Try.prog 18 0 c77_4 [(0, AV.sl 3 (Seq.map T.encT T.noT c) Tip.none), (3, AV.int IntKind.i64 (0 : Int))] [] (q77_2 0 Post)) →
    ASpec Try.prog 77 [AV.sl 3 (Seq.map T.encT T.noT c) Tip.none] [] Post := fun c Post h => Go.Ab.ASpec.of_vc g77 Go.Proofs.Try.func77 (by kernel_rfl) (by kernel_rfl) (by kernel_rfl) (Go.Ab.kc (by kernel_rfl) h)
theorem v77_4 : ∀ (c : List T.Term) (i : Int) (n : Nat) (Post : AV → List AObj → Prop),
  condP (decide (i < (↑(List.length c) : Int)))
      (needP ((0 : Int) ≤ i ∧ i < (↑(List.length c) : Int))
        (ASpec Try.prog 153
        [AV.agg
        [AV.str { data := List.toArray (Prod.fst (List.getD c (Int.toNat i) T.noT)) },
        AV.sl 2 (Seq.map T.encS ((0 : Int), (0 : Int)) (Prod.fst (Prod.snd (List.getD c (Int.toNat i) T.noT)))) Tip.none,
        AV.bool (Prod.snd (Prod.snd (List.getD c (Int.toNat i) T.noT)))]]
        [] fun (r : AV) (H' : List AObj) =>
        ∃ (x : Bool),
        r = AV.bool x ∧
        H' = [] ∧
        condP x (Post (AV.bool true) [])
        (AWP Try.prog 18 n c77_4 [(0, AV.sl 3 (Seq.map T.encT T.noT c) Tip.none), (3, AV.int IntKind.i64 (IntKind.wrap IntKind.i64 (i + (1 : Int))))] []
        (q77_2 n Post))))
      (Post (AV.bool false) []) →
    AWP Try.prog 18 n c77_4 [(0, AV.sl 3 (Seq.map T.encT T.noT c) Tip.none), (3, AV.int IntKind.i64 i)] [] (q77_2 n Post) := fun c i n Post h => Go.Ab.AWP.loop' g77 (Cfg.live g77) c77_4 (by kernel_rfl) (by kernel_rfl) (Go.Ab.kc (by kernel_rfl) h)

-- 78
noncomputable def l78 : Nat → List Nat
  | 2 => [0, 3]
  | _ => []
noncomputable def u78 : Nat → Bool
  | _ => false
noncomputable def m78 : Nat → Bool
  | _ => false
noncomputable def g78 : Cfg := { N := 48, live := l78, cut := u78, mu := m78, ret := rets }
noncomputable def c78 : Go.Code := Go.Ab.bodyOf Go.Proofs.Try.f78
noncomputable def q78_0 : Nat → (AV → List AObj → Prop) → AQ := fun (n : Nat) (Post : AV → List AObj → Prop) => endQ Try.prog (resultsOf Try.f78) Post
noncomputable def q78_1 : Nat → (AV → List AObj → Prop) → AQ := fun (n : Nat) (Post : AV → List AObj → Prop) => seqQ (fun (s' : Slots) (H' : List AObj) => awp Try.prog g78 n (codeSnd (codeSnd c78)) s' H' (q78_0 n Post)) (q78_0 n Post)
noncomputable def q78_2 : Nat → (AV → List AObj → Prop) → AQ := fun (n : Nat) (Post : AV → List AObj → Prop) => blockQ 0 (q78_1 n Post)
noncomputable def c78_2 : Go.Code := codeFst (codeSnd (codeFst (codeSnd c78)))
theorem s78 : ∀ (c : List T.Term) (Post : AV → List AObj → Prop),
  AWP Try.prog 48 0 c78_2 [(0, AV.sl 3 (Seq.map T.encT T.noT c) Tip.none), (3, AV.int IntKind.i64 (0 : Int))] [] (q78_2 0 Post) →
    ASpec Try.prog 78 [AV.sl 3 (Seq.map T.encT T.noT c) Tip.none] [] Post := fun c Post h => Go.Ab.ASpec.of_vc g78 Go.Proofs.Try.func78 (by kernel_rfl) (by kernel_rfl) (by kernel_rfl) (Go.Ab.kc (by kernel_rfl) h)
theorem v78_2 : ∀ (c : List T.Term) (i : Int) (n : Nat) (Post : AV → List AObj → Prop),
  condP (decide (i < (↑(List.length c) : Int)))
      (needP ((0 : Int) ≤ i ∧ i < (↑(List.length c) : Int))
        (ASpec Try.prog 196
        [AV.agg
        [AV.str { data := List.toArray (Prod.fst (List.getD c (Int.toNat i) T.noT)) },
        AV.sl 2 (Seq.map T.encS ((0 : Int), (0 : Int)) (Prod.fst (Prod.snd (List.getD c (Int.toNat i) T.noT)))) Tip.none,
        AV.bool (Prod.snd (Prod.snd (List.getD c (Int.toNat i) T.noT)))]]
        [] fun (r : AV) (H' : List AObj) =>
        ∃ (x : Bool),
        r = AV.bool x ∧
        H' = [] ∧
        condP (!x) (Post (AV.bool false) [])
        (needP ((0 : Int) ≤ i ∧ i < (↑(List.length c) : Int))
        (ASpec Try.prog 83
        [AV.agg
        [AV.str { data := List.toArray (Prod.fst (List.getD c (Int.toNat i) T.noT)) },
        AV.sl 2 (Seq.map T.encS ((0 : Int), (0 : Int)) (Prod.fst (Prod.snd (List.getD c (Int.toNat i) T.noT)))) Tip.none,
        AV.bool (Prod.snd (Prod.snd (List.getD c (Int.toNat i) T.noT)))]]
        [] fun (r : AV) (H' : List AObj) =>
        ∃ (x : Bool),
        r = AV.bool x ∧
        H' = [] ∧
        condP x (Post (AV.bool false) [])
        (needP ((0 : Int) ≤ i ∧ i < (↑(List.length c) : Int))
        (ASpec Try.prog 34
        [AV.agg
        [AV.str { data := List.toArray (Prod.fst (List.getD c (Int.toNat i) T.noT)) },
        AV.sl 2 (Seq.map T.encS ((0 : Int), (0 : Int)) (Prod.fst (Prod.snd (List.getD c (Int.toNat i) T.noT)))) Tip.none,
        AV.bool (Prod.snd (Prod.snd (List.getD c (Int.toNat i) T.noT)))]]
        [] fun (r : AV) (H' : List AObj) =>
        ∃ (x : Bool),
        r = AV.bool x ∧
        H' = [] ∧
        condP x (Post (AV.bool false) [])
        (condP (decide (i > (0 : Int)))
        (needP ((0 : Int) ≤ i ∧ i < (↑(List.length c) : Int))
        (needP ((0 : Int) ≤ IntKind.wrap IntKind.i64 (i - (1 : Int)) ∧ IntKind.wrap IntKind.i64 (i - (1 : Int)) < (↑(List.length c) : Int))
        (condP
        (Op.bytesLess (ByteArray.toList { data := List.toArray (Prod.fst (List.getD c (Int.toNat i) T.noT)) })
        (ByteArray.toList { data := List.toArray (Prod.fst (List.getD c (Int.toNat (IntKind.wrap IntKind.i64 (i - (1 : Int)))) T.noT)) }) ||
        ByteArray.toList { data := List.toArray (Prod.fst (List.getD c (Int.toNat i) T.noT)) } ==
        ByteArray.toList { data := List.toArray (Prod.fst (List.getD c (Int.toNat (IntKind.wrap IntKind.i64 (i - (1 : Int)))) T.noT)) })
        (Post (AV.bool false) [])
        (AWP Try.prog 48 n c78_2
        [(0, AV.sl 3 (Seq.map T.encT T.noT c) Tip.none), (3, AV.int IntKind.i64 (IntKind.wrap IntKind.i64 (i + (1 : Int))))] []
        (q78_2 n Post)))))
        (AWP Try.prog 48 n c78_2
        [(0, AV.sl 3 (Seq.map T.encT T.noT c) Tip.none), (3, AV.int IntKind.i64 (IntKind.wrap IntKind.i64 (i + (1 : Int))))] []
        (q78_2 n Post)))))))))
      (Post (AV.bool true) []) →
    AWP Try.prog 48 n c78_2 [(0, AV.sl 3 (Seq.map T.encT T.noT c) Tip.none), (3, AV.int IntKind.i64 i)] [] (q78_2 n Post) := fun c i n Post h => Go.Ab.AWP.loop' g78 (Cfg.live g78) c78_2 (by kernel_rfl) (by kernel_rfl) (Go.Ab.kc (by kernel_rfl) h)

-- 83
noncomputable def l83 : Nat → List Nat
  | _ => []
noncomputable def u83 : Nat → Bool
  | _ => false
noncomputable def m83 : Nat → Bool
  | _ => false
noncomputable def g83 : Cfg := { N := 11, live := l83, cut := u83, mu := m83, ret := rets }
theorem s83 : ∀ (t : T.Term) (Post : AV → List AObj → Prop),
  condP (Prod.snd (Prod.snd t))
      (ASpec Try.prog 203 []
        [AObj.cells [AV.str { data := List.toArray (Prod.fst t) }, AV.sl 2 (Seq.map T.encS ((0 : Int), (0 : Int)) (Prod.fst (Prod.snd t))) Tip.none, AV.bool (Prod.snd (Prod.snd t))]]
        fun (r : AV) (H' : List AObj) =>
        ∃ (x : List T.Span),
        r = AV.sl 2 (Seq.map T.encS ((0 : Int), (0 : Int)) x) Tip.none ∧
        H' =
        [AObj.cells [AV.str { data := List.toArray (Prod.fst t) }, AV.sl 2 (Seq.map T.encS ((0 : Int), (0 : Int)) (Prod.fst (Prod.snd t))) Tip.none, AV.bool (Prod.snd (Prod.snd t))]] ∧
        (AV.sl 2 (Seq.map T.encS ((0 : Int), (0 : Int)) (Prod.fst (Prod.snd t))) Tip.none = AV.sl 2 (Seq.map T.encS ((0 : Int), (0 : Int)) (Prod.fst (Prod.snd t))) Tip.none ∧
        [AObj.cells
        [AV.str { data := List.toArray (Prod.fst t) }, AV.sl 2 (Seq.map T.encS ((0 : Int), (0 : Int)) (Prod.fst (Prod.snd t))) Tip.none, AV.bool (Prod.snd (Prod.snd t))]] =
        [AObj.cells
        [AV.str { data := List.toArray (Prod.fst t) }, AV.sl 2 (Seq.map T.encS ((0 : Int), (0 : Int)) (Prod.fst (Prod.snd t))) Tip.none, AV.bool (Prod.snd (Prod.snd t))]]) ∧
        ASpec Try.prog 163
        [AV.sl 2 (Seq.map T.encS ((0 : Int), (0 : Int)) (Prod.fst (Prod.snd t))) Tip.none, AV.sl 2 (Seq.map T.encS ((0 : Int), (0 : Int)) x) Tip.none]
        [AObj.cells [AV.str { data := List.toArray (Prod.fst t) }, AV.sl 2 (Seq.map T.encS ((0 : Int), (0 : Int)) (Prod.fst (Prod.snd t))) Tip.none, AV.bool (Prod.snd (Prod.snd t))]]
        fun (r : AV) (H' : List AObj) =>
        ∃ (x : Bool),
        r = AV.bool x ∧
        H' =
        [AObj.cells
        [AV.str { data := List.toArray (Prod.fst t) }, AV.sl 2 (Seq.map T.encS ((0 : Int), (0 : Int)) (Prod.fst (Prod.snd t))) Tip.none,
        AV.bool (Prod.snd (Prod.snd t))]] ∧
        Post (AV.bool x)
        [AObj.cells
        [AV.str { data := List.toArray (Prod.fst t) }, AV.sl 2 (Seq.map T.encS ((0 : Int), (0 : Int)) (Prod.fst (Prod.snd t))) Tip.none,
        AV.bool (Prod.snd (Prod.snd t))]])
      (AV.tup [] = AV.tup [] ∧
        Post (AV.bool false)
        [AObj.cells [AV.str { data := List.toArray (Prod.fst t) }, AV.sl 2 (Seq.map T.encS ((0 : Int), (0 : Int)) (Prod.fst (Prod.snd t))) Tip.none, AV.bool (Prod.snd (Prod.snd t))]]) →
    ASpec Try.prog 83 [AV.agg (T.encT t)] [] Post := fun t Post h => Go.Ab.ASpec.of_vc g83 Go.Proofs.Try.func83 (by kernel_rfl) (by kernel_rfl) (by kernel_rfl) (Go.Ab.kc (by kernel_rfl) h)

-- 196
noncomputable def l196 : Nat → List Nat
  | _ => []
noncomputable def u196 : Nat → Bool
  | _ => false
noncomputable def m196 : Nat → Bool
  | _ => false
noncomputable def g196 : Cfg := { N := 11, live := l196, cut := u196, mu := m196, ret := rets }
theorem s196 : ∀ (t : T.Term) (Post : AV → List AObj → Prop),
  (ASpec Try.prog 39 [AV.str { data := List.toArray (Prod.fst t) }]
      [AObj.cells [AV.str { data := List.toArray (Prod.fst t) }, AV.sl 2 (Seq.map T.encS ((0 : Int), (0 : Int)) (Prod.fst (Prod.snd t))) Tip.none, AV.bool (Prod.snd (Prod.snd t))]]
      fun (r : AV) (H' : List AObj) =>
      ∃ (x : Bool),
        r = AV.bool x ∧
        H' = [AObj.cells [AV.str { data := List.toArray (Prod.fst t) }, AV.sl 2 (Seq.map T.encS ((0 : Int), (0 : Int)) (Prod.fst (Prod.snd t))) Tip.none, AV.bool (Prod.snd (Prod.snd t))]] ∧
        condP x
        (ASpec Try.prog 285 [AV.sl 2 (Seq.map T.encS ((0 : Int), (0 : Int)) (Prod.fst (Prod.snd t))) Tip.none]
        [AObj.cells [AV.str { data := List.toArray (Prod.fst t) }, AV.sl 2 (Seq.map T.encS ((0 : Int), (0 : Int)) (Prod.fst (Prod.snd t))) Tip.none, AV.bool (Prod.snd (Prod.snd t))]]
        fun (r : AV) (H' : List AObj) =>
        ∃ (x : Bool),
        r = AV.bool x ∧
        H' =
        [AObj.cells
        [AV.str { data := List.toArray (Prod.fst t) }, AV.sl 2 (Seq.map T.encS ((0 : Int), (0 : Int)) (Prod.fst (Prod.snd t))) Tip.none, AV.bool (Prod.snd (Prod.snd t))]] ∧
        Post (AV.bool x)
        [AObj.cells
        [AV.str { data := List.toArray (Prod.fst t) }, AV.sl 2 (Seq.map T.encS ((0 : Int), (0 : Int)) (Prod.fst (Prod.snd t))) Tip.none, AV.bool (Prod.snd (Prod.snd t))]])
        (Post (AV.bool false)
        [AObj.cells
        [AV.str { data := List.toArray (Prod.fst t) }, AV.sl 2 (Seq.map T.encS ((0 : Int), (0 : Int)) (Prod.fst (Prod.snd t))) Tip.none, AV.bool (Prod.snd (Prod.snd t))]])) →
    ASpec Try.prog 196 [AV.agg (T.encT t)] [] Post := fun t Post h => Go.Ab.ASpec.of_vc g196 Go.Proofs.Try.func196 (by kernel_rfl) (by kernel_rfl) (by kernel_rfl) (Go.Ab.kc (by kernel_rfl) h)

-- 203
noncomputable def l203 : Nat → List Nat
  | _ => []
noncomputable def u203 : Nat → Bool
  | _ => false
noncomputable def m203 : Nat → Bool
  | _ => false
noncomputable def g203 : Cfg := { N := 3, live := l203, cut := u203, mu := m203, ret := rets }
theorem s203 : ∀ (Post : AV → List AObj → Prop), Post (AV.sl 2 (Seq.raw [[AV.int IntKind.i64 (0 : Int), AV.int IntKind.i64 (1000000000 : Int)]]) Tip.full) [] → ASpec Try.prog 203 [] [] Post := fun Post h => Go.Ab.ASpec.of_vc g203 Go.Proofs.Try.func203 (by kernel_rfl) (by kernel_rfl) (by kernel_rfl) (Go.Ab.kc (by kernel_rfl) h)

-- 208
noncomputable def l208 : Nat → List Nat
  | _ => []
noncomputable def u208 : Nat → Bool
  | _ => false
noncomputable def m208 : Nat → Bool
  | _ => false
noncomputable def g208 : Cfg := { N := 25, live := l208, cut := u208, mu := m208, ret := rets }
theorem s208 : ∀ (a b : T.Term) (Post : AV → List AObj → Prop),
  condP (!ByteArray.toList { data := List.toArray (Prod.fst a) } == ByteArray.toList { data := List.toArray (Prod.fst b) })
      (Post (AV.agg [AV.str { data := #[] }, AV.sl 0 (Seq.raw []) Tip.nil, AV.bool false])
        [AObj.cells [AV.str { data := List.toArray (Prod.fst a) }, AV.sl 2 (Seq.map T.encS ((0 : Int), (0 : Int)) (Prod.fst (Prod.snd a))) Tip.none, AV.bool (Prod.snd (Prod.snd a))],
        AObj.cells [AV.str { data := List.toArray (Prod.fst b) }, AV.sl 2 (Seq.map T.encS ((0 : Int), (0 : Int)) (Prod.fst (Prod.snd b))) Tip.none, AV.bool (Prod.snd (Prod.snd b))],
        AObj.cells [AV.str { data := #[] }, AV.sl 0 (Seq.raw []) Tip.nil, AV.bool false]])
      (ASpec Try.prog 260
        [AV.sl 2 (Seq.map T.encS ((0 : Int), (0 : Int)) (Prod.fst (Prod.snd a))) Tip.none, AV.sl 2 (Seq.map T.encS ((0 : Int), (0 : Int)) (Prod.fst (Prod.snd b))) Tip.none]
        [AObj.cells [AV.str { data := List.toArray (Prod.fst a) }, AV.sl 2 (Seq.map T.encS ((0 : Int), (0 : Int)) (Prod.fst (Prod.snd a))) Tip.none, AV.bool (Prod.snd (Prod.snd a))],
        AObj.cells [AV.str { data := List.toArray (Prod.fst b) }, AV.sl 2 (Seq.map T.encS ((0 : Int), (0 : Int)) (Prod.fst (Prod.snd b))) Tip.none, AV.bool (Prod.snd (Prod.snd b))],
        AObj.cells [AV.str { data := #[] }, AV.sl 0 (Seq.raw []) Tip.nil, AV.bool false]]
        fun (r : AV) (H' : List AObj) =>
        ∃ (x : List T.Span),
        r = AV.sl 2 (Seq.map T.encS ((0 : Int), (0 : Int)) x) Tip.none ∧
        H' =
        [AObj.cells [AV.str { data := List.toArray (Prod.fst a) }, AV.sl 2 (Seq.map T.encS ((0 : Int), (0 : Int)) (Prod.fst (Prod.snd a))) Tip.none, AV.bool (Prod.snd (Prod.snd a))],
        AObj.cells [AV.str { data := List.toArray (Prod.fst b) }, AV.sl 2 (Seq.map T.encS ((0 : Int), (0 : Int)) (Prod.fst (Prod.snd b))) Tip.none, AV.bool (Prod.snd (Prod.snd b))],
        AObj.cells [AV.str { data := #[] }, AV.sl 0 (Seq.raw []) Tip.nil, AV.bool false]] ∧
        (AV.bool (Prod.snd (Prod.snd a)) = AV.bool (Prod.snd (Prod.snd a)) ∧
        [AObj.cells [AV.str { data := List.toArray (Prod.fst a) }, AV.sl 2 (Seq.map T.encS ((0 : Int), (0 : Int)) (Prod.fst (Prod.snd a))) Tip.none, AV.bool (Prod.snd (Prod.snd a))],
        AObj.cells
        [AV.str { data := List.toArray (Prod.fst b) }, AV.sl 2 (Seq.map T.encS ((0 : Int), (0 : Int)) (Prod.fst (Prod.snd b))) Tip.none, AV.bool (Prod.snd (Prod.snd b))],
        AObj.cells [AV.str { data := #[] }, AV.sl 0 (Seq.raw []) Tip.nil, AV.bool false]] =
        [AObj.cells
        [AV.str { data := List.toArray (Prod.fst a) }, AV.sl 2 (Seq.map T.encS ((0 : Int), (0 : Int)) (Prod.fst (Prod.snd a))) Tip.none, AV.bool (Prod.snd (Prod.snd a))],
        AObj.cells
        [AV.str { data := List.toArray (Prod.fst b) }, AV.sl 2 (Seq.map T.encS ((0 : Int), (0 : Int)) (Prod.fst (Prod.snd b))) Tip.none, AV.bool (Prod.snd (Prod.snd b))],
        AObj.cells [AV.str { data := #[] }, AV.sl 0 (Seq.raw []) Tip.nil, AV.bool false]]) ∧
        (AV.str { data := List.toArray (Prod.fst a) } = AV.str { data := List.toArray (Prod.fst a) } ∧
        [AObj.cells
        [AV.str { data := List.toArray (Prod.fst a) }, AV.sl 2 (Seq.map T.encS ((0 : Int), (0 : Int)) (Prod.fst (Prod.snd a))) Tip.none, AV.bool (Prod.snd (Prod.snd a))],
        AObj.cells
        [AV.str { data := List.toArray (Prod.fst b) }, AV.sl 2 (Seq.map T.encS ((0 : Int), (0 : Int)) (Prod.fst (Prod.snd b))) Tip.none, AV.bool (Prod.snd (Prod.snd b))],
        AObj.cells [AV.str { data := #[] }, AV.sl 0 (Seq.raw []) Tip.nil, AV.bool false]] =
        [AObj.cells
        [AV.str { data := List.toArray (Prod.fst a) }, AV.sl 2 (Seq.map T.encS ((0 : Int), (0 : Int)) (Prod.fst (Prod.snd a))) Tip.none, AV.bool (Prod.snd (Prod.snd a))],
        AObj.cells
        [AV.str { data := List.toArray (Prod.fst b) }, AV.sl 2 (Seq.map T.encS ((0 : Int), (0 : Int)) (Prod.fst (Prod.snd b))) Tip.none, AV.bool (Prod.snd (Prod.snd b))],
        AObj.cells [AV.str { data := #[] }, AV.sl 0 (Seq.raw []) Tip.nil, AV.bool false]]) ∧
        condP (Prod.snd (Prod.snd a))
        (Post (AV.agg [AV.str { data := List.toArray (Prod.fst a) }, AV.sl 2 (Seq.map T.encS ((0 : Int), (0 : Int)) x) Tip.none, AV.bool (Prod.snd (Prod.snd b))])
        [AObj.cells
        [AV.str { data := List.toArray (Prod.fst a) }, AV.sl 2 (Seq.map T.encS ((0 : Int), (0 : Int)) (Prod.fst (Prod.snd a))) Tip.none, AV.bool (Prod.snd (Prod.snd a))],
        AObj.cells
        [AV.str { data := List.toArray (Prod.fst b) }, AV.sl 2 (Seq.map T.encS ((0 : Int), (0 : Int)) (Prod.fst (Prod.snd b))) Tip.none, AV.bool (Prod.snd (Prod.snd b))],
        AObj.cells [AV.str { data := List.toArray (Prod.fst a) }, AV.sl 2 (Seq.map T.encS ((0 : Int), (0 : Int)) x) Tip.none, AV.bool (Prod.snd (Prod.snd b))]])
        (Post (AV.agg [AV.str { data := List.toArray (Prod.fst a) }, AV.sl 2 (Seq.map T.encS ((0 : Int), (0 : Int)) x) Tip.none, AV.bool false])
        [AObj.cells
        [AV.str { data := List.toArray (Prod.fst a) }, AV.sl 2 (Seq.map T.encS ((0 : Int), (0 : Int)) (Prod.fst (Prod.snd a))) Tip.none, AV.bool (Prod.snd (Prod.snd a))],
        AObj.cells
        [AV.str { data := List.toArray (Prod.fst b) }, AV.sl 2 (Seq.map T.encS ((0 : Int), (0 : Int)) (Prod.fst (Prod.snd b))) Tip.none, AV.bool (Prod.snd (Prod.snd b))],
        AObj.cells [AV.str { data := List.toArray (Prod.fst a) }, AV.sl 2 (Seq.map T.encS ((0 : Int), (0 : Int)) x) Tip.none, AV.bool false]])) →
    ASpec Try.prog 208 [AV.agg (T.encT a), AV.agg (T.encT b)] [] Post := fun a b Post h => Go.Ab.ASpec.of_vc g208 Go.Proofs.Try.func208 (by kernel_rfl) (by kernel_rfl) (by kernel_rfl) (Go.Ab.kc (by kernel_rfl) h)

-- 286
noncomputable def l286 : Nat → List Nat
  | _ => []
noncomputable def u286 : Nat → Bool
  | _ => false
noncomputable def m286 : Nat → Bool
  | _ => false
noncomputable def g286 : Cfg := { N := 14, live := l286, cut := u286, mu := m286, ret := rets }
theorem s286 : ∀ (t : T.Term) (v : Int) (b : Bool) (Post : AV → List AObj → Prop),
  condP b
      (ASpec Try.prog 331 [AV.sl 2 (Seq.map T.encS ((0 : Int), (0 : Int)) (Prod.fst (Prod.snd t))) Tip.none, AV.int IntKind.i64 v]
        [AObj.cells [AV.str { data := List.toArray (Prod.fst t) }, AV.sl 2 (Seq.map T.encS ((0 : Int), (0 : Int)) (Prod.fst (Prod.snd t))) Tip.none, AV.bool (Prod.snd (Prod.snd t))]]
        fun (r : AV) (H' : List AObj) =>
        ∃ (x : Bool),
        r = AV.bool x ∧
        H' =
        [AObj.cells [AV.str { data := List.toArray (Prod.fst t) }, AV.sl 2 (Seq.map T.encS ((0 : Int), (0 : Int)) (Prod.fst (Prod.snd t))) Tip.none, AV.bool (Prod.snd (Prod.snd t))]] ∧
        Post (AV.bool x)
        [AObj.cells [AV.str { data := List.toArray (Prod.fst t) }, AV.sl 2 (Seq.map T.encS ((0 : Int), (0 : Int)) (Prod.fst (Prod.snd t))) Tip.none, AV.bool (Prod.snd (Prod.snd t))]])
      (Post (AV.bool (Prod.snd (Prod.snd t)))
        [AObj.cells [AV.str { data := List.toArray (Prod.fst t) }, AV.sl 2 (Seq.map T.encS ((0 : Int), (0 : Int)) (Prod.fst (Prod.snd t))) Tip.none, AV.bool (Prod.snd (Prod.snd t))]]) →
    ASpec Try.prog 286 [AV.agg (T.encT t), AV.int IntKind.i64 v, AV.bool b] [] Post := fun t v b Post h => Go.Ab.ASpec.of_vc g286 Go.Proofs.Try.func286 (by kernel_rfl) (by kernel_rfl) (by kernel_rfl) (Go.Ab.kc (by kernel_rfl) h)

-- 288
noncomputable def l288 : Nat → List Nat
  | _ => []
noncomputable def u288 : Nat → Bool
  | _ => false
noncomputable def m288 : Nat → Bool
  | _ => false
noncomputable def g288 : Cfg := { N := 14, live := l288, cut := u288, mu := m288, ret := rets }
theorem s288 : ∀ (v : Int) (Post : AV → List AObj → Prop),
  condP (decide (v < (0 : Int))) (Post (AV.sl 0 (Seq.raw []) Tip.nil) [])
      (condP (decide (v ≥ (1000000000 : Int))) (Post (AV.sl 0 (Seq.raw []) Tip.nil) [])
        (Post (AV.sl 2 (Seq.raw [[AV.int IntKind.i64 v, AV.int IntKind.i64 (IntKind.wrap IntKind.i64 (v + (1 : Int)))]]) Tip.full) [])) →
    ASpec Try.prog 288 [AV.int IntKind.i64 v] [] Post := fun v Post h => Go.Ab.ASpec.of_vc g288 Go.Proofs.Try.func288 (by kernel_rfl) (by kernel_rfl) (by kernel_rfl) (Go.Ab.kc (by kernel_rfl) h)

-- 87
noncomputable def l87 : Nat → List Nat
  | 3 => [1, 2, 3, 6, 7, 8]
  | _ => []
noncomputable def u87 : Nat → Bool
  | _ => false
noncomputable def m87 : Nat → Bool
  | _ => false
noncomputable def g87 : Cfg := { N := 42, live := l87, cut := u87, mu := m87, ret := rets }
noncomputable def c87 : Go.Code := Go.Ab.bodyOf Go.Proofs.Try.f87
noncomputable def q87_0 : Nat → (AV → List AObj → Prop) → AQ := fun (n : Nat) (Post : AV → List AObj → Prop) => endQ Try.prog (resultsOf Try.f87) Post
noncomputable def q87_1 : Nat → (AV → List AObj → Prop) → AQ := fun (n : Nat) (Post : AV → List AObj → Prop) => seqQ (fun (s' : Slots) (H' : List AObj) => awp Try.prog g87 n (codeSnd (codeSnd (codeSnd c87))) s' H' (q87_0 n Post)) (q87_0 n Post)
noncomputable def q87_2 : Nat → (AV → List AObj → Prop) → AQ := fun (n : Nat) (Post : AV → List AObj → Prop) => blockQ 0 (q87_1 n Post)
noncomputable def c87_3 : Go.Code := codeFst (codeSnd (codeFst (codeSnd (codeSnd c87))))
theorem s87 : ∀ (x : T.Xt) (n : Int) (s : List UInt8) (Post : AV → List AObj → Prop),
  (ASpec Try.prog 203 []
      [AObj.cells [AV.sl 5 (Seq.map T.encTE T.noTE (Prod.fst x)) Tip.none, AV.int IntKind.i64 (Prod.snd x)],
        AObj.cells [AV.str { data := #[] }, AV.sl 0 (Seq.raw []) Tip.nil, AV.bool false]]
      fun (r : AV) (H' : List AObj) =>
      ∃ (x_1 : List T.Span),
        r = AV.sl 2 (Seq.map T.encS ((0 : Int), (0 : Int)) x_1) Tip.none ∧
        H' =
        [AObj.cells [AV.sl 5 (Seq.map T.encTE T.noTE (Prod.fst x)) Tip.none, AV.int IntKind.i64 (Prod.snd x)],
        AObj.cells [AV.str { data := #[] }, AV.sl 0 (Seq.raw []) Tip.nil, AV.bool false]] ∧
        AWP Try.prog 42 0 c87_3
        [(1, AV.int IntKind.i64 n), (2, AV.str { data := List.toArray s }), (3, AV.ptr 0 0), (6, AV.ptr 1 0),
        (7, AV.ptr 2 0), (8, AV.int IntKind.i64 (0 : Int))]
        [AObj.cells [AV.sl 5 (Seq.map T.encTE T.noTE (Prod.fst x)) Tip.none, AV.int IntKind.i64 (Prod.snd x)],
        AObj.cells [AV.str { data := #[] }, AV.sl 0 (Seq.raw []) Tip.nil, AV.bool false],
        AObj.cells [AV.str { data := List.toArray s }, AV.sl 2 (Seq.map T.encS ((0 : Int), (0 : Int)) x_1) Tip.none, AV.bool true]]
        (q87_2 0 Post)) →
    ASpec Try.prog 87 [AV.agg (T.encXt x), AV.int IntKind.i64 n, AV.str { data := List.toArray s }] [] Post := fun x n s Post h => Go.Ab.ASpec.of_vc g87 Go.Proofs.Try.func87 (by kernel_rfl) (by kernel_rfl) (by kernel_rfl) (Go.Ab.kc (by kernel_rfl) h)
theorem v87_3 : ∀ (x : T.Xt) (n : Int) (s : List UInt8) (o : T.Term) (i : Int) (n_1 : Nat) (Post : AV → List AObj → Prop),
  condP (decide (i < (↑(List.length (Prod.fst x)) : Int)))
      (condP (decide (i < n))
        (needP ((0 : Int) ≤ i ∧ i < (↑(List.length (Prod.fst x)) : Int))
        (condP (ByteArray.toList { data := List.toArray (Prod.fst (Prod.fst (List.getD (Prod.fst x) (Int.toNat i) T.noTE))) } == ByteArray.toList { data := List.toArray s })
        (needP ((0 : Int) ≤ i ∧ i < (↑(List.length (Prod.fst x)) : Int))
        (ASpec Try.prog 208
        [AV.agg [AV.str { data := List.toArray (Prod.fst o) }, AV.sl 2 (Seq.map T.encS ((0 : Int), (0 : Int)) (Prod.fst (Prod.snd o))) Tip.none, AV.bool (Prod.snd (Prod.snd o))],
        AV.agg
        [AV.str { data := List.toArray (Prod.fst (Prod.fst (List.getD (Prod.fst x) (Int.toNat i) T.noTE))) },
        AV.sl 2 (Seq.map T.encS ((0 : Int), (0 : Int)) (Prod.fst (Prod.snd (Prod.fst (List.getD (Prod.fst x) (Int.toNat i) T.noTE))))) Tip.none,
        AV.bool (Prod.snd (Prod.snd (Prod.fst (List.getD (Prod.fst x) (Int.toNat i) T.noTE))))]]
        [AObj.cells [AV.sl 5 (Seq.map T.encTE T.noTE (Prod.fst x)) Tip.none, AV.int IntKind.i64 (Prod.snd x)],
        AObj.cells [AV.str { data := #[] }, AV.sl 0 (Seq.raw []) Tip.nil, AV.bool false],
        AObj.cells [AV.str { data := List.toArray (Prod.fst o) }, AV.sl 2 (Seq.map T.encS ((0 : Int), (0 : Int)) (Prod.fst (Prod.snd o))) Tip.none, AV.bool (Prod.snd (Prod.snd o))]]
        fun (r : AV) (H' : List AObj) =>
        ∃ (x_1 : List UInt8 × List T.Span × Bool),
        r =
        AV.agg
        [AV.str { data := List.toArray (Prod.fst x_1) }, AV.sl 2 (Seq.map T.encS ((0 : Int), (0 : Int)) (Prod.fst (Prod.snd x_1))) Tip.none,
        AV.bool (Prod.snd (Prod.snd x_1))] ∧
        H' =
        [AObj.cells [AV.sl 5 (Seq.map T.encTE T.noTE (Prod.fst x)) Tip.none, AV.int IntKind.i64 (Prod.snd x)],
        AObj.cells [AV.str { data := #[] }, AV.sl 0 (Seq.raw []) Tip.nil, AV.bool false],
        AObj.cells
        [AV.str { data := List.toArray (Prod.fst o) }, AV.sl 2 (Seq.map T.encS ((0 : Int), (0 : Int)) (Prod.fst (Prod.snd o))) Tip.none, AV.bool (Prod.snd (Prod.snd o))]] ∧
        AWP Try.prog 42 n_1 c87_3
        [(1, AV.int IntKind.i64 n), (2, AV.str { data := List.toArray s }), (3, AV.ptr 0 0), (6, AV.ptr 1 0),
        (7, AV.ptr 2 0), (8, AV.int IntKind.i64 (IntKind.wrap IntKind.i64 (i + (1 : Int))))]
        [AObj.cells [AV.sl 5 (Seq.map T.encTE T.noTE (Prod.fst x)) Tip.none, AV.int IntKind.i64 (Prod.snd x)],
        AObj.cells [AV.str { data := #[] }, AV.sl 0 (Seq.raw []) Tip.nil, AV.bool false],
        AObj.cells
        [AV.str { data := List.toArray (Prod.fst x_1) }, AV.sl 2 (Seq.map T.encS ((0 : Int), (0 : Int)) (Prod.fst (Prod.snd x_1))) Tip.none,
        AV.bool (Prod.snd (Prod.snd x_1))]]
        (q87_2 n_1 Post)))
        (AWP Try.prog 42 n_1 c87_3
        [(1, AV.int IntKind.i64 n), (2, AV.str { data := List.toArray s }), (3, AV.ptr 0 0), (6, AV.ptr 1 0),
        (7, AV.ptr 2 0), (8, AV.int IntKind.i64 (IntKind.wrap IntKind.i64 (i + (1 : Int))))]
        [AObj.cells [AV.sl 5 (Seq.map T.encTE T.noTE (Prod.fst x)) Tip.none, AV.int IntKind.i64 (Prod.snd x)],
        AObj.cells [AV.str { data := #[] }, AV.sl 0 (Seq.raw []) Tip.nil, AV.bool false],
        AObj.cells [AV.str { data := List.toArray (Prod.fst o) }, AV.sl 2 (Seq.map T.encS ((0 : Int), (0 : Int)) (Prod.fst (Prod.snd o))) Tip.none, AV.bool (Prod.snd (Prod.snd o))]]
        (q87_2 n_1 Post))))
        (Post (AV.agg [AV.str { data := List.toArray (Prod.fst o) }, AV.sl 2 (Seq.map T.encS ((0 : Int), (0 : Int)) (Prod.fst (Prod.snd o))) Tip.none, AV.bool (Prod.snd (Prod.snd o))])
        [AObj.cells [AV.sl 5 (Seq.map T.encTE T.noTE (Prod.fst x)) Tip.none, AV.int IntKind.i64 (Prod.snd x)],
        AObj.cells [AV.str { data := List.toArray (Prod.fst o) }, AV.sl 2 (Seq.map T.encS ((0 : Int), (0 : Int)) (Prod.fst (Prod.snd o))) Tip.none, AV.bool (Prod.snd (Prod.snd o))],
        AObj.cells [AV.str { data := List.toArray (Prod.fst o) }, AV.sl 2 (Seq.map T.encS ((0 : Int), (0 : Int)) (Prod.fst (Prod.snd o))) Tip.none, AV.bool (Prod.snd (Prod.snd o))]]))
      (Post (AV.agg [AV.str { data := List.toArray (Prod.fst o) }, AV.sl 2 (Seq.map T.encS ((0 : Int), (0 : Int)) (Prod.fst (Prod.snd o))) Tip.none, AV.bool (Prod.snd (Prod.snd o))])
        [AObj.cells [AV.sl 5 (Seq.map T.encTE T.noTE (Prod.fst x)) Tip.none, AV.int IntKind.i64 (Prod.snd x)],
        AObj.cells [AV.str { data := List.toArray (Prod.fst o) }, AV.sl 2 (Seq.map T.encS ((0 : Int), (0 : Int)) (Prod.fst (Prod.snd o))) Tip.none, AV.bool (Prod.snd (Prod.snd o))],
        AObj.cells [AV.str { data := List.toArray (Prod.fst o) }, AV.sl 2 (Seq.map T.encS ((0 : Int), (0 : Int)) (Prod.fst (Prod.snd o))) Tip.none, AV.bool (Prod.snd (Prod.snd o))]]) →
    AWP Try.prog 42 n_1 c87_3
      [(1, AV.int IntKind.i64 n), (2, AV.str { data := List.toArray s }), (3, AV.ptr 0 0), (6, AV.ptr 1 0),
        (7, AV.ptr 2 0), (8, AV.int IntKind.i64 i)]
      [AObj.cells (T.encXt x), AObj.cells [AV.str { data := #[] }, AV.sl 0 (Seq.raw []) Tip.nil, AV.bool false], AObj.cells (T.encT o)] (q87_2 n_1 Post) := fun x n s o i n Post h => Go.Ab.AWP.loop' g87 (Cfg.live g87) c87_3 (by kernel_rfl) (by kernel_rfl) (Go.Ab.kc (by kernel_rfl) h)

-- 207
noncomputable def l207 : Nat → List Nat
  | _ => []
noncomputable def u207 : Nat → Bool
  | _ => false
noncomputable def m207 : Nat → Bool
  | _ => false
noncomputable def g207 : Cfg := { N := 11, live := l207, cut := u207, mu := m207, ret := rets }
theorem s207 : ∀ (x : T.Xt) (s : List UInt8) (Post : AV → List AObj → Prop),
  (ASpec Try.prog 87
      [AV.agg [AV.sl 5 (Seq.map T.encTE T.noTE (Prod.fst x)) Tip.none, AV.int IntKind.i64 (Prod.snd x)], AV.int IntKind.i64 (↑(List.length (Prod.fst x)) : Int),
        AV.str { data := List.toArray s }]
      [AObj.cells [AV.sl 5 (Seq.map T.encTE T.noTE (Prod.fst x)) Tip.none, AV.int IntKind.i64 (Prod.snd x)],
        AObj.cells [AV.str { data := #[] }, AV.sl 0 (Seq.raw []) Tip.nil, AV.bool false]]
      fun (r : AV) (H' : List AObj) =>
      ∃ (x_1 : List UInt8 × List T.Span × Bool),
        r = AV.agg [AV.str { data := List.toArray (Prod.fst x_1) }, AV.sl 2 (Seq.map T.encS ((0 : Int), (0 : Int)) (Prod.fst (Prod.snd x_1))) Tip.none, AV.bool (Prod.snd (Prod.snd x_1))] ∧
        H' =
        [AObj.cells [AV.sl 5 (Seq.map T.encTE T.noTE (Prod.fst x)) Tip.none, AV.int IntKind.i64 (Prod.snd x)],
        AObj.cells [AV.str { data := #[] }, AV.sl 0 (Seq.raw []) Tip.nil, AV.bool false]] ∧
        Post
        (AV.agg [AV.str { data := List.toArray (Prod.fst x_1) }, AV.sl 2 (Seq.map T.encS ((0 : Int), (0 : Int)) (Prod.fst (Prod.snd x_1))) Tip.none, AV.bool (Prod.snd (Prod.snd x_1))])
        [AObj.cells [AV.sl 5 (Seq.map T.encTE T.noTE (Prod.fst x)) Tip.none, AV.int IntKind.i64 (Prod.snd x)],
        AObj.cells
        [AV.str { data := List.toArray (Prod.fst x_1) }, AV.sl 2 (Seq.map T.encS ((0 : Int), (0 : Int)) (Prod.fst (Prod.snd x_1))) Tip.none, AV.bool (Prod.snd (Prod.snd x_1))]]) →
    ASpec Try.prog 207 [AV.agg (T.encXt x), AV.str { data := List.toArray s }] [] Post := fun x s Post h => Go.Ab.ASpec.of_vc g207 Go.Proofs.Try.func207 (by kernel_rfl) (by kernel_rfl) (by kernel_rfl) (Go.Ab.kc (by kernel_rfl) h)

-- 287
noncomputable def l287 : Nat → List Nat
  | _ => []
noncomputable def u287 : Nat → Bool
  | _ => false
noncomputable def m287 : Nat → Bool
  | _ => false
noncomputable def g287 : Cfg := { N := 27, live := l287, cut := u287, mu := m287, ret := rets }
theorem s287 : ∀ (x : T.Xt) (t : T.Term) (k : Int) (Post : AV → List AObj → Prop),
  needP (∀ (x : T.TE), List.all (T.encTE x) oneAV = true)
      (needP ((0 + List.length (Prod.fst x)) * 64 ≤ 140737488351232)
        (needP ((0 + List.length (Prod.fst x) + 1) * 64 ≤ 140737488351232)
        (Post (AV.tup [])
        [AObj.cells
        [AV.sl 5
        (Seq.app (Seq.app (Seq.raw []) (Seq.map T.encTE T.noTE (Prod.fst x)))
        (Seq.raw
        [[AV.str { data := List.toArray (Prod.fst t) }, AV.sl 2 (Seq.map T.encS ((0 : Int), (0 : Int)) (Prod.fst (Prod.snd t))) Tip.none, AV.bool (Prod.snd (Prod.snd t)),
        AV.int IntKind.i64 (Prod.snd x), AV.int IntKind.i64 k]]))
        (Tip.tok 3),
        AV.int IntKind.i64 (Prod.snd x)],
        AObj.cells [AV.str { data := List.toArray (Prod.fst t) }, AV.sl 2 (Seq.map T.encS ((0 : Int), (0 : Int)) (Prod.fst (Prod.snd t))) Tip.none, AV.bool (Prod.snd (Prod.snd t))],
        AObj.gone, AObj.tok]))) →
    ASpec Try.prog 287 [AV.ptr 0 0, AV.agg (T.encT t), AV.int IntKind.i64 k] [AObj.cells (T.encXt x)] Post := fun x t k Post h => Go.Ab.ASpec.of_vc g287 Go.Proofs.Try.func287 (by kernel_rfl) (by kernel_rfl) (by kernel_rfl) (Go.Ab.kc (by kernel_rfl) h)

-- 197
noncomputable def l197 : Nat → List Nat
  | _ => []
noncomputable def u197 : Nat → Bool
  | _ => false
noncomputable def m197 : Nat → Bool
  | _ => false
noncomputable def g197 : Cfg := { N := 37, live := l197, cut := u197, mu := m197, ret := rets }
theorem s197 : ∀ (x : T.Xt) (s : List UInt8) (v : Int) (Post : AV → List AObj → Prop),
  (ASpec Try.prog 39 [AV.str { data := List.toArray s }] [AObj.cells [AV.sl 5 (Seq.map T.encTE T.noTE (Prod.fst x)) Tip.none, AV.int IntKind.i64 (Prod.snd x)]]
      fun (r : AV) (H' : List AObj) =>
      ∃ (x_1 : Bool),
        r = AV.bool x_1 ∧
        H' = [AObj.cells [AV.sl 5 (Seq.map T.encTE T.noTE (Prod.fst x)) Tip.none, AV.int IntKind.i64 (Prod.snd x)]] ∧
        condP (!x_1) (Post (AV.int IntKind.i64 (1 : Int)) [AObj.cells [AV.sl 5 (Seq.map T.encTE T.noTE (Prod.fst x)) Tip.none, AV.int IntKind.i64 (Prod.snd x)]])
        (ASpec Try.prog 231 [AV.int IntKind.i64 v] [AObj.cells [AV.sl 5 (Seq.map T.encTE T.noTE (Prod.fst x)) Tip.none, AV.int IntKind.i64 (Prod.snd x)]]
        fun (r : AV) (H' : List AObj) =>
        ∃ (x_2 : Bool),
        r = AV.bool x_2 ∧
        H' = [AObj.cells [AV.sl 5 (Seq.map T.encTE T.noTE (Prod.fst x)) Tip.none, AV.int IntKind.i64 (Prod.snd x)]] ∧
        condP (!x_2) (Post (AV.int IntKind.i64 (1 : Int)) [AObj.cells [AV.sl 5 (Seq.map T.encTE T.noTE (Prod.fst x)) Tip.none, AV.int IntKind.i64 (Prod.snd x)]])
        (ASpec Try.prog 207 [AV.agg [AV.sl 5 (Seq.map T.encTE T.noTE (Prod.fst x)) Tip.none, AV.int IntKind.i64 (Prod.snd x)], AV.str { data := List.toArray s }]
        [AObj.cells [AV.sl 5 (Seq.map T.encTE T.noTE (Prod.fst x)) Tip.none, AV.int IntKind.i64 (Prod.snd x)]] fun (r : AV) (H' : List AObj) =>
        ∃ (x_3 : List UInt8 × List T.Span × Bool),
        r =
        AV.agg
        [AV.str { data := List.toArray (Prod.fst x_3) }, AV.sl 2 (Seq.map T.encS ((0 : Int), (0 : Int)) (Prod.fst (Prod.snd x_3))) Tip.none,
        AV.bool (Prod.snd (Prod.snd x_3))] ∧
        H' = [AObj.cells [AV.sl 5 (Seq.map T.encTE T.noTE (Prod.fst x)) Tip.none, AV.int IntKind.i64 (Prod.snd x)]] ∧
        ASpec Try.prog 286
        [AV.agg
        [AV.str { data := List.toArray (Prod.fst x_3) }, AV.sl 2 (Seq.map T.encS ((0 : Int), (0 : Int)) (Prod.fst (Prod.snd x_3))) Tip.none,
        AV.bool (Prod.snd (Prod.snd x_3))],
        AV.int IntKind.i64 v, AV.bool true]
        [AObj.cells [AV.sl 5 (Seq.map T.encTE T.noTE (Prod.fst x)) Tip.none, AV.int IntKind.i64 (Prod.snd x)]] fun (r : AV) (H' : List AObj) =>
        ∃ (x_4 : Bool),
        r = AV.bool x_4 ∧
        H' = [AObj.cells [AV.sl 5 (Seq.map T.encTE T.noTE (Prod.fst x)) Tip.none, AV.int IntKind.i64 (Prod.snd x)]] ∧
        condP (!x_4)
        (Post (AV.int IntKind.i64 (5 : Int)) [AObj.cells [AV.sl 5 (Seq.map T.encTE T.noTE (Prod.fst x)) Tip.none, AV.int IntKind.i64 (Prod.snd x)]])
        (ASpec Try.prog 288 [AV.int IntKind.i64 v]
        [AObj.cells [AV.sl 5 (Seq.map T.encTE T.noTE (Prod.fst x)) Tip.none, AV.int IntKind.i64 (IntKind.wrap IntKind.i64 (Prod.snd x + (1 : Int)))]]
        fun (r : AV) (H' : List AObj) =>
        ∃ (x_5 : List T.Span),
        r = AV.sl 2 (Seq.map T.encS ((0 : Int), (0 : Int)) x_5) Tip.none ∧
        H' =
        [AObj.cells
        [AV.sl 5 (Seq.map T.encTE T.noTE (Prod.fst x)) Tip.none, AV.int IntKind.i64 (IntKind.wrap IntKind.i64 (Prod.snd x + (1 : Int)))]] ∧
        ASpec Try.prog 287
        [AV.ptr 0 0,
        AV.agg [AV.str { data := List.toArray s }, AV.sl 2 (Seq.map T.encS ((0 : Int), (0 : Int)) x_5) Tip.none, AV.bool false],
        AV.int IntKind.i64 (-1 : Int)]
        [AObj.cells
        [AV.sl 5 (Seq.map T.encTE T.noTE (Prod.fst x)) Tip.none, AV.int IntKind.i64 (IntKind.wrap IntKind.i64 (Prod.snd x + (1 : Int)))]]
        fun (r : AV) (H' : List AObj) =>
        ∃ (x : List T.TE × Int),
        r = AV.tup [] ∧
        H' = [AObj.cells [AV.sl 5 (Seq.map T.encTE T.noTE (Prod.fst x)) Tip.none, AV.int IntKind.i64 (Prod.snd x)]] ∧
        Post (AV.int IntKind.i64 (0 : Int))
        [AObj.cells [AV.sl 5 (Seq.map T.encTE T.noTE (Prod.fst x)) Tip.none, AV.int IntKind.i64 (Prod.snd x)]])))) →
    ASpec Try.prog 197 [AV.ptr 0 0, AV.str { data := List.toArray s }, AV.int IntKind.i64 v] [AObj.cells (T.encXt x)] Post := fun x s v Post h => Go.Ab.ASpec.of_vc g197 Go.Proofs.Try.func197 (by kernel_rfl) (by kernel_rfl) (by kernel_rfl) (Go.Ab.kc (by kernel_rfl) h)

-- 198
noncomputable def l198 : Nat → List Nat
  | _ => []
noncomputable def u198 : Nat → Bool
  | _ => false
noncomputable def m198 : Nat → Bool
  | _ => false
noncomputable def g198 : Cfg := { N := 32, live := l198, cut := u198, mu := m198, ret := rets }
theorem s198 : ∀ (x : T.Xt) (t : T.Term) (k : Int) (Post : AV → List AObj → Prop),
  (ASpec Try.prog 196
      [AV.agg [AV.str { data := List.toArray (Prod.fst t) }, AV.sl 2 (Seq.map T.encS ((0 : Int), (0 : Int)) (Prod.fst (Prod.snd t))) Tip.none, AV.bool (Prod.snd (Prod.snd t))]]
      [AObj.cells [AV.sl 5 (Seq.map T.encTE T.noTE (Prod.fst x)) Tip.none, AV.int IntKind.i64 (Prod.snd x)],
        AObj.cells [AV.str { data := List.toArray (Prod.fst t) }, AV.sl 2 (Seq.map T.encS ((0 : Int), (0 : Int)) (Prod.fst (Prod.snd t))) Tip.none, AV.bool (Prod.snd (Prod.snd t))]]
      fun (r : AV) (H' : List AObj) =>
      ∃ (x_1 : Bool),
        r = AV.bool x_1 ∧
        H' =
        [AObj.cells [AV.sl 5 (Seq.map T.encTE T.noTE (Prod.fst x)) Tip.none, AV.int IntKind.i64 (Prod.snd x)],
        AObj.cells [AV.str { data := List.toArray (Prod.fst t) }, AV.sl 2 (Seq.map T.encS ((0 : Int), (0 : Int)) (Prod.fst (Prod.snd t))) Tip.none, AV.bool (Prod.snd (Prod.snd t))]] ∧
        condP (!x_1)
        (Post (AV.int IntKind.i64 (1 : Int))
        [AObj.cells [AV.sl 5 (Seq.map T.encTE T.noTE (Prod.fst x)) Tip.none, AV.int IntKind.i64 (Prod.snd x)],
        AObj.cells [AV.str { data := List.toArray (Prod.fst t) }, AV.sl 2 (Seq.map T.encS ((0 : Int), (0 : Int)) (Prod.fst (Prod.snd t))) Tip.none, AV.bool (Prod.snd (Prod.snd t))]])
        (condP (decide (k < (0 : Int)))
        (Post (AV.int IntKind.i64 (1 : Int))
        [AObj.cells [AV.sl 5 (Seq.map T.encTE T.noTE (Prod.fst x)) Tip.none, AV.int IntKind.i64 (Prod.snd x)],
        AObj.cells
        [AV.str { data := List.toArray (Prod.fst t) }, AV.sl 2 (Seq.map T.encS ((0 : Int), (0 : Int)) (Prod.fst (Prod.snd t))) Tip.none, AV.bool (Prod.snd (Prod.snd t))]])
        (ASpec Try.prog 207 [AV.agg [AV.sl 5 (Seq.map T.encTE T.noTE (Prod.fst x)) Tip.none, AV.int IntKind.i64 (Prod.snd x)], AV.str { data := List.toArray (Prod.fst t) }]
        [AObj.cells [AV.sl 5 (Seq.map T.encTE T.noTE (Prod.fst x)) Tip.none, AV.int IntKind.i64 (Prod.snd x)],
        AObj.cells
        [AV.str { data := List.toArray (Prod.fst t) }, AV.sl 2 (Seq.map T.encS ((0 : Int), (0 : Int)) (Prod.fst (Prod.snd t))) Tip.none, AV.bool (Prod.snd (Prod.snd t))]]
        fun (r : AV) (H' : List AObj) =>
        ∃ (x_2 : List UInt8 × List T.Span × Bool),
        r =
        AV.agg
        [AV.str { data := List.toArray (Prod.fst x_2) }, AV.sl 2 (Seq.map T.encS ((0 : Int), (0 : Int)) (Prod.fst (Prod.snd x_2))) Tip.none,
        AV.bool (Prod.snd (Prod.snd x_2))] ∧
        H' =
        [AObj.cells [AV.sl 5 (Seq.map T.encTE T.noTE (Prod.fst x)) Tip.none, AV.int IntKind.i64 (Prod.snd x)],
        AObj.cells
        [AV.str { data := List.toArray (Prod.fst t) }, AV.sl 2 (Seq.map T.encS ((0 : Int), (0 : Int)) (Prod.fst (Prod.snd t))) Tip.none,
        AV.bool (Prod.snd (Prod.snd t))]] ∧
        (AV.str { data := List.toArray (Prod.fst t) } = AV.str { data := List.toArray (Prod.fst t) } ∧
        [AObj.cells [AV.sl 5 (Seq.map T.encTE T.noTE (Prod.fst x)) Tip.none, AV.int IntKind.i64 (Prod.snd x)],
        AObj.cells
        [AV.str { data := List.toArray (Prod.fst t) }, AV.sl 2 (Seq.map T.encS ((0 : Int), (0 : Int)) (Prod.fst (Prod.snd t))) Tip.none,
        AV.bool (Prod.snd (Prod.snd t))],
        AObj.cells [AV.str { data := #[] }, AV.sl 0 (Seq.raw []) Tip.nil, AV.bool false]] =
        [AObj.cells [AV.sl 5 (Seq.map T.encTE T.noTE (Prod.fst x)) Tip.none, AV.int IntKind.i64 (Prod.snd x)],
        AObj.cells
        [AV.str { data := List.toArray (Prod.fst t) }, AV.sl 2 (Seq.map T.encS ((0 : Int), (0 : Int)) (Prod.fst (Prod.snd t))) Tip.none,
        AV.bool (Prod.snd (Prod.snd t))],
        AObj.cells [AV.str { data := #[] }, AV.sl 0 (Seq.raw []) Tip.nil, AV.bool false]]) ∧
        (AV.agg [AV.sl 5 (Seq.map T.encTE T.noTE (Prod.fst x)) Tip.none, AV.int IntKind.i64 (Prod.snd x)] =
        AV.agg [AV.sl 5 (Seq.map T.encTE T.noTE (Prod.fst x)) Tip.none, AV.int IntKind.i64 (Prod.snd x)] ∧
        [AObj.cells [AV.sl 5 (Seq.map T.encTE T.noTE (Prod.fst x)) Tip.none, AV.int IntKind.i64 (Prod.snd x)],
        AObj.cells
        [AV.str { data := List.toArray (Prod.fst t) }, AV.sl 2 (Seq.map T.encS ((0 : Int), (0 : Int)) (Prod.fst (Prod.snd t))) Tip.none,
        AV.bool (Prod.snd (Prod.snd t))],
        AObj.cells [AV.str { data := #[] }, AV.sl 0 (Seq.raw []) Tip.nil, AV.bool false]] =
        [AObj.cells [AV.sl 5 (Seq.map T.encTE T.noTE (Prod.fst x)) Tip.none, AV.int IntKind.i64 (Prod.snd x)],
        AObj.cells
        [AV.str { data := List.toArray (Prod.fst t) }, AV.sl 2 (Seq.map T.encS ((0 : Int), (0 : Int)) (Prod.fst (Prod.snd t))) Tip.none,
        AV.bool (Prod.snd (Prod.snd t))],
        AObj.cells [AV.str { data := #[] }, AV.sl 0 (Seq.raw []) Tip.nil, AV.bool false]]) ∧
        ASpec Try.prog 208
        [AV.agg
        [AV.str { data := List.toArray (Prod.fst x_2) }, AV.sl 2 (Seq.map T.encS ((0 : Int), (0 : Int)) (Prod.fst (Prod.snd x_2))) Tip.none,
        AV.bool (Prod.snd (Prod.snd x_2))],
        AV.agg
        [AV.str { data := List.toArray (Prod.fst t) }, AV.sl 2 (Seq.map T.encS ((0 : Int), (0 : Int)) (Prod.fst (Prod.snd t))) Tip.none,
        AV.bool (Prod.snd (Prod.snd t))]]
        [AObj.cells [AV.sl 5 (Seq.map T.encTE T.noTE (Prod.fst x)) Tip.none, AV.int IntKind.i64 (Prod.snd x)],
        AObj.cells
        [AV.str { data := List.toArray (Prod.fst t) }, AV.sl 2 (Seq.map T.encS ((0 : Int), (0 : Int)) (Prod.fst (Prod.snd t))) Tip.none,
        AV.bool (Prod.snd (Prod.snd t))],
        AObj.cells
        [AV.str { data := List.toArray (Prod.fst x_2) }, AV.sl 2 (Seq.map T.encS ((0 : Int), (0 : Int)) (Prod.fst (Prod.snd x_2))) Tip.none,
        AV.bool (Prod.snd (Prod.snd x_2))]]
        fun (r : AV) (H' : List AObj) =>
        ∃ (x_3 : List UInt8 × List T.Span × Bool),
        r =
        AV.agg
        [AV.str { data := List.toArray (Prod.fst x_3) }, AV.sl 2 (Seq.map T.encS ((0 : Int), (0 : Int)) (Prod.fst (Prod.snd x_3))) Tip.none,
        AV.bool (Prod.snd (Prod.snd x_3))] ∧
        H' =
        [AObj.cells [AV.sl 5 (Seq.map T.encTE T.noTE (Prod.fst x)) Tip.none, AV.int IntKind.i64 (Prod.snd x)],
        AObj.cells
        [AV.str { data := List.toArray (Prod.fst t) }, AV.sl 2 (Seq.map T.encS ((0 : Int), (0 : Int)) (Prod.fst (Prod.snd t))) Tip.none,
        AV.bool (Prod.snd (Prod.snd t))],
        AObj.cells
        [AV.str { data := List.toArray (Prod.fst x_2) }, AV.sl 2 (Seq.map T.encS ((0 : Int), (0 : Int)) (Prod.fst (Prod.snd x_2))) Tip.none,
        AV.bool (Prod.snd (Prod.snd x_2))]] ∧
        ASpec Try.prog 34
        [AV.agg
        [AV.str { data := List.toArray (Prod.fst x_3) }, AV.sl 2 (Seq.map T.encS ((0 : Int), (0 : Int)) (Prod.fst (Prod.snd x_3))) Tip.none,
        AV.bool (Prod.snd (Prod.snd x_3))]]
        [AObj.cells [AV.sl 5 (Seq.map T.encTE T.noTE (Prod.fst x)) Tip.none, AV.int IntKind.i64 (Prod.snd x)],
        AObj.cells
        [AV.str { data := List.toArray (Prod.fst t) }, AV.sl 2 (Seq.map T.encS ((0 : Int), (0 : Int)) (Prod.fst (Prod.snd t))) Tip.none,
        AV.bool (Prod.snd (Prod.snd t))],
        AObj.cells
        [AV.str { data := List.toArray (Prod.fst x_2) }, AV.sl 2 (Seq.map T.encS ((0 : Int), (0 : Int)) (Prod.fst (Prod.snd x_2))) Tip.none,
        AV.bool (Prod.snd (Prod.snd x_2))]]
        fun (r : AV) (H' : List AObj) =>
        ∃ (x_4 : Bool),
        r = AV.bool x_4 ∧
        H' =
        [AObj.cells [AV.sl 5 (Seq.map T.encTE T.noTE (Prod.fst x)) Tip.none, AV.int IntKind.i64 (Prod.snd x)],
        AObj.cells
        [AV.str { data := List.toArray (Prod.fst t) }, AV.sl 2 (Seq.map T.encS ((0 : Int), (0 : Int)) (Prod.fst (Prod.snd t))) Tip.none,
        AV.bool (Prod.snd (Prod.snd t))],
        AObj.cells
        [AV.str { data := List.toArray (Prod.fst x_2) }, AV.sl 2 (Seq.map T.encS ((0 : Int), (0 : Int)) (Prod.fst (Prod.snd x_2))) Tip.none,
        AV.bool (Prod.snd (Prod.snd x_2))]] ∧
        condP x_4
        (Post (AV.int IntKind.i64 (5 : Int))
        [AObj.cells [AV.sl 5 (Seq.map T.encTE T.noTE (Prod.fst x)) Tip.none, AV.int IntKind.i64 (Prod.snd x)],
        AObj.cells
        [AV.str { data := List.toArray (Prod.fst t) }, AV.sl 2 (Seq.map T.encS ((0 : Int), (0 : Int)) (Prod.fst (Prod.snd t))) Tip.none,
        AV.bool (Prod.snd (Prod.snd t))],
        AObj.cells
        [AV.str { data := List.toArray (Prod.fst x_2) }, AV.sl 2 (Seq.map T.encS ((0 : Int), (0 : Int)) (Prod.fst (Prod.snd x_2))) Tip.none,
        AV.bool (Prod.snd (Prod.snd x_2))]])
        (ASpec Try.prog 33
        [AV.agg
        [AV.str { data := List.toArray (Prod.fst x_2) }, AV.sl 2 (Seq.map T.encS ((0 : Int), (0 : Int)) (Prod.fst (Prod.snd x_2))) Tip.none,
        AV.bool (Prod.snd (Prod.snd x_2))],
        AV.agg
        [AV.str { data := List.toArray (Prod.fst t) }, AV.sl 2 (Seq.map T.encS ((0 : Int), (0 : Int)) (Prod.fst (Prod.snd t))) Tip.none,
        AV.bool (Prod.snd (Prod.snd t))]]
        [AObj.cells [AV.sl 5 (Seq.map T.encTE T.noTE (Prod.fst x)) Tip.none, AV.int IntKind.i64 (Prod.snd x)],
        AObj.cells
        [AV.str { data := List.toArray (Prod.fst t) }, AV.sl 2 (Seq.map T.encS ((0 : Int), (0 : Int)) (Prod.fst (Prod.snd t))) Tip.none,
        AV.bool (Prod.snd (Prod.snd t))],
        AObj.cells
        [AV.str { data := List.toArray (Prod.fst x_2) }, AV.sl 2 (Seq.map T.encS ((0 : Int), (0 : Int)) (Prod.fst (Prod.snd x_2))) Tip.none,
        AV.bool (Prod.snd (Prod.snd x_2))]]
        fun (r : AV) (H' : List AObj) =>
        ∃ (x_5 : Bool),
        r = AV.bool x_5 ∧
        H' =
        [AObj.cells [AV.sl 5 (Seq.map T.encTE T.noTE (Prod.fst x)) Tip.none, AV.int IntKind.i64 (Prod.snd x)],
        AObj.cells
        [AV.str { data := List.toArray (Prod.fst t) }, AV.sl 2 (Seq.map T.encS ((0 : Int), (0 : Int)) (Prod.fst (Prod.snd t))) Tip.none,
        AV.bool (Prod.snd (Prod.snd t))],
        AObj.cells
        [AV.str { data := List.toArray (Prod.fst x_2) }, AV.sl 2 (Seq.map T.encS ((0 : Int), (0 : Int)) (Prod.fst (Prod.snd x_2))) Tip.none,
        AV.bool (Prod.snd (Prod.snd x_2))]] ∧
        condP x_5
        (Post (AV.int IntKind.i64 (6 : Int))
        [AObj.cells [AV.sl 5 (Seq.map T.encTE T.noTE (Prod.fst x)) Tip.none, AV.int IntKind.i64 (Prod.snd x)],
        AObj.cells
        [AV.str { data := List.toArray (Prod.fst t) }, AV.sl 2 (Seq.map T.encS ((0 : Int), (0 : Int)) (Prod.fst (Prod.snd t))) Tip.none,
        AV.bool (Prod.snd (Prod.snd t))],
        AObj.cells
        [AV.str { data := List.toArray (Prod.fst x_2) },
        AV.sl 2 (Seq.map T.encS ((0 : Int), (0 : Int)) (Prod.fst (Prod.snd x_2))) Tip.none, AV.bool (Prod.snd (Prod.snd x_2))]])
        (ASpec Try.prog 287
        [AV.ptr 0 0,
        AV.agg
        [AV.str { data := List.toArray (Prod.fst t) }, AV.sl 2 (Seq.map T.encS ((0 : Int), (0 : Int)) (Prod.fst (Prod.snd t))) Tip.none,
        AV.bool (Prod.snd (Prod.snd t))],
        AV.int IntKind.i64 k]
        [AObj.cells [AV.sl 5 (Seq.map T.encTE T.noTE (Prod.fst x)) Tip.none, AV.int IntKind.i64 (Prod.snd x)],
        AObj.cells
        [AV.str { data := List.toArray (Prod.fst t) }, AV.sl 2 (Seq.map T.encS ((0 : Int), (0 : Int)) (Prod.fst (Prod.snd t))) Tip.none,
        AV.bool (Prod.snd (Prod.snd t))],
        AObj.cells
        [AV.str { data := List.toArray (Prod.fst x_2) },
        AV.sl 2 (Seq.map T.encS ((0 : Int), (0 : Int)) (Prod.fst (Prod.snd x_2))) Tip.none, AV.bool (Prod.snd (Prod.snd x_2))]]
        fun (r : AV) (H' : List AObj) =>
        ∃ (x : List T.TE × Int),
        r = AV.tup [] ∧
        H' =
        [AObj.cells [AV.sl 5 (Seq.map T.encTE T.noTE (Prod.fst x)) Tip.none, AV.int IntKind.i64 (Prod.snd x)],
        AObj.cells
        [AV.str { data := List.toArray (Prod.fst t) },
        AV.sl 2 (Seq.map T.encS ((0 : Int), (0 : Int)) (Prod.fst (Prod.snd t))) Tip.none, AV.bool (Prod.snd (Prod.snd t))],
        AObj.cells
        [AV.str { data := List.toArray (Prod.fst x_2) },
        AV.sl 2 (Seq.map T.encS ((0 : Int), (0 : Int)) (Prod.fst (Prod.snd x_2))) Tip.none,
        AV.bool (Prod.snd (Prod.snd x_2))]] ∧
        Post (AV.int IntKind.i64 (0 : Int))
        [AObj.cells [AV.sl 5 (Seq.map T.encTE T.noTE (Prod.fst x)) Tip.none, AV.int IntKind.i64 (Prod.snd x)],
        AObj.cells
        [AV.str { data := List.toArray (Prod.fst t) },
        AV.sl 2 (Seq.map T.encS ((0 : Int), (0 : Int)) (Prod.fst (Prod.snd t))) Tip.none, AV.bool (Prod.snd (Prod.snd t))],
        AObj.cells
        [AV.str { data := List.toArray (Prod.fst x_2) },
        AV.sl 2 (Seq.map T.encS ((0 : Int), (0 : Int)) (Prod.fst (Prod.snd x_2))) Tip.none,
        AV.bool (Prod.snd (Prod.snd x_2))]]))))) →
    ASpec Try.prog 198 [AV.ptr 0 0, AV.agg (T.encT t), AV.int IntKind.i64 k] [AObj.cells (T.encXt x)] Post := fun x t k Post h => Go.Ab.ASpec.of_vc g198 Go.Proofs.Try.func198 (by kernel_rfl) (by kernel_rfl) (by kernel_rfl) (Go.Ab.kc (by kernel_rfl) h)

-- 199
noncomputable def l199 : Nat → List Nat
  | 4 => [0, 1, 4, 5]
  | 8 => [0, 1, 4]
  | _ => []
noncomputable def u199 : Nat → Bool
  | 8 => true
  | _ => false
noncomputable def m199 : Nat → Bool
  | _ => false
noncomputable def g199 : Cfg := { N := 51, live := l199, cut := u199, mu := m199, ret := rets }
noncomputable def c199 : Go.Code := Go.Ab.bodyOf Go.Proofs.Try.f199
noncomputable def q199_0 : Nat → (AV → List AObj → Prop) → AQ := fun (n : Nat) (Post : AV → List AObj → Prop) => endQ Try.prog (resultsOf Try.f199) Post
noncomputable def c199_8 : Go.Code := codeSnd (codeSnd (codeSnd (codeSnd c199)))
noncomputable def q199_1 : Nat → (AV → List AObj → Prop) → AQ := fun (n : Nat) (Post : AV → List AObj → Prop) => seqQ (fun (s' : Slots) (H' : List AObj) => AWP Try.prog (Cfg.N g199) n c199_8 (restrict s' (Cfg.live g199 8)) H' (q199_0 n Post)) (q199_0 n Post)
noncomputable def q199_2 : Nat → (AV → List AObj → Prop) → AQ := fun (n : Nat) (Post : AV → List AObj → Prop) => blockQ 0 (q199_1 n Post)
noncomputable def c199_4 : Go.Code := codeFst (codeSnd (codeFst (codeSnd (codeSnd (codeSnd c199)))))
theorem s199 : ∀ (x : T.Xt) (n : Int) (Post : AV → List AObj → Prop),
  condP (decide ((if (0 : Int) > n then (0 : Int) else n) ≥ Prod.snd x))
      (Post (AV.tup []) [AObj.cells [AV.sl 5 (Seq.map T.encTE T.noTE (Prod.fst x)) Tip.none, AV.int IntKind.i64 (Prod.snd x)]])
      (AWP Try.prog 51 1 c199_4
        [(0, AV.ptr 0 0), (1, AV.int IntKind.i64 (if (0 : Int) > n then (0 : Int) else n)), (4, AV.sl 0 (Seq.raw []) Tip.nil),
        (5, AV.int IntKind.i64 (0 : Int))]
        [AObj.cells [AV.sl 5 (Seq.map T.encTE T.noTE (Prod.fst x)) Tip.none, AV.int IntKind.i64 (Prod.snd x)]] (q199_2 1 Post)) →
    ASpec Try.prog 199 [AV.ptr 0 0, AV.int IntKind.i64 n] [AObj.cells (T.encXt x)] Post := fun x n Post h => Go.Ab.ASpec.of_vc g199 Go.Proofs.Try.func199 (by kernel_rfl) (by kernel_rfl) (by kernel_rfl) (Go.Ab.kc (by kernel_rfl) h)
theorem v199_4 : ∀ (x : T.Xt) (n : Int) (o : List T.TE) (i : Int) (n_1 : Nat) (Post : AV → List AObj → Prop),
  condP (decide (i < (↑(List.length (Prod.fst x)) : Int)))
      (needP ((0 : Int) ≤ i ∧ i < (↑(List.length (Prod.fst x)) : Int))
        (condP (decide (Prod.fst (Prod.snd (List.getD (Prod.fst x) (Int.toNat i) T.noTE)) ≤ n))
        (needP ((0 : Int) ≤ i ∧ i < (↑(List.length (Prod.fst x)) : Int))
        (needP ((List.length o + 1) * 64 ≤ 140737488351232)
        (AWP Try.prog 51 n_1 c199_4
        [(0, AV.ptr 0 0), (1, AV.int IntKind.i64 n),
        (4,
        AV.sl 5
        (Seq.app (Seq.map T.encTE T.noTE o)
        (Seq.raw
        [[AV.str { data := List.toArray (Prod.fst (Prod.fst (List.getD (Prod.fst x) (Int.toNat i) T.noTE))) },
        AV.sl 2 (Seq.map T.encS ((0 : Int), (0 : Int)) (Prod.fst (Prod.snd (Prod.fst (List.getD (Prod.fst x) (Int.toNat i) T.noTE))))) Tip.none,
        AV.bool (Prod.snd (Prod.snd (Prod.fst (List.getD (Prod.fst x) (Int.toNat i) T.noTE)))),
        AV.int IntKind.i64 (Prod.fst (Prod.snd (List.getD (Prod.fst x) (Int.toNat i) T.noTE))),
        AV.int IntKind.i64 (Prod.snd (Prod.snd (List.getD (Prod.fst x) (Int.toNat i) T.noTE)))]]))
        (Tip.tok 2)),
        (5, AV.int IntKind.i64 (IntKind.wrap IntKind.i64 (i + (1 : Int))))]
        [AObj.cells [AV.sl 5 (Seq.map T.encTE T.noTE (Prod.fst x)) Tip.none, AV.int IntKind.i64 (Prod.snd x)], AObj.gone, AObj.tok] (q199_2 n_1 Post))))
        (AWP Try.prog 51 n_1 c199_4
        [(0, AV.ptr 0 0), (1, AV.int IntKind.i64 n), (4, AV.sl 5 (Seq.map T.encTE T.noTE o) (Tip.tok 1)),
        (5, AV.int IntKind.i64 (IntKind.wrap IntKind.i64 (i + (1 : Int))))]
        [AObj.cells [AV.sl 5 (Seq.map T.encTE T.noTE (Prod.fst x)) Tip.none, AV.int IntKind.i64 (Prod.snd x)], AObj.tok] (q199_2 n_1 Post))))
      (AWP Try.prog 51 n_1 c199_8 [(0, AV.ptr 0 0), (1, AV.int IntKind.i64 n), (4, AV.sl 5 (Seq.map T.encTE T.noTE o) (Tip.tok 1))]
        [AObj.cells [AV.sl 5 (Seq.map T.encTE T.noTE (Prod.fst x)) Tip.none, AV.int IntKind.i64 (Prod.snd x)], AObj.tok] (q199_0 n_1 Post)) →
    AWP Try.prog 51 n_1 c199_4
      [(0, AV.ptr 0 0), (1, AV.int IntKind.i64 n), (4, AV.sl 5 (Seq.map T.encTE T.noTE o) (Tip.tok 1)), (5, AV.int IntKind.i64 i)]
      [AObj.cells (T.encXt x), AObj.tok] (q199_2 n_1 Post) := fun x n o i n Post h => Go.Ab.AWP.loop' g199 (Cfg.live g199) c199_4 (by kernel_rfl) (by kernel_rfl) (Go.Ab.kc (by kernel_rfl) h)
theorem v199_8 : ∀ (x : T.Xt) (n : Int) (o : List T.TE) (n_1 : Nat) (Post : AV → List AObj → Prop),
  Post (AV.tup []) [AObj.cells [AV.sl 5 (Seq.map T.encTE T.noTE o) (Tip.tok 1), AV.int IntKind.i64 n], AObj.tok] →
    AWP Try.prog 51 n_1 c199_8 [(0, AV.ptr 0 0), (1, AV.int IntKind.i64 n), (4, AV.sl 5 (Seq.map T.encTE T.noTE o) (Tip.tok 1))]
      [AObj.cells (T.encXt x), AObj.tok] (q199_0 n_1 Post) := fun x n o n Post h => Go.Ab.awp_sound g199 n _ _ _ _ (Go.Ab.kc (by kernel_rfl) h)

-- 205
noncomputable def l205 : Nat → List Nat
  | 3 => [1, 3, 4]
  | _ => []
noncomputable def u205 : Nat → Bool
  | _ => false
noncomputable def m205 : Nat → Bool
  | _ => false
noncomputable def g205 : Cfg := { N := 40, live := l205, cut := u205, mu := m205, ret := rets }
noncomputable def c205 : Go.Code := Go.Ab.bodyOf Go.Proofs.Try.f205
noncomputable def q205_0 : Nat → (AV → List AObj → Prop) → AQ := fun (n : Nat) (Post : AV → List AObj → Prop) => endQ Try.prog (resultsOf Try.f205) Post
noncomputable def q205_1 : Nat → (AV → List AObj → Prop) → AQ := fun (n : Nat) (Post : AV → List AObj → Prop) => seqQ (fun (s' : Slots) (H' : List AObj) => awp Try.prog g205 n (codeSnd (codeSnd (codeSnd c205))) s' H' (q205_0 n Post)) (q205_0 n Post)
noncomputable def q205_2 : Nat → (AV → List AObj → Prop) → AQ := fun (n : Nat) (Post : AV → List AObj → Prop) => blockQ 0 (q205_1 n Post)
noncomputable def c205_3 : Go.Code := codeFst (codeSnd (codeFst (codeSnd (codeSnd c205))))
theorem s205 : ∀ (x : T.Xt) (Post : AV → List AObj → Prop),
  AWP Try.prog 40 0 c205_3 [(1, AV.ptr 0 0), (3, AV.sl 0 (Seq.raw []) Tip.nil), (4, AV.int IntKind.i64 (0 : Int))]
      [AObj.cells [AV.sl 5 (Seq.map T.encTE T.noTE (Prod.fst x)) Tip.none, AV.int IntKind.i64 (Prod.snd x)]] (q205_2 0 Post) →
    ASpec Try.prog 205 [AV.agg (T.encXt x)] [] Post := fun x Post h => Go.Ab.ASpec.of_vc g205 Go.Proofs.Try.func205 (by kernel_rfl) (by kernel_rfl) (by kernel_rfl) (Go.Ab.kc (by kernel_rfl) h)
theorem v205_3 : ∀ (x : T.Xt) (o : List T.Pk) (i : Int) (n : Nat) (Post : AV → List AObj → Prop),
  condP (decide (i < (↑(List.length (Prod.fst x)) : Int)))
      (needP ((0 : Int) ≤ i ∧ i < (↑(List.length (Prod.fst x)) : Int))
        (condP (decide (Prod.snd (Prod.snd (List.getD (Prod.fst x) (Int.toNat i) T.noTE)) < (0 : Int)))
        (needP ((0 : Int) ≤ i ∧ i < (↑(List.length (Prod.fst x)) : Int))
        (needP ((0 : Int) ≤ i ∧ i < (↑(List.length (Prod.fst x)) : Int))
        (needP ((0 : Int) ≤ (0 : Int) ∧ (0 : Int) < (↑(List.length (Prod.fst (Prod.snd (Prod.fst (List.getD (Prod.fst x) (Int.toNat i) T.noTE))))) : Int))
        (ASpec Try.prog 293
        [AV.sl 2 (Seq.map T.encPk T.noPk o) Tip.none,
        AV.agg
        [AV.str { data := List.toArray (Prod.fst (Prod.fst (List.getD (Prod.fst x) (Int.toNat i) T.noTE))) },
        AV.int IntKind.i64 (Prod.fst (List.getD (Prod.fst (Prod.snd (Prod.fst (List.getD (Prod.fst x) (Int.toNat i) T.noTE)))) 0 ((0 : Int), (0 : Int))))]]
        [AObj.cells [AV.sl 5 (Seq.map T.encTE T.noTE (Prod.fst x)) Tip.none, AV.int IntKind.i64 (Prod.snd x)]] fun (r : AV) (H' : List AObj) =>
        ∃ (x_1 : List T.Pk),
        r = AV.sl 2 (Seq.map T.encPk T.noPk x_1) Tip.none ∧
        H' = [AObj.cells [AV.sl 5 (Seq.map T.encTE T.noTE (Prod.fst x)) Tip.none, AV.int IntKind.i64 (Prod.snd x)]] ∧
        AWP Try.prog 40 n c205_3
        [(1, AV.ptr 0 0), (3, AV.sl 2 (Seq.map T.encPk T.noPk x_1) Tip.none),
        (4, AV.int IntKind.i64 (IntKind.wrap IntKind.i64 (i + (1 : Int))))]
        [AObj.cells [AV.sl 5 (Seq.map T.encTE T.noTE (Prod.fst x)) Tip.none, AV.int IntKind.i64 (Prod.snd x)]] (q205_2 n Post)))))
        (AWP Try.prog 40 n c205_3
        [(1, AV.ptr 0 0), (3, AV.sl 2 (Seq.map T.encPk T.noPk o) Tip.none), (4, AV.int IntKind.i64 (IntKind.wrap IntKind.i64 (i + (1 : Int))))]
        [AObj.cells [AV.sl 5 (Seq.map T.encTE T.noTE (Prod.fst x)) Tip.none, AV.int IntKind.i64 (Prod.snd x)]] (q205_2 n Post))))
      (Post (AV.sl 2 (Seq.map T.encPk T.noPk o) Tip.none) [AObj.cells [AV.sl 5 (Seq.map T.encTE T.noTE (Prod.fst x)) Tip.none, AV.int IntKind.i64 (Prod.snd x)]]) →
    AWP Try.prog 40 n c205_3 [(1, AV.ptr 0 0), (3, AV.sl 2 (Seq.map T.encPk T.noPk o) Tip.none), (4, AV.int IntKind.i64 i)]
      [AObj.cells (T.encXt x)] (q205_2 n Post) := fun x o i n Post h => Go.Ab.AWP.loop' g205 (Cfg.live g205) c205_3 (by kernel_rfl) (by kernel_rfl) (Go.Ab.kc (by kernel_rfl) h)

-- 85
noncomputable def l85 : Nat → List Nat
  | 2 => [1, 2, 5]
  | 6 => [1, 2, 5, 6, 7]
  | _ => []
noncomputable def u85 : Nat → Bool
  | _ => false
noncomputable def m85 : Nat → Bool
  | _ => false
noncomputable def g85 : Cfg := { N := 39, live := l85, cut := u85, mu := m85, ret := rets }
noncomputable def c85 : Go.Code := Go.Ab.bodyOf Go.Proofs.Try.f85
noncomputable def q85_0 : Nat → (AV → List AObj → Prop) → AQ := fun (n : Nat) (Post : AV → List AObj → Prop) => endQ Try.prog (resultsOf Try.f85) Post
noncomputable def q85_1 : Nat → (AV → List AObj → Prop) → AQ := fun (n : Nat) (Post : AV → List AObj → Prop) => seqQ (fun (s' : Slots) (H' : List AObj) => awp Try.prog g85 n (codeSnd (codeSnd c85)) s' H' (q85_0 n Post)) (q85_0 n Post)
noncomputable def q85_2 : Nat → (AV → List AObj → Prop) → AQ := fun (n : Nat) (Post : AV → List AObj → Prop) => blockQ 0 (q85_1 n Post)
noncomputable def c85_2 : Go.Code := codeFst (codeSnd (codeFst (codeSnd c85)))
theorem s85 : ∀ (x : T.Xt) (c : List T.Term) (Post : AV → List AObj → Prop),
  AWP Try.prog 39 0 c85_2 [(1, AV.sl 3 (Seq.map T.encT T.noT c) Tip.none), (2, AV.ptr 0 0), (5, AV.int IntKind.i64 (0 : Int))]
      [AObj.cells [AV.sl 5 (Seq.map T.encTE T.noTE (Prod.fst x)) Tip.none, AV.int IntKind.i64 (Prod.snd x)]] (q85_2 0 Post) →
    ASpec Try.prog 85 [AV.agg (T.encXt x), AV.sl 3 (Seq.map T.encT T.noT c) Tip.none] [] Post := fun x c Post h => Go.Ab.ASpec.of_vc g85 Go.Proofs.Try.func85 (by kernel_rfl) (by kernel_rfl) (by kernel_rfl) (Go.Ab.kc (by kernel_rfl) h)
noncomputable def q85_3 : Nat → (AV → List AObj → Prop) → AQ := fun (n : Nat) (Post : AV → List AObj → Prop) => loopQ Try.prog 39 n c85_2 (q85_2 n Post) (Cfg.live g85)
noncomputable def q85_4 : Nat → (AV → List AObj → Prop) → AQ := fun (n : Nat) (Post : AV → List AObj → Prop) => seqQ (fun (s' : Slots) (H' : List AObj) => awp Try.prog g85 n (codeSnd (codeSnd (codeFst c85_2))) s' H' (q85_3 n Post)) (q85_3 n Post)
noncomputable def q85_5 : Nat → (AV → List AObj → Prop) → AQ := fun (n : Nat) (Post : AV → List AObj → Prop) => blockQ 1 (q85_4 n Post)
noncomputable def q85_6 : Nat → (AV → List AObj → Prop) → AQ := fun (n : Nat) (Post : AV → List AObj → Prop) => seqQ (fun (s' : Slots) (H' : List AObj) => awp Try.prog g85 n (codeSnd (codeSnd (codeFst (codeFst (codeSnd (codeFst c85_2)))))) s' H' (q85_5 n Post)) (q85_5 n Post)
noncomputable def q85_7 : Nat → (AV → List AObj → Prop) → AQ := fun (n : Nat) (Post : AV → List AObj → Prop) => blockQ 2 (q85_6 n Post)
noncomputable def c85_6 : Go.Code := codeFst (codeSnd (codeFst (codeSnd (codeFst (codeFst (codeSnd (codeFst c85_2)))))))
theorem v85_2 : ∀ (x : T.Xt) (c : List T.Term) (n : Int) (n_1 : Nat) (Post : AV → List AObj → Prop),
  condP (decide (n ≤ (↑(List.length (Prod.fst x)) : Int)))
      (AWP Try.prog 39 n_1 c85_6
        [(1, AV.sl 3 (Seq.map T.encT T.noT c) Tip.none), (2, AV.ptr 0 0), (5, AV.int IntKind.i64 n), (6, AV.bool true),
        (7, AV.int IntKind.i64 (0 : Int))]
        [AObj.cells [AV.sl 5 (Seq.map T.encTE T.noTE (Prod.fst x)) Tip.none, AV.int IntKind.i64 (Prod.snd x)]] (q85_7 n_1 Post))
      (Post (AV.int IntKind.i64 (-1 : Int)) [AObj.cells [AV.sl 5 (Seq.map T.encTE T.noTE (Prod.fst x)) Tip.none, AV.int IntKind.i64 (Prod.snd x)]]) →
    AWP Try.prog 39 n_1 c85_2 [(1, AV.sl 3 (Seq.map T.encT T.noT c) Tip.none), (2, AV.ptr 0 0), (5, AV.int IntKind.i64 n)]
      [AObj.cells (T.encXt x)] (q85_2 n_1 Post) := fun x c n n Post h => Go.Ab.AWP.loop' g85 (Cfg.live g85) c85_2 (by kernel_rfl) (by kernel_rfl) (Go.Ab.kc (by kernel_rfl) h)
theorem v85_6 : ∀ (x : T.Xt) (c : List T.Term) (n : Int) (b : Bool) (i : Int) (n_1 : Nat) (Post : AV → List AObj → Prop),
  condP (decide (i < (↑(List.length c) : Int)))
      (condP b
        (needP ((0 : Int) ≤ i ∧ i < (↑(List.length c) : Int))
        (needP ((0 : Int) ≤ i ∧ i < (↑(List.length c) : Int))
        (ASpec Try.prog 87
        [AV.agg [AV.sl 5 (Seq.map T.encTE T.noTE (Prod.fst x)) Tip.none, AV.int IntKind.i64 (Prod.snd x)], AV.int IntKind.i64 n,
        AV.str { data := List.toArray (Prod.fst (List.getD c (Int.toNat i) T.noT)) }]
        [AObj.cells [AV.sl 5 (Seq.map T.encTE T.noTE (Prod.fst x)) Tip.none, AV.int IntKind.i64 (Prod.snd x)]] fun (r : AV) (H' : List AObj) =>
        ∃ (x_1 : List UInt8 × List T.Span × Bool),
        r =
        AV.agg
        [AV.str { data := List.toArray (Prod.fst x_1) }, AV.sl 2 (Seq.map T.encS ((0 : Int), (0 : Int)) (Prod.fst (Prod.snd x_1))) Tip.none, AV.bool (Prod.snd (Prod.snd x_1))] ∧
        H' = [AObj.cells [AV.sl 5 (Seq.map T.encTE T.noTE (Prod.fst x)) Tip.none, AV.int IntKind.i64 (Prod.snd x)]] ∧
        (AV.agg
        [AV.str { data := List.toArray (Prod.fst (List.getD c (Int.toNat i) T.noT)) },
        AV.sl 2 (Seq.map T.encS ((0 : Int), (0 : Int)) (Prod.fst (Prod.snd (List.getD c (Int.toNat i) T.noT)))) Tip.none,
        AV.bool (Prod.snd (Prod.snd (List.getD c (Int.toNat i) T.noT)))] =
        AV.agg
        [AV.str { data := List.toArray (Prod.fst (List.getD c (Int.toNat i) T.noT)) },
        AV.sl 2 (Seq.map T.encS ((0 : Int), (0 : Int)) (Prod.fst (Prod.snd (List.getD c (Int.toNat i) T.noT)))) Tip.none,
        AV.bool (Prod.snd (Prod.snd (List.getD c (Int.toNat i) T.noT)))] ∧
        [AObj.cells [AV.sl 5 (Seq.map T.encTE T.noTE (Prod.fst x)) Tip.none, AV.int IntKind.i64 (Prod.snd x)]] =
        [AObj.cells [AV.sl 5 (Seq.map T.encTE T.noTE (Prod.fst x)) Tip.none, AV.int IntKind.i64 (Prod.snd x)]]) ∧
        ASpec Try.prog 33
        [AV.agg
        [AV.str { data := List.toArray (Prod.fst x_1) }, AV.sl 2 (Seq.map T.encS ((0 : Int), (0 : Int)) (Prod.fst (Prod.snd x_1))) Tip.none,
        AV.bool (Prod.snd (Prod.snd x_1))],
        AV.agg
        [AV.str { data := List.toArray (Prod.fst (List.getD c (Int.toNat i) T.noT)) },
        AV.sl 2 (Seq.map T.encS ((0 : Int), (0 : Int)) (Prod.fst (Prod.snd (List.getD c (Int.toNat i) T.noT)))) Tip.none,
        AV.bool (Prod.snd (Prod.snd (List.getD c (Int.toNat i) T.noT)))]]
        [AObj.cells [AV.sl 5 (Seq.map T.encTE T.noTE (Prod.fst x)) Tip.none, AV.int IntKind.i64 (Prod.snd x)]] fun (r : AV) (H' : List AObj) =>
        ∃ (x_2 : Bool),
        r = AV.bool x_2 ∧
        H' = [AObj.cells [AV.sl 5 (Seq.map T.encTE T.noTE (Prod.fst x)) Tip.none, AV.int IntKind.i64 (Prod.snd x)]] ∧
        AWP Try.prog 39 n_1 c85_6
        [(1, AV.sl 3 (Seq.map T.encT T.noT c) Tip.none), (2, AV.ptr 0 0), (5, AV.int IntKind.i64 n), (6, AV.bool x_2),
        (7, AV.int IntKind.i64 (IntKind.wrap IntKind.i64 (i + (1 : Int))))]
        [AObj.cells [AV.sl 5 (Seq.map T.encTE T.noTE (Prod.fst x)) Tip.none, AV.int IntKind.i64 (Prod.snd x)]] (q85_7 n_1 Post))))
        (AV.tup [] = AV.tup [] ∧
        AWP Try.prog 39 n_1 c85_6
        [(1, AV.sl 3 (Seq.map T.encT T.noT c) Tip.none), (2, AV.ptr 0 0), (5, AV.int IntKind.i64 n), (6, AV.bool false),
        (7, AV.int IntKind.i64 (IntKind.wrap IntKind.i64 (i + (1 : Int))))]
        [AObj.cells [AV.sl 5 (Seq.map T.encTE T.noTE (Prod.fst x)) Tip.none, AV.int IntKind.i64 (Prod.snd x)]] (q85_7 n_1 Post)))
      (condP b (Post (AV.int IntKind.i64 n) [AObj.cells [AV.sl 5 (Seq.map T.encTE T.noTE (Prod.fst x)) Tip.none, AV.int IntKind.i64 (Prod.snd x)]])
        (AWP Try.prog 39 n_1 c85_2
        [(1, AV.sl 3 (Seq.map T.encT T.noT c) Tip.none), (2, AV.ptr 0 0), (5, AV.int IntKind.i64 (IntKind.wrap IntKind.i64 (n + (1 : Int))))]
        [AObj.cells [AV.sl 5 (Seq.map T.encTE T.noTE (Prod.fst x)) Tip.none, AV.int IntKind.i64 (Prod.snd x)]] (q85_2 n_1 Post))) →
    AWP Try.prog 39 n_1 c85_6
      [(1, AV.sl 3 (Seq.map T.encT T.noT c) Tip.none), (2, AV.ptr 0 0), (5, AV.int IntKind.i64 n), (6, AV.bool b),
        (7, AV.int IntKind.i64 i)]
      [AObj.cells (T.encXt x)] (q85_7 n_1 Post) := fun x c n b i n Post h => Go.Ab.AWP.loop' g85 (Cfg.live g85) c85_6 (by kernel_rfl) (by kernel_rfl) (Go.Ab.kc (by kernel_rfl) h)

-- 204
noncomputable def l204 : Nat → List Nat
  | 4 => [0, 1, 5]
  | _ => []
noncomputable def u204 : Nat → Bool
  | _ => false
noncomputable def m204 : Nat → Bool
  | _ => false
noncomputable def g204 : Cfg := { N := 26, live := l204, cut := u204, mu := m204, ret := rets }
noncomputable def c204 : Go.Code := Go.Ab.bodyOf Go.Proofs.Try.f204
noncomputable def q204_0 : Nat → (AV → List AObj → Prop) → AQ := fun (n : Nat) (Post : AV → List AObj → Prop) => endQ Try.prog (resultsOf Try.f204) Post
noncomputable def q204_1 : Nat → (AV → List AObj → Prop) → AQ := fun (n : Nat) (Post : AV → List AObj → Prop) => seqQ (fun (s' : Slots) (H' : List AObj) => awp Try.prog g204 n (codeSnd (codeSnd (codeSnd c204))) s' H' (q204_0 n Post)) (q204_0 n Post)
noncomputable def q204_2 : Nat → (AV → List AObj → Prop) → AQ := fun (n : Nat) (Post : AV → List AObj → Prop) => blockQ 0 (q204_1 n Post)
noncomputable def c204_4 : Go.Code := codeFst (codeSnd (codeFst (codeSnd (codeSnd c204))))
theorem s204 : ∀ (a b : List T.Pk) (Post : AV → List AObj → Prop),
  condP ((↑(List.length a) : Int) != (↑(List.length b) : Int)) (Post (AV.bool false) [])
      (AWP Try.prog 26 0 c204_4
        [(0, AV.sl 2 (Seq.map T.encPk T.noPk a) Tip.none), (1, AV.sl 2 (Seq.map T.encPk T.noPk b) Tip.none), (5, AV.int IntKind.i64 (0 : Int))] []
        (q204_2 0 Post)) →
    ASpec Try.prog 204 [AV.sl 2 (Seq.map T.encPk T.noPk a) Tip.none, AV.sl 2 (Seq.map T.encPk T.noPk b) Tip.none] [] Post := fun a b Post h => Go.Ab.ASpec.of_vc g204 Go.Proofs.Try.func204 (by kernel_rfl) (by kernel_rfl) (by kernel_rfl) (Go.Ab.kc (by kernel_rfl) h)
theorem v204_4 : ∀ (a b : List T.Pk) (i : Int) (n : Nat) (Post : AV → List AObj → Prop),
  condP (decide (i < (↑(List.length a) : Int)))
      (needP ((0 : Int) ≤ i ∧ i < (↑(List.length a) : Int))
        (needP ((0 : Int) ≤ i ∧ i < (↑(List.length b) : Int))
        (condP
        (!(ByteArray.toList { data := List.toArray (Prod.fst (List.getD a (Int.toNat i) T.noPk)) } == ByteArray.toList { data := List.toArray (Prod.fst (List.getD b (Int.toNat i) T.noPk)) } &&
        (Prod.snd (List.getD a (Int.toNat i) T.noPk) == Prod.snd (List.getD b (Int.toNat i) T.noPk) && true)))
        (Post (AV.bool false) [])
        (AWP Try.prog 26 n c204_4
        [(0, AV.sl 2 (Seq.map T.encPk T.noPk a) Tip.none), (1, AV.sl 2 (Seq.map T.encPk T.noPk b) Tip.none),
        (5, AV.int IntKind.i64 (IntKind.wrap IntKind.i64 (i + (1 : Int))))]
        [] (q204_2 n Post)))))
      (Post (AV.bool true) []) →
    AWP Try.prog 26 n c204_4
      [(0, AV.sl 2 (Seq.map T.encPk T.noPk a) Tip.none), (1, AV.sl 2 (Seq.map T.encPk T.noPk b) Tip.none), (5, AV.int IntKind.i64 i)] [] (q204_2 n Post) := fun a b i n Post h => Go.Ab.AWP.loop' g204 (Cfg.live g204) c204_4 (by kernel_rfl) (by kernel_rfl) (Go.Ab.kc (by kernel_rfl) h)

-- 293
noncomputable def l293 : Nat → List Nat
  | 5 => [0, 3, 5, 6, 7]
  | 11 => [3, 5, 6]
  | _ => []
noncomputable def u293 : Nat → Bool
  | 11 => true
  | _ => false
noncomputable def m293 : Nat → Bool
  | _ => false
noncomputable def g293 : Cfg := { N := 48, live := l293, cut := u293, mu := m293, ret := rets }
noncomputable def c293 : Go.Code := Go.Ab.bodyOf Go.Proofs.Try.f293
noncomputable def q293_0 : Nat → (AV → List AObj → Prop) → AQ := fun (n : Nat) (Post : AV → List AObj → Prop) => endQ Try.prog (resultsOf Try.f293) Post
noncomputable def c293_11 : Go.Code := codeSnd (codeSnd (codeSnd (codeSnd (codeSnd c293))))
noncomputable def q293_1 : Nat → (AV → List AObj → Prop) → AQ := fun (n : Nat) (Post : AV → List AObj → Prop) => seqQ (fun (s' : Slots) (H' : List AObj) => AWP Try.prog (Cfg.N g293) n c293_11 (restrict s' (Cfg.live g293 11)) H' (q293_0 n Post)) (q293_0 n Post)
noncomputable def q293_2 : Nat → (AV → List AObj → Prop) → AQ := fun (n : Nat) (Post : AV → List AObj → Prop) => blockQ 0 (q293_1 n Post)
noncomputable def c293_5 : Go.Code := codeFst (codeSnd (codeFst (codeSnd (codeSnd (codeSnd (codeSnd c293))))))
theorem s293 : ∀ (l : List T.Pk) (p : T.Pk) (Post : AV → List AObj → Prop),
  (ASpec Try.prog 334 [AV.sl 2 (Seq.map T.encPk T.noPk l) Tip.none, AV.str { data := List.toArray (Prod.fst p) }]
      [AObj.cells [AV.str { data := List.toArray (Prod.fst p) }, AV.int IntKind.i64 (Prod.snd p)]] fun (r : AV) (H' : List AObj) =>
      ∃ (x : List T.Pk),
        r = AV.sl 2 (Seq.map T.encPk T.noPk x) Tip.none ∧
        H' = [AObj.cells [AV.str { data := List.toArray (Prod.fst p) }, AV.int IntKind.i64 (Prod.snd p)]] ∧
        AWP Try.prog 48 0 c293_5
        [(0, AV.sl 2 (Seq.map T.encPk T.noPk x) Tip.none), (3, AV.ptr 0 0), (5, AV.sl 0 (Seq.raw []) Tip.nil), (6, AV.bool false),
        (7, AV.int IntKind.i64 (0 : Int))]
        [AObj.cells [AV.str { data := List.toArray (Prod.fst p) }, AV.int IntKind.i64 (Prod.snd p)]] (q293_2 0 Post)) →
    ASpec Try.prog 293 [AV.sl 2 (Seq.map T.encPk T.noPk l) Tip.none, AV.agg (T.encPk p)] [] Post := fun l p Post h => Go.Ab.ASpec.of_vc g293 Go.Proofs.Try.func293 (by kernel_rfl) (by kernel_rfl) (by kernel_rfl) (Go.Ab.kc (by kernel_rfl) h)
theorem v293_5 : ∀ (l o : List T.Pk) (p : T.Pk) (b : Bool) (i : Int) (n : Nat) (Post : AV → List AObj → Prop),
  condP (decide (i < (↑(List.length l) : Int)))
      (condP (!b)
        (needP ((0 : Int) ≤ i ∧ i < (↑(List.length l) : Int))
        (condP (Op.bytesLess (ByteArray.toList { data := List.toArray (Prod.fst p) }) (ByteArray.toList { data := List.toArray (Prod.fst (List.getD l (Int.toNat i) T.noPk)) }))
        (needP ((List.length o + 1) * 24 ≤ 140737488351232)
        (needP ((0 : Int) ≤ i ∧ i < (↑(List.length l) : Int))
        (needP ((List.length o + 1 + 1) * 24 ≤ 140737488351232)
        (AWP Try.prog 48 n c293_5
        [(0, AV.sl 2 (Seq.map T.encPk T.noPk l) Tip.none), (3, AV.ptr 0 0),
        (5,
        AV.sl 2
        (Seq.app (Seq.app (Seq.map T.encPk T.noPk o) (Seq.raw [[AV.str { data := List.toArray (Prod.fst p) }, AV.int IntKind.i64 (Prod.snd p)]]))
        (Seq.raw [[AV.str { data := List.toArray (Prod.fst (List.getD l (Int.toNat i) T.noPk)) }, AV.int IntKind.i64 (Prod.snd (List.getD l (Int.toNat i) T.noPk))]]))
        (Tip.tok 3)),
        (6, AV.bool true), (7, AV.int IntKind.i64 (IntKind.wrap IntKind.i64 (i + (1 : Int))))]
        [AObj.cells [AV.str { data := List.toArray (Prod.fst p) }, AV.int IntKind.i64 (Prod.snd p)], AObj.gone, AObj.gone, AObj.tok] (q293_2 n Post)))))
        (needP ((0 : Int) ≤ i ∧ i < (↑(List.length l) : Int))
        (needP ((List.length o + 1) * 24 ≤ 140737488351232)
        (AWP Try.prog 48 n c293_5
        [(0, AV.sl 2 (Seq.map T.encPk T.noPk l) Tip.none), (3, AV.ptr 0 0),
        (5,
        AV.sl 2
        (Seq.app (Seq.map T.encPk T.noPk o)
        (Seq.raw [[AV.str { data := List.toArray (Prod.fst (List.getD l (Int.toNat i) T.noPk)) }, AV.int IntKind.i64 (Prod.snd (List.getD l (Int.toNat i) T.noPk))]]))
        (Tip.tok 2)),
        (6, AV.bool b), (7, AV.int IntKind.i64 (IntKind.wrap IntKind.i64 (i + (1 : Int))))]
        [AObj.cells [AV.str { data := List.toArray (Prod.fst p) }, AV.int IntKind.i64 (Prod.snd p)], AObj.gone, AObj.tok] (q293_2 n Post))))))
        (needP ((0 : Int) ≤ i ∧ i < (↑(List.length l) : Int))
        (needP ((List.length o + 1) * 24 ≤ 140737488351232)
        (AWP Try.prog 48 n c293_5
        [(0, AV.sl 2 (Seq.map T.encPk T.noPk l) Tip.none), (3, AV.ptr 0 0),
        (5,
        AV.sl 2
        (Seq.app (Seq.map T.encPk T.noPk o)
        (Seq.raw [[AV.str { data := List.toArray (Prod.fst (List.getD l (Int.toNat i) T.noPk)) }, AV.int IntKind.i64 (Prod.snd (List.getD l (Int.toNat i) T.noPk))]]))
        (Tip.tok 2)),
        (6, AV.bool b), (7, AV.int IntKind.i64 (IntKind.wrap IntKind.i64 (i + (1 : Int))))]
        [AObj.cells [AV.str { data := List.toArray (Prod.fst p) }, AV.int IntKind.i64 (Prod.snd p)], AObj.gone, AObj.tok] (q293_2 n Post)))))
      (AWP Try.prog 48 n c293_11 [(3, AV.ptr 0 0), (5, AV.sl 2 (Seq.map T.encPk T.noPk o) (Tip.tok 1)), (6, AV.bool b)]
        [AObj.cells [AV.str { data := List.toArray (Prod.fst p) }, AV.int IntKind.i64 (Prod.snd p)], AObj.tok] (q293_0 n Post)) →
    AWP Try.prog 48 n c293_5
      [(0, AV.sl 2 (Seq.map T.encPk T.noPk l) Tip.none), (3, AV.ptr 0 0), (5, AV.sl 2 (Seq.map T.encPk T.noPk o) (Tip.tok 1)),
        (6, AV.bool b), (7, AV.int IntKind.i64 i)]
      [AObj.cells (T.encPk p), AObj.tok] (q293_2 n Post) := fun l o p b i n Post h => Go.Ab.AWP.loop' g293 (Cfg.live g293) c293_5 (by kernel_rfl) (by kernel_rfl) (Go.Ab.kc (by kernel_rfl) h)
theorem v293_11 : ∀ (o : List T.Pk) (p : T.Pk) (b : Bool) (n : Nat) (Post : AV → List AObj → Prop),
  condP (!b)
      (needP ((List.length o + 1) * 24 ≤ 140737488351232)
        (Post (AV.sl 2 (Seq.app (Seq.map T.encPk T.noPk o) (Seq.raw [[AV.str { data := List.toArray (Prod.fst p) }, AV.int IntKind.i64 (Prod.snd p)]])) (Tip.tok 2))
        [AObj.cells [AV.str { data := List.toArray (Prod.fst p) }, AV.int IntKind.i64 (Prod.snd p)], AObj.gone, AObj.tok]))
      (Post (AV.sl 2 (Seq.map T.encPk T.noPk o) (Tip.tok 1)) [AObj.cells [AV.str { data := List.toArray (Prod.fst p) }, AV.int IntKind.i64 (Prod.snd p)], AObj.tok]) →
    AWP Try.prog 48 n c293_11 [(3, AV.ptr 0 0), (5, AV.sl 2 (Seq.map T.encPk T.noPk o) (Tip.tok 1)), (6, AV.bool b)]
      [AObj.cells (T.encPk p), AObj.tok] (q293_0 n Post) := fun o p b n Post h => Go.Ab.awp_sound g293 n _ _ _ _ (Go.Ab.kc (by kernel_rfl) h)

-- 334
noncomputable def l334 : Nat → List Nat
  | 3 => [0, 1, 5, 6]
  | _ => []
noncomputable def u334 : Nat → Bool
  | _ => false
noncomputable def m334 : Nat → Bool
  | _ => false
noncomputable def g334 : Cfg := { N := 28, live := l334, cut := u334, mu := m334, ret := rets }
noncomputable def c334 : Go.Code := Go.Ab.bodyOf Go.Proofs.Try.f334
noncomputable def q334_0 : Nat → (AV → List AObj → Prop) → AQ := fun (n : Nat) (Post : AV → List AObj → Prop) => endQ Try.prog (resultsOf Try.f334) Post
noncomputable def q334_1 : Nat → (AV → List AObj → Prop) → AQ := fun (n : Nat) (Post : AV → List AObj → Prop) => seqQ (fun (s' : Slots) (H' : List AObj) => awp Try.prog g334 n (codeSnd (codeSnd (codeSnd c334))) s' H' (q334_0 n Post)) (q334_0 n Post)
noncomputable def q334_2 : Nat → (AV → List AObj → Prop) → AQ := fun (n : Nat) (Post : AV → List AObj → Prop) => blockQ 0 (q334_1 n Post)
noncomputable def c334_3 : Go.Code := codeFst (codeSnd (codeFst (codeSnd (codeSnd c334))))
theorem s334 : ∀ (l : List T.Pk) (s : List UInt8) (Post : AV → List AObj → Prop),
  AWP Try.prog 28 0 c334_3
      [(0, AV.sl 2 (Seq.map T.encPk T.noPk l) Tip.none), (1, AV.str { data := List.toArray s }), (5, AV.sl 0 (Seq.raw []) Tip.nil),
        (6, AV.int IntKind.i64 (0 : Int))]
      [] (q334_2 0 Post) →
    ASpec Try.prog 334 [AV.sl 2 (Seq.map T.encPk T.noPk l) Tip.none, AV.str { data := List.toArray s }] [] Post := fun l s Post h => Go.Ab.ASpec.of_vc g334 Go.Proofs.Try.func334 (by kernel_rfl) (by kernel_rfl) (by kernel_rfl) (Go.Ab.kc (by kernel_rfl) h)
theorem v334_3 : ∀ (l o : List T.Pk) (s : List UInt8) (i : Int) (n : Nat) (Post : AV → List AObj → Prop),
  condP (decide (i < (↑(List.length l) : Int)))
      (needP ((0 : Int) ≤ i ∧ i < (↑(List.length l) : Int))
        (condP (!ByteArray.toList { data := List.toArray (Prod.fst (List.getD l (Int.toNat i) T.noPk)) } == ByteArray.toList { data := List.toArray s })
        (needP ((0 : Int) ≤ i ∧ i < (↑(List.length l) : Int))
        (needP ((List.length o + 1) * 24 ≤ 140737488351232)
        (AWP Try.prog 28 n c334_3
        [(0, AV.sl 2 (Seq.map T.encPk T.noPk l) Tip.none), (1, AV.str { data := List.toArray s }),
        (5,
        AV.sl 2
        (Seq.app (Seq.map T.encPk T.noPk o)
        (Seq.raw [[AV.str { data := List.toArray (Prod.fst (List.getD l (Int.toNat i) T.noPk)) }, AV.int IntKind.i64 (Prod.snd (List.getD l (Int.toNat i) T.noPk))]]))
        (Tip.tok 1)),
        (6, AV.int IntKind.i64 (IntKind.wrap IntKind.i64 (i + (1 : Int))))]
        [AObj.gone, AObj.tok] (q334_2 n Post))))
        (AWP Try.prog 28 n c334_3
        [(0, AV.sl 2 (Seq.map T.encPk T.noPk l) Tip.none), (1, AV.str { data := List.toArray s }),
        (5, AV.sl 2 (Seq.map T.encPk T.noPk o) (Tip.tok 0)), (6, AV.int IntKind.i64 (IntKind.wrap IntKind.i64 (i + (1 : Int))))]
        [AObj.tok] (q334_2 n Post))))
      (Post (AV.sl 2 (Seq.map T.encPk T.noPk o) (Tip.tok 0)) [AObj.tok]) →
    AWP Try.prog 28 n c334_3
      [(0, AV.sl 2 (Seq.map T.encPk T.noPk l) Tip.none), (1, AV.str { data := List.toArray s }), (5, AV.sl 2 (Seq.map T.encPk T.noPk o) (Tip.tok 0)),
        (6, AV.int IntKind.i64 i)]
      [AObj.tok] (q334_2 n Post) := fun l o s i n Post h => Go.Ab.AWP.loop' g334 (Cfg.live g334) c334_3 (by kernel_rfl) (by kernel_rfl) (Go.Ab.kc (by kernel_rfl) h)

end
end Td
end
