/- Q2: several of this proof's own texts, one behind the other: what each proves stands at its head. -/
import Derived.Test.YtbjcdgepclmmjaaProg
import Derived.Test.YtbjcdgepclmmjaaA1
section
/- Printed: what the code of functions 140, 141, 150, 151, 142, 143, 145, 144, 251, 146, 147, 148, 149, 250, 252 asks for, by the framework's own reading of it; each line is checked against the code. -/

set_option linter.unusedVariables false
set_option maxRecDepth 100000
set_option maxHeartbeats 4000000
open Go Go.Ab Go.Proofs
namespace V
noncomputable section

noncomputable def encR (x : Int × Int) : List AV := [.int .i64 x.1, .int .i64 x.2]
noncomputable def rd (bs : List UInt8) (p e : Int) : AObj := .cells [.sl 1 (.map encB 0 bs) .none, .int .i64 p, .int .i64 e]
noncomputable def upd3 (args : List AV) (H : List AObj) (p e : Int) : List AObj := match args with
  | .ptr id _ :: _ => match H[id]? with
    | some (.cells [b, _, _]) => H.set id (.cells [b, .int .i64 p, .int .i64 e])
    | _ => H
  | _ => H
noncomputable def upd2 (args : List AV) (H : List AObj) (s : ByteArray) (e : Int) : List AObj := match args with
  | .ptr id _ :: _ => H.set id (.cells [.str s, .int .i64 e])
  | _ => H
noncomputable def retL : List (Nat × Ret) := [
  (9016, ⟨Unit, fun _ _ _ => .bool true, fun _ H _ => H⟩),
  (140, ⟨List UInt8, fun _ H l => .sl 1 (.map encB 0 l) (.tok H.length), fun _ H _ => H ++ [.tok]⟩),
  (141, ⟨List UInt8, fun _ H l => .sl 1 (.map encB 0 l) (.tok H.length), fun _ H _ => H ++ [.tok]⟩),
  (9019, ⟨ByteArray, fun _ _ s => .str s, fun _ H _ => H⟩),
  (151, ⟨ByteArray, fun _ _ s => .str s, fun _ H _ => H⟩),
  (142, ⟨List UInt8, fun _ H _ => .ptr H.length 0, fun _ H l => H ++ [rd l 0 0]⟩),
  (143, ⟨Int × Int × Int, fun _ _ x => .int .i64 x.1, fun a H x => upd3 a H x.2.1 x.2.2⟩),
  (145, ⟨ByteArray × Int × Int, fun _ _ x => .str x.1, fun a H x => upd3 a H x.2.1 x.2.2⟩),
  (144, ⟨Int, fun _ _ x => .int .i64 x, fun _ H _ => H⟩),
  (251, ⟨Int, fun _ _ x => .int .i64 x, fun _ H _ => H⟩),
  (147, ⟨Int × ByteArray × Int, fun _ _ x => .int .i64 x.1, fun a H x => upd2 a H x.2.1 x.2.2⟩),
  (148, ⟨ByteArray × ByteArray × Int, fun _ _ x => .str x.1, fun a H x => upd2 a H x.2.1 x.2.2⟩),
  (9028, ⟨Int × Int, fun _ _ x => .tup [], fun a H x => upd3 a H x.1 x.2⟩),
  (9029, ⟨ByteArray × Int, fun _ _ x => .tup [], fun a H x => upd2 a H x.1 x.2⟩),
  (146, ⟨Int, fun _ _ x => .int .i64 x, fun _ H _ => H⟩),
  (149, ⟨Int, fun _ _ x => .int .i64 x, fun _ H _ => H⟩),
  (150, ⟨ByteArray, fun _ _ s => .str s, fun _ H _ => H⟩),
  (250, ⟨Int × Int × Int × Int, fun _ _ x => .tup [.int .i64 x.1, .int .i64 x.2.1], fun a H x => upd3 a H x.2.2.1 x.2.2.2⟩),
  (252, ⟨Int × Int × Int, fun _ _ x => .tup [.int .i64 x.1, .int .i64 x.2.1, .int .i64 x.2.2], fun _ H _ => H⟩)]
noncomputable def rets : FuncId → List Ret := lookupR retL

-- 140
noncomputable def l147 : Nat → List Nat
  | _ => []
noncomputable def u147 : Nat → Bool
  | _ => false
noncomputable def m147 : Nat → Bool
  | _ => false
noncomputable def g147 : Cfg := { N := 37, live := l147, cut := u147, mu := m147, ret := rets }
theorem s147 : ∀ (s : ByteArray) (e most : Int) (Post : AV → List AObj → Prop),
  condP (e != (0 : Int)) (Post (AV.int IntKind.i64 (0 : Int)) [AObj.cells [AV.str s, AV.int IntKind.i64 e]])
      (ASpec Try.prog 252 [AV.str s, AV.int IntKind.i64 most] [AObj.cells [AV.str s, AV.int IntKind.i64 e]] fun (r : AV) (H' : List AObj) =>
        ∃ (x : Int × Int × Int),
        r = AV.tup [AV.int IntKind.i64 (Prod.fst x), AV.int IntKind.i64 (Prod.fst (Prod.snd x)), AV.int IntKind.i64 (Prod.snd (Prod.snd x))] ∧
        H' = [AObj.cells [AV.str s, AV.int IntKind.i64 e]] ∧
        needP ((0 : Int) ≤ Prod.fst (Prod.snd x) ∧ Prod.fst (Prod.snd x) ≤ (↑(ByteArray.size s) : Int))
        (Post (AV.int IntKind.i64 (Prod.fst x))
        [AObj.cells [AV.str (ByteArray.extract s (Int.toNat (Prod.fst (Prod.snd x))) (ByteArray.size s)), AV.int IntKind.i64 (Prod.snd (Prod.snd x))]])) →
    ASpec Try.prog 147 [AV.ptr 0 0, AV.int IntKind.i64 most] [AObj.cells [AV.str s, AV.int IntKind.i64 e]] Post := fun s e most Post h => Go.Ab.ASpec.of_vc g147 Go.Proofs.Try.func147 (by kernel_rfl) (by kernel_rfl) (by kernel_rfl) (Go.Ab.kc (by kernel_rfl) h)

-- 148
noncomputable def l148 : Nat → List Nat
  | _ => []
noncomputable def u148 : Nat → Bool
  | _ => false
noncomputable def m148 : Nat → Bool
  | _ => false
noncomputable def g148 : Cfg := { N := 64, live := l148, cut := u148, mu := m148, ret := rets }
theorem s148 : ∀ (s : ByteArray) (e most : Int) (Post : AV → List AObj → Prop),
  condP (e != (0 : Int)) (Post (AV.str { data := #[] }) [AObj.cells [AV.str s, AV.int IntKind.i64 e]])
      (ASpec Try.prog 252 [AV.str s, AV.int IntKind.i64 most] [AObj.cells [AV.str s, AV.int IntKind.i64 e]] fun (r : AV) (H' : List AObj) =>
        ∃ (x : Int × Int × Int),
        r = AV.tup [AV.int IntKind.i64 (Prod.fst x), AV.int IntKind.i64 (Prod.fst (Prod.snd x)), AV.int IntKind.i64 (Prod.snd (Prod.snd x))] ∧
        H' = [AObj.cells [AV.str s, AV.int IntKind.i64 e]] ∧
        condP (Prod.snd (Prod.snd x) == (0 : Int))
        (condP (decide (Prod.fst x > IntKind.wrap IntKind.i64 ((↑(ByteArray.size s) : Int) - Prod.fst (Prod.snd x))))
        (Post (AV.str { data := #[] }) [AObj.cells [AV.str s, AV.int IntKind.i64 (2 : Int)]])
        (condP (Prod.snd (Prod.snd x) != (0 : Int)) (Post (AV.str { data := #[] }) [AObj.cells [AV.str s, AV.int IntKind.i64 (Prod.snd (Prod.snd x))]])
        (needP
        ((0 : Int) ≤ Prod.fst (Prod.snd x) ∧
        Prod.fst (Prod.snd x) ≤ IntKind.wrap IntKind.i64 (Prod.fst (Prod.snd x) + Prod.fst x) ∧
        IntKind.wrap IntKind.i64 (Prod.fst (Prod.snd x) + Prod.fst x) ≤ (↑(ByteArray.size s) : Int))
        (needP ((0 : Int) ≤ IntKind.wrap IntKind.i64 (Prod.fst (Prod.snd x) + Prod.fst x) ∧ IntKind.wrap IntKind.i64 (Prod.fst (Prod.snd x) + Prod.fst x) ≤ (↑(ByteArray.size s) : Int))
        (Post (AV.str (ByteArray.extract s (Int.toNat (Prod.fst (Prod.snd x))) (Int.toNat (IntKind.wrap IntKind.i64 (Prod.fst (Prod.snd x) + Prod.fst x)))))
        [AObj.cells
        [AV.str (ByteArray.extract s (Int.toNat (IntKind.wrap IntKind.i64 (Prod.fst (Prod.snd x) + Prod.fst x))) (ByteArray.size s)),
        AV.int IntKind.i64 (Prod.snd (Prod.snd x))]])))))
        (condP (Prod.snd (Prod.snd x) != (0 : Int)) (Post (AV.str { data := #[] }) [AObj.cells [AV.str s, AV.int IntKind.i64 (Prod.snd (Prod.snd x))]])
        (needP
        ((0 : Int) ≤ Prod.fst (Prod.snd x) ∧
        Prod.fst (Prod.snd x) ≤ IntKind.wrap IntKind.i64 (Prod.fst (Prod.snd x) + Prod.fst x) ∧
        IntKind.wrap IntKind.i64 (Prod.fst (Prod.snd x) + Prod.fst x) ≤ (↑(ByteArray.size s) : Int))
        (needP ((0 : Int) ≤ IntKind.wrap IntKind.i64 (Prod.fst (Prod.snd x) + Prod.fst x) ∧ IntKind.wrap IntKind.i64 (Prod.fst (Prod.snd x) + Prod.fst x) ≤ (↑(ByteArray.size s) : Int))
        (Post (AV.str (ByteArray.extract s (Int.toNat (Prod.fst (Prod.snd x))) (Int.toNat (IntKind.wrap IntKind.i64 (Prod.fst (Prod.snd x) + Prod.fst x)))))
        [AObj.cells
        [AV.str (ByteArray.extract s (Int.toNat (IntKind.wrap IntKind.i64 (Prod.fst (Prod.snd x) + Prod.fst x))) (ByteArray.size s)),
        AV.int IntKind.i64 (Prod.snd (Prod.snd x))]]))))) →
    ASpec Try.prog 148 [AV.ptr 0 0, AV.int IntKind.i64 most] [AObj.cells [AV.str s, AV.int IntKind.i64 e]] Post := fun s e most Post h => Go.Ab.ASpec.of_vc g148 Go.Proofs.Try.func148 (by kernel_rfl) (by kernel_rfl) (by kernel_rfl) (Go.Ab.kc (by kernel_rfl) h)

-- 149
noncomputable def l252 : Nat → List Nat
  | 6 => [0, 1, 7]
  | 14 => [0, 1, 7, 8, 9]
  | _ => []
noncomputable def u252 : Nat → Bool
  | _ => false
noncomputable def m252 : Nat → Bool
  | _ => false
noncomputable def g252 : Cfg := { N := 60, live := l252, cut := u252, mu := m252, ret := rets }
noncomputable def c252 : Go.Code := Go.Ab.bodyOf Go.Proofs.Try.f252
noncomputable def q252_0 : Nat → (AV → List AObj → Prop) → AQ := fun (n : Nat) (Post : AV → List AObj → Prop) => endQ Try.prog (resultsOf Try.f252) Post
noncomputable def q252_1 : Nat → (AV → List AObj → Prop) → AQ := fun (n : Nat) (Post : AV → List AObj → Prop) => seqQ (fun (s' : Slots) (H' : List AObj) => awp Try.prog g252 n (codeSnd (codeSnd (codeSnd (codeSnd (codeSnd c252))))) s' H' (q252_0 n Post)) (q252_0 n Post)
noncomputable def q252_2 : Nat → (AV → List AObj → Prop) → AQ := fun (n : Nat) (Post : AV → List AObj → Prop) => blockQ 0 (q252_1 n Post)
noncomputable def c252_6 : Go.Code := codeFst (codeFst (codeSnd (codeSnd (codeSnd (codeSnd c252)))))
theorem s252 : ∀ (s : ByteArray) (most : Int) (Post : AV → List AObj → Prop),
  condP (ByteArray.toList s == ByteArray.toList { data := #[] }) (Post (AV.tup [AV.int IntKind.i64 (0 : Int), AV.int IntKind.i64 (0 : Int), AV.int IntKind.i64 (2 : Int)]) [])
      (needP ((0 : Int) ≤ (0 : Int) ∧ (0 : Int) < (↑(ByteArray.size s) : Int))
        (condP ((↑(UInt8.toNat (List.getD (Array.toList (ByteArray.data s)) 0 (0 : UInt8))) : Int) == (128 : Int))
        (Post (AV.tup [AV.int IntKind.i64 (0 : Int), AV.int IntKind.i64 (0 : Int), AV.int IntKind.i64 (3 : Int)]) [])
        (AWP Try.prog 60 0 c252_6 [(0, AV.str s), (1, AV.int IntKind.i64 most), (7, AV.int IntKind.i64 (0 : Int))] [] (q252_2 0 Post)))) →
    ASpec Try.prog 252 [AV.str s, AV.int IntKind.i64 most] [] Post := fun s most Post h => Go.Ab.ASpec.of_vc g252 Go.Proofs.Try.func252 (by kernel_rfl) (by kernel_rfl) (by kernel_rfl) (Go.Ab.kc (by kernel_rfl) h)
noncomputable def q252_3 : Nat → (AV → List AObj → Prop) → AQ := fun (n : Nat) (Post : AV → List AObj → Prop) => seqQ (fun (s' : Slots) (H' : List AObj) => awp Try.prog g252 n (codeSnd (codeSnd (codeSnd (codeSnd (codeSnd (codeSnd (codeSnd (codeSnd (codeSnd c252))))))))) s' H' (q252_0 n Post)) (q252_0 n Post)
noncomputable def q252_4 : Nat → (AV → List AObj → Prop) → AQ := fun (n : Nat) (Post : AV → List AObj → Prop) => blockQ 2 (q252_3 n Post)
noncomputable def c252_14 : Go.Code := codeFst (codeSnd (codeFst (codeSnd (codeSnd (codeSnd (codeSnd (codeSnd (codeSnd (codeSnd (codeSnd c252))))))))))
theorem v252_6 : ∀ (s : ByteArray) (most k : Int) (n : Nat) (Post : AV → List AObj → Prop),
  condP (decide (k < (↑(ByteArray.size s) : Int)))
      (condP (decide (k < (6 : Int)))
        (needP ((0 : Int) ≤ k ∧ k < (↑(ByteArray.size s) : Int))
        (condP (decide ((↑(UInt8.toNat (List.getD (Array.toList (ByteArray.data s)) (Int.toNat k) (0 : UInt8))) : Int) ≥ (128 : Int)))
        (AWP Try.prog 60 n c252_6 [(0, AV.str s), (1, AV.int IntKind.i64 most), (7, AV.int IntKind.i64 (IntKind.wrap IntKind.i64 (k + (1 : Int))))] []
        (q252_2 n Post))
        (condP (k == (6 : Int)) (Post (AV.tup [AV.int IntKind.i64 (0 : Int), AV.int IntKind.i64 (0 : Int), AV.int IntKind.i64 (4 : Int)]) [])
        (condP (k == (↑(ByteArray.size s) : Int)) (Post (AV.tup [AV.int IntKind.i64 (0 : Int), AV.int IntKind.i64 (0 : Int), AV.int IntKind.i64 (2 : Int)]) [])
        (AWP Try.prog 60 n c252_14
        [(0, AV.str s), (1, AV.int IntKind.i64 most), (7, AV.int IntKind.i64 k), (8, AV.int IntKind.i64 (0 : Int)), (9, AV.int IntKind.i64 (0 : Int))]
        [] (q252_4 n Post))))))
        (condP (k == (6 : Int)) (Post (AV.tup [AV.int IntKind.i64 (0 : Int), AV.int IntKind.i64 (0 : Int), AV.int IntKind.i64 (4 : Int)]) [])
        (condP (k == (↑(ByteArray.size s) : Int)) (Post (AV.tup [AV.int IntKind.i64 (0 : Int), AV.int IntKind.i64 (0 : Int), AV.int IntKind.i64 (2 : Int)]) [])
        (AWP Try.prog 60 n c252_14
        [(0, AV.str s), (1, AV.int IntKind.i64 most), (7, AV.int IntKind.i64 k), (8, AV.int IntKind.i64 (0 : Int)), (9, AV.int IntKind.i64 (0 : Int))] []
        (q252_4 n Post)))))
      (condP (k == (6 : Int)) (Post (AV.tup [AV.int IntKind.i64 (0 : Int), AV.int IntKind.i64 (0 : Int), AV.int IntKind.i64 (4 : Int)]) [])
        (condP (k == (↑(ByteArray.size s) : Int)) (Post (AV.tup [AV.int IntKind.i64 (0 : Int), AV.int IntKind.i64 (0 : Int), AV.int IntKind.i64 (2 : Int)]) [])
        (AWP Try.prog 60 n c252_14
        [(0, AV.str s), (1, AV.int IntKind.i64 most), (7, AV.int IntKind.i64 k), (8, AV.int IntKind.i64 (0 : Int)), (9, AV.int IntKind.i64 (0 : Int))] []
        (q252_4 n Post)))) →
    AWP Try.prog 60 n c252_6 [(0, AV.str s), (1, AV.int IntKind.i64 most), (7, AV.int IntKind.i64 k)] [] (q252_2 n Post) := fun s most k n Post h => Go.Ab.AWP.loop' g252 (Cfg.live g252) c252_6 (by kernel_rfl) (by kernel_rfl) (Go.Ab.kc (by kernel_rfl) h)
theorem v252_14 : ∀ (s : ByteArray) (most k x i : Int) (n : Nat) (Post : AV → List AObj → Prop),
  condP (decide (i ≤ k))
      (needP ((0 : Int) ≤ i ∧ i < (↑(ByteArray.size s) : Int))
        (needP ((128 : Int) ≠ (0 : Int))
        (AWP Try.prog 60 n c252_14
        [(0, AV.str s), (1, AV.int IntKind.i64 most), (7, AV.int IntKind.i64 k),
        (8,
        AV.int IntKind.i64
        (IntKind.wrap IntKind.i64
        (IntKind.wrap IntKind.i64 (x * (128 : Int)) +
        IntKind.wrap IntKind.i64 (Int.tmod (↑(UInt8.toNat (List.getD (Array.toList (ByteArray.data s)) (Int.toNat i) (0 : UInt8))) : Int) (128 : Int))))),
        (9, AV.int IntKind.i64 (IntKind.wrap IntKind.i64 (i + (1 : Int))))]
        [] (q252_4 n Post))))
      (condP (decide (x > (1099511627776 : Int))) (Post (AV.tup [AV.int IntKind.i64 (0 : Int), AV.int IntKind.i64 (0 : Int), AV.int IntKind.i64 (4 : Int)]) [])
        (condP (decide (x > most)) (Post (AV.tup [AV.int IntKind.i64 (0 : Int), AV.int IntKind.i64 (0 : Int), AV.int IntKind.i64 (4 : Int)]) [])
        (Post (AV.tup [AV.int IntKind.i64 x, AV.int IntKind.i64 (IntKind.wrap IntKind.i64 (k + (1 : Int))), AV.int IntKind.i64 (0 : Int)]) []))) →
    AWP Try.prog 60 n c252_14
      [(0, AV.str s), (1, AV.int IntKind.i64 most), (7, AV.int IntKind.i64 k), (8, AV.int IntKind.i64 x), (9, AV.int IntKind.i64 i)] [] (q252_4 n Post) := fun s most k x i n Post h => Go.Ab.AWP.loop' g252 (Cfg.live g252) c252_14 (by kernel_rfl) (by kernel_rfl) (Go.Ab.kc (by kernel_rfl) h)

end
end V
end

section
/- Spans, needs, releases and manifests as cells. -/

open Go Go.Ab Go.Proofs
namespace T
abbrev Span := Int × Int
abbrev Need := List UInt8 × List Span
abbrev Rel := Int × List Need
abbrev Mani := List UInt8 × List Rel
noncomputable def encS (x : Span) : List AV := [.int .i64 x.1, .int .i64 x.2]
noncomputable def encN (x : Need) : List AV := [.str ⟨x.1.toArray⟩, .sl 2 (.map encS (0, 0) x.2) .none]
noncomputable def encR (x : Rel) : List AV := [.int .i64 x.1, .sl 2 (.map encN ([], []) x.2) .none]
noncomputable def encM (x : Mani) : List AV := [.str ⟨x.1.toArray⟩, .sl 2 (.map encR (0, []) x.2) .none]
end T
end

section
/- Printed: what the code of functions 256, 285, 232, 239, 185, 186, 231, 130, 66, 163, 173, 62 asks for, by the framework's own reading of it; each line is checked against the code. -/

set_option linter.unusedVariables false
set_option maxRecDepth 100000
set_option maxHeartbeats 4000000
open Go Go.Ab Go.Proofs
namespace C
noncomputable section

noncomputable def retC : List (Nat × Ret) := [
  (39, ⟨Bool, fun _ _ x => .bool x, fun _ H _ => H⟩), (66, ⟨Bool, fun _ _ x => .bool x, fun _ H _ => H⟩), (62, ⟨Bool, fun _ _ x => .bool x, fun _ H _ => H⟩), (186, ⟨Bool, fun _ _ x => .bool x, fun _ H _ => H⟩),
  (154, ⟨Bool, fun _ _ x => .bool x, fun _ H _ => H⟩), (130, ⟨Bool, fun _ _ x => .bool x, fun _ H _ => H⟩), (185, ⟨Bool, fun _ _ x => .bool x, fun _ H _ => H⟩), (173, ⟨Bool, fun _ _ x => .bool x, fun _ H _ => H⟩),
  (231, ⟨Bool, fun _ _ x => .bool x, fun _ H _ => H⟩), (239, ⟨Bool, fun _ _ x => .bool x, fun _ H _ => H⟩), (163, ⟨Bool, fun _ _ x => .bool x, fun _ H _ => H⟩), (232, ⟨Bool, fun _ _ x => .bool x, fun _ H _ => H⟩),
  (285, ⟨Bool, fun _ _ x => .bool x, fun _ H _ => H⟩), (256, ⟨Bool, fun _ _ x => .bool x, fun _ H _ => H⟩)]
noncomputable def rets : FuncId → List Ret := lookupR (retC ++ V.retL)

-- 256
noncomputable def l256 : Nat → List Nat
  | 3 => [3, 6, 7, 8]
  | _ => []
noncomputable def u256 : Nat → Bool
  | _ => false
noncomputable def m256 : Nat → Bool
  | _ => false
noncomputable def g256 : Cfg := { N := 31, live := l256, cut := u256, mu := m256, ret := rets }
noncomputable def c256 : Go.Code := Go.Ab.bodyOf Go.Proofs.Try.f256
noncomputable def q256_0 : Nat → (AV → List AObj → Prop) → AQ := fun (n : Nat) (Post : AV → List AObj → Prop) => endQ Try.prog (resultsOf Try.f256) Post
noncomputable def q256_1 : Nat → (AV → List AObj → Prop) → AQ := fun (n : Nat) (Post : AV → List AObj → Prop) => seqQ (fun (s' : Slots) (H' : List AObj) => awp Try.prog g256 n (codeSnd (codeSnd (codeSnd c256))) s' H' (q256_0 n Post)) (q256_0 n Post)
noncomputable def q256_2 : Nat → (AV → List AObj → Prop) → AQ := fun (n : Nat) (Post : AV → List AObj → Prop) => blockQ 0 (q256_1 n Post)
noncomputable def c256_3 : Go.Code := codeFst (codeSnd (codeFst (codeSnd (codeSnd c256))))
theorem s256 : ∀ (l : List T.Span) (Post : AV → List AObj → Prop),
  AWP Try.prog 31 0 c256_3
      [(3, AV.int IntKind.i64 (-1 : Int)), (6, AV.sl 2 (Seq.map T.encS ((0 : Int), (0 : Int)) l) Tip.none), (7, AV.int IntKind.i64 (↑(List.length l) : Int)),
        (8, AV.int IntKind.i64 (0 : Int))]
      [] (q256_2 0 Post) →
    ASpec Try.prog 256 [AV.sl 2 (Seq.map T.encS ((0 : Int), (0 : Int)) l) Tip.none] [] Post := fun l Post h => Go.Ab.ASpec.of_vc g256 Go.Proofs.Try.func256 (by kernel_rfl) (by kernel_rfl) (by kernel_rfl) (Go.Ab.kc (by kernel_rfl) h)
theorem v256_3 : ∀ (l : List T.Span) (e n i : Int) (n_1 : Nat) (Post : AV → List AObj → Prop),
  condP (decide (i < n))
      (needP ((0 : Int) ≤ i ∧ i < (↑(List.length l) : Int))
        (condP (decide (Prod.fst (List.getD l (Int.toNat i) ((0 : Int), (0 : Int))) ≤ e))
        (Post (AV.bool false)
        [AObj.cells [AV.int IntKind.i64 (Prod.fst (List.getD l (Int.toNat i) ((0 : Int), (0 : Int)))), AV.int IntKind.i64 (Prod.snd (List.getD l (Int.toNat i) ((0 : Int), (0 : Int))))]])
        (condP (decide (Prod.fst (List.getD l (Int.toNat i) ((0 : Int), (0 : Int))) ≥ Prod.snd (List.getD l (Int.toNat i) ((0 : Int), (0 : Int)))))
        (Post (AV.bool false)
        [AObj.cells [AV.int IntKind.i64 (Prod.fst (List.getD l (Int.toNat i) ((0 : Int), (0 : Int)))), AV.int IntKind.i64 (Prod.snd (List.getD l (Int.toNat i) ((0 : Int), (0 : Int))))]])
        (condP (decide (Prod.snd (List.getD l (Int.toNat i) ((0 : Int), (0 : Int))) > (1000000000 : Int)))
        (Post (AV.bool false)
        [AObj.cells [AV.int IntKind.i64 (Prod.fst (List.getD l (Int.toNat i) ((0 : Int), (0 : Int)))), AV.int IntKind.i64 (Prod.snd (List.getD l (Int.toNat i) ((0 : Int), (0 : Int))))]])
        (AWP Try.prog 31 n_1 c256_3
        [(3, AV.int IntKind.i64 (Prod.snd (List.getD l (Int.toNat i) ((0 : Int), (0 : Int))))), (6, AV.sl 2 (Seq.map T.encS ((0 : Int), (0 : Int)) l) Tip.none),
        (7, AV.int IntKind.i64 n), (8, AV.int IntKind.i64 (IntKind.wrap IntKind.i64 (i + (1 : Int))))]
        [AObj.cells [AV.int IntKind.i64 (Prod.fst (List.getD l (Int.toNat i) ((0 : Int), (0 : Int)))), AV.int IntKind.i64 (Prod.snd (List.getD l (Int.toNat i) ((0 : Int), (0 : Int))))]]
        (q256_2 n_1 Post))))))
      (Post (AV.bool true) []) →
    AWP Try.prog 31 n_1 c256_3
      [(3, AV.int IntKind.i64 e), (6, AV.sl 2 (Seq.map T.encS ((0 : Int), (0 : Int)) l) Tip.none), (7, AV.int IntKind.i64 n), (8, AV.int IntKind.i64 i)] []
      (q256_2 n_1 Post) := fun l e n i n Post h => Go.Ab.AWP.loop' g256 (Cfg.live g256) c256_3 (by kernel_rfl) (by kernel_rfl) (Go.Ab.kc (by kernel_rfl) h)

-- 285
noncomputable def l130 : Nat → List Nat
  | 4 => [0, 3]
  | _ => []
noncomputable def l163 : Nat → List Nat
  | 4 => [0, 1, 5]
  | _ => []
noncomputable def u163 : Nat → Bool
  | _ => false
noncomputable def m163 : Nat → Bool
  | _ => false
noncomputable def g163 : Cfg := { N := 26, live := l163, cut := u163, mu := m163, ret := rets }
noncomputable def c163 : Go.Code := Go.Ab.bodyOf Go.Proofs.Try.f163
noncomputable def q163_0 : Nat → (AV → List AObj → Prop) → AQ := fun (n : Nat) (Post : AV → List AObj → Prop) => endQ Try.prog (resultsOf Try.f163) Post
noncomputable def q163_1 : Nat → (AV → List AObj → Prop) → AQ := fun (n : Nat) (Post : AV → List AObj → Prop) => seqQ (fun (s' : Slots) (H' : List AObj) => awp Try.prog g163 n (codeSnd (codeSnd (codeSnd c163))) s' H' (q163_0 n Post)) (q163_0 n Post)
noncomputable def q163_2 : Nat → (AV → List AObj → Prop) → AQ := fun (n : Nat) (Post : AV → List AObj → Prop) => blockQ 0 (q163_1 n Post)
noncomputable def c163_4 : Go.Code := codeFst (codeSnd (codeFst (codeSnd (codeSnd c163))))
theorem s163 : ∀ (a b : List T.Span) (Post : AV → List AObj → Prop),
  condP ((↑(List.length a) : Int) != (↑(List.length b) : Int)) (Post (AV.bool false) [])
      (AWP Try.prog 26 0 c163_4
        [(0, AV.sl 2 (Seq.map T.encS ((0 : Int), (0 : Int)) a) Tip.none), (1, AV.sl 2 (Seq.map T.encS ((0 : Int), (0 : Int)) b) Tip.none),
        (5, AV.int IntKind.i64 (0 : Int))]
        [] (q163_2 0 Post)) →
    ASpec Try.prog 163 [AV.sl 2 (Seq.map T.encS ((0 : Int), (0 : Int)) a) Tip.none, AV.sl 2 (Seq.map T.encS ((0 : Int), (0 : Int)) b) Tip.none] [] Post := fun a b Post h => Go.Ab.ASpec.of_vc g163 Go.Proofs.Try.func163 (by kernel_rfl) (by kernel_rfl) (by kernel_rfl) (Go.Ab.kc (by kernel_rfl) h)
theorem v163_4 : ∀ (a b : List T.Span) (i : Int) (n : Nat) (Post : AV → List AObj → Prop),
  condP (decide (i < (↑(List.length a) : Int)))
      (needP ((0 : Int) ≤ i ∧ i < (↑(List.length a) : Int))
        (needP ((0 : Int) ≤ i ∧ i < (↑(List.length b) : Int))
        (condP
        (!(Prod.fst (List.getD a (Int.toNat i) ((0 : Int), (0 : Int))) == Prod.fst (List.getD b (Int.toNat i) ((0 : Int), (0 : Int))) &&
        (Prod.snd (List.getD a (Int.toNat i) ((0 : Int), (0 : Int))) == Prod.snd (List.getD b (Int.toNat i) ((0 : Int), (0 : Int))) && true)))
        (Post (AV.bool false) [])
        (AWP Try.prog 26 n c163_4
        [(0, AV.sl 2 (Seq.map T.encS ((0 : Int), (0 : Int)) a) Tip.none), (1, AV.sl 2 (Seq.map T.encS ((0 : Int), (0 : Int)) b) Tip.none),
        (5, AV.int IntKind.i64 (IntKind.wrap IntKind.i64 (i + (1 : Int))))]
        [] (q163_2 n Post)))))
      (Post (AV.bool true) []) →
    AWP Try.prog 26 n c163_4
      [(0, AV.sl 2 (Seq.map T.encS ((0 : Int), (0 : Int)) a) Tip.none), (1, AV.sl 2 (Seq.map T.encS ((0 : Int), (0 : Int)) b) Tip.none),
        (5, AV.int IntKind.i64 i)]
      [] (q163_2 n Post) := fun a b i n Post h => Go.Ab.AWP.loop' g163 (Cfg.live g163) c163_4 (by kernel_rfl) (by kernel_rfl) (Go.Ab.kc (by kernel_rfl) h)

-- 173
end
end C
end

section
/- Terms, and a trail's entries, as cells. -/

open Go Go.Ab Go.Proofs
namespace T
/-- name, places, none -/
abbrev Term := List UInt8 × List Span × Bool
noncomputable def encT (x : Term) : List AV := [.str ⟨x.1.toArray⟩, .sl 2 (.map encS (0, 0) x.2.1) .none, .bool x.2.2]
abbrev noT : Term := ([], [], false)
/-- term, level, cause -/
abbrev TE := Term × Int × Int
noncomputable def encTE (x : TE) : List AV := [.str ⟨x.1.1.toArray⟩, .sl 2 (.map encS (0, 0) x.1.2.1) .none, .bool x.1.2.2, .int .i64 x.2.1, .int .i64 x.2.2]
abbrev noTE : TE := (noT, 0, 0)
end T
end

section
/- Printed: what the code of functions 366, 367, 318, 254, 368, 369, 319, 258, 320, 259, 289, 157, 255, 321, 260, 162, 331, 371, 392, 370, 257, 160, 161, 155, 159, 158, 200, 33, 34, 36, 153 asks for, by the framework's own reading of it; each line is checked against the code. -/

set_option linter.unusedVariables false
set_option maxRecDepth 100000
set_option maxHeartbeats 4000000
open Go Go.Ab Go.Proofs
namespace Sg
noncomputable section

noncomputable def addH (args : List AV) (H : List AObj) (o : AObj) : List AObj := match args with
  | .msl _ id _ _ :: _ => H.set id o
  | _ => H
noncomputable def addG (args : List AV) (H : List AObj) (o : AObj) : List AObj := match args with
  | .msl _ id _ _ :: _ => H.set id .gone ++ [o]
  | _ => H
noncomputable def headV : List AV → AV
  | v :: _ => v
  | [] => .bad
noncomputable def retG : List (Nat × Ret) := [
  (366, ⟨Int × Bool, fun _ _ x => .tup [.int .i64 x.1, .bool x.2], fun _ H _ => H⟩), (367, ⟨Int, fun _ _ x => .int .i64 x, fun _ H _ => H⟩), (318, ⟨Int, fun _ _ x => .int .i64 x, fun _ H _ => H⟩), (254, ⟨Bool, fun _ _ x => .bool x, fun _ H _ => H⟩), (368, ⟨Int, fun _ _ x => .int .i64 x, fun _ H _ => H⟩),
  (369, ⟨T.Span, fun _ H x => .msl 2 H.length 0 1, fun _ H x => H ++ [.arr 2 (.map T.encS (0, 0) [x])]⟩),
  (369, ⟨List T.Span, fun a _ x => headV a, fun a H x => addH a H (.arr 2 (.map T.encS (0, 0) x))⟩),
  (369, ⟨List T.Span, fun a H x => .msl 2 H.length 0 x.length, fun a H x => addG a H (.arr 2 (.map T.encS (0, 0) x))⟩),
  (319, ⟨List T.Span, fun _ _ x => .sl 2 (.map T.encS (0, 0) x) .none, fun _ H _ => H⟩), (258, ⟨List T.Span, fun _ _ x => .sl 2 (.map T.encS (0, 0) x) .none, fun _ H _ => H⟩), (320, ⟨Bool, fun _ _ x => .bool x, fun _ H _ => H⟩), (259, ⟨Bool, fun _ _ x => .bool x, fun _ H _ => H⟩), (289, ⟨List T.Span, fun _ _ x => .sl 2 (.map T.encS (0, 0) x) .none, fun _ H _ => H⟩), (157, ⟨List T.Span, fun _ _ x => .sl 2 (.map T.encS (0, 0) x) .none, fun _ H _ => H⟩), (255, ⟨List T.Span, fun _ _ x => .sl 2 (.map T.encS (0, 0) x) .none, fun _ H _ => H⟩),
  (321, ⟨List T.Span, fun _ _ x => .sl 2 (.map T.encS (0, 0) x) .none, fun _ H _ => H⟩), (260, ⟨List T.Span, fun _ _ x => .sl 2 (.map T.encS (0, 0) x) .none, fun _ H _ => H⟩), (162, ⟨Bool, fun _ _ x => .bool x, fun _ H _ => H⟩), (331, ⟨Bool, fun _ _ x => .bool x, fun _ H _ => H⟩), (371, ⟨Bool, fun _ _ x => .bool x, fun _ H _ => H⟩), (370, ⟨List Int, fun _ _ x => .sl 1 (.map encI 0 x) .none, fun _ H _ => H⟩), (392, ⟨List Int, fun _ _ x => .sl 1 (.map encI 0 x) .none, fun _ H _ => H⟩),
  (257, ⟨T.Term, fun _ _ x => .agg (T.encT x), fun _ H _ => H⟩), (160, ⟨T.Term, fun _ _ x => .agg (T.encT x), fun _ H _ => H⟩), (161, ⟨Bool, fun _ _ x => .bool x, fun _ H _ => H⟩), (155, ⟨Bool, fun _ _ x => .bool x, fun _ H _ => H⟩), (159, ⟨Bool, fun _ _ x => .bool x, fun _ H _ => H⟩), (158, ⟨Bool, fun _ _ x => .bool x, fun _ H _ => H⟩), (200, ⟨T.Term, fun _ _ x => .agg (T.encT x), fun _ H _ => H⟩), (33, ⟨Bool, fun _ _ x => .bool x, fun _ H _ => H⟩), (34, ⟨Bool, fun _ _ x => .bool x, fun _ H _ => H⟩), (36, ⟨Bool, fun _ _ x => .bool x, fun _ H _ => H⟩), (153, ⟨Bool, fun _ _ x => .bool x, fun _ H _ => H⟩)]
noncomputable def rets : FuncId → List Ret := lookupR (retG ++ C.retC ++ V.retL)

-- 366
noncomputable def l366 : Nat → List Nat
  | 3 => [0, 1, 2, 8, 9, 10]
  | _ => []
noncomputable def u366 : Nat → Bool
  | _ => false
noncomputable def m366 : Nat → Bool
  | _ => false
noncomputable def g366 : Cfg := { N := 49, live := l366, cut := u366, mu := m366, ret := rets }
noncomputable def c366 : Go.Code := Go.Ab.bodyOf Go.Proofs.Try.f366
noncomputable def q366_0 : Nat → (AV → List AObj → Prop) → AQ := fun (n : Nat) (Post : AV → List AObj → Prop) => endQ Try.prog (resultsOf Try.f366) Post
noncomputable def q366_1 : Nat → (AV → List AObj → Prop) → AQ := fun (n : Nat) (Post : AV → List AObj → Prop) => seqQ (fun (s' : Slots) (H' : List AObj) => awp Try.prog g366 n (codeSnd (codeSnd (codeSnd (codeSnd c366)))) s' H' (q366_0 n Post)) (q366_0 n Post)
noncomputable def q366_2 : Nat → (AV → List AObj → Prop) → AQ := fun (n : Nat) (Post : AV → List AObj → Prop) => blockQ 0 (q366_1 n Post)
noncomputable def c366_3 : Go.Code := codeFst (codeFst (codeSnd (codeSnd (codeSnd c366))))
theorem s366 : ∀ (l : List T.Span) (p : Int) (Post : AV → List AObj → Prop),
  AWP Try.prog 49 0 c366_3
      [(0, AV.sl 2 (Seq.map T.encS ((0 : Int), (0 : Int)) l) Tip.none), (1, AV.int IntKind.i64 p), (2, AV.fn (367 : FuncId) []),
        (8, AV.int IntKind.i64 (↑(List.length l) : Int)), (9, AV.int IntKind.i64 (0 : Int)), (10, AV.int IntKind.i64 (↑(List.length l) : Int))]
      [] (q366_2 0 Post) →
    ASpec Try.prog 366 [AV.sl 2 (Seq.map T.encS ((0 : Int), (0 : Int)) l) Tip.none, AV.int IntKind.i64 p, AV.fn (367 : FuncId) []] [] Post := fun l p Post h => Go.Ab.ASpec.of_vc g366 Go.Proofs.Try.func366 (by kernel_rfl) (by kernel_rfl) (by kernel_rfl) (Go.Ab.kc (by kernel_rfl) h)
theorem v366_3 : ∀ (l : List T.Span) (p n i j : Int) (n_1 : Nat) (Post : AV → List AObj → Prop),
  condP (decide (i < j))
      (needP ((0 : Int) ≤ (1 : Int))
        (needP
        ((0 : Int) ≤ IntKind.wrap IntKind.i64 (Int.fdiv (IntKind.wrap IntKind.u64 (IntKind.wrap IntKind.i64 (i + j))) (2 : Int)) ∧
        IntKind.wrap IntKind.i64 (Int.fdiv (IntKind.wrap IntKind.u64 (IntKind.wrap IntKind.i64 (i + j))) (2 : Int)) < (↑(List.length l) : Int))
        (ASpec Try.prog 367
        [AV.agg
        [AV.int IntKind.i64
        (Prod.fst (List.getD l (Int.toNat (IntKind.wrap IntKind.i64 (Int.fdiv (IntKind.wrap IntKind.u64 (IntKind.wrap IntKind.i64 (i + j))) (2 : Int)))) ((0 : Int), (0 : Int)))),
        AV.int IntKind.i64
        (Prod.snd (List.getD l (Int.toNat (IntKind.wrap IntKind.i64 (Int.fdiv (IntKind.wrap IntKind.u64 (IntKind.wrap IntKind.i64 (i + j))) (2 : Int)))) ((0 : Int), (0 : Int))))],
        AV.int IntKind.i64 p]
        [] fun (r : AV) (H' : List AObj) =>
        ∃ (x : Int),
        r = AV.int IntKind.i64 x ∧
        H' = [] ∧
        condP (decide (x < (0 : Int)))
        (AWP Try.prog 49 n_1 c366_3
        [(0, AV.sl 2 (Seq.map T.encS ((0 : Int), (0 : Int)) l) Tip.none), (1, AV.int IntKind.i64 p), (2, AV.fn (367 : FuncId) []),
        (8, AV.int IntKind.i64 n),
        (9,
        AV.int IntKind.i64 (IntKind.wrap IntKind.i64 (IntKind.wrap IntKind.i64 (Int.fdiv (IntKind.wrap IntKind.u64 (IntKind.wrap IntKind.i64 (i + j))) (2 : Int)) + (1 : Int)))),
        (10, AV.int IntKind.i64 j)]
        [] (q366_2 n_1 Post))
        (AWP Try.prog 49 n_1 c366_3
        [(0, AV.sl 2 (Seq.map T.encS ((0 : Int), (0 : Int)) l) Tip.none), (1, AV.int IntKind.i64 p), (2, AV.fn (367 : FuncId) []),
        (8, AV.int IntKind.i64 n), (9, AV.int IntKind.i64 i),
        (10, AV.int IntKind.i64 (IntKind.wrap IntKind.i64 (Int.fdiv (IntKind.wrap IntKind.u64 (IntKind.wrap IntKind.i64 (i + j))) (2 : Int))))]
        [] (q366_2 n_1 Post)))))
      (condP (decide (i < n))
        (needP ((0 : Int) ≤ i ∧ i < (↑(List.length l) : Int))
        (ASpec Try.prog 367
        [AV.agg [AV.int IntKind.i64 (Prod.fst (List.getD l (Int.toNat i) ((0 : Int), (0 : Int)))), AV.int IntKind.i64 (Prod.snd (List.getD l (Int.toNat i) ((0 : Int), (0 : Int))))],
        AV.int IntKind.i64 p]
        [] fun (r : AV) (H' : List AObj) => ∃ (x : Int), r = AV.int IntKind.i64 x ∧ H' = [] ∧ Post (AV.tup [AV.int IntKind.i64 i, AV.bool (x == (0 : Int))]) []))
        (Post (AV.tup [AV.int IntKind.i64 i, AV.bool false]) [])) →
    AWP Try.prog 49 n_1 c366_3
      [(0, AV.sl 2 (Seq.map T.encS ((0 : Int), (0 : Int)) l) Tip.none), (1, AV.int IntKind.i64 p), (2, AV.fn (367 : FuncId) []), (8, AV.int IntKind.i64 n),
        (9, AV.int IntKind.i64 i), (10, AV.int IntKind.i64 j)]
      [] (q366_2 n_1 Post) := fun l p n i j n Post h => Go.Ab.AWP.loop' g366 (Cfg.live g366) c366_3 (by kernel_rfl) (by kernel_rfl) (Go.Ab.kc (by kernel_rfl) h)

-- 367
noncomputable def l367 : Nat → List Nat
  | _ => []
noncomputable def u367 : Nat → Bool
  | _ => false
noncomputable def m367 : Nat → Bool
  | _ => false
noncomputable def g367 : Cfg := { N := 9, live := l367, cut := u367, mu := m367, ret := rets }
theorem s367 : ∀ (x : T.Span) (p : Int) (Post : AV → List AObj → Prop),
  condP (decide (Prod.snd x ≤ p)) (Post (AV.int IntKind.i64 (-1 : Int)) [AObj.cells [AV.int IntKind.i64 (Prod.fst x), AV.int IntKind.i64 (Prod.snd x)]])
      (Post (AV.int IntKind.i64 (1 : Int)) [AObj.cells [AV.int IntKind.i64 (Prod.fst x), AV.int IntKind.i64 (Prod.snd x)]]) →
    ASpec Try.prog 367 [AV.agg (T.encS x), AV.int IntKind.i64 p] [] Post := fun x p Post h => Go.Ab.ASpec.of_vc g367 Go.Proofs.Try.func367 (by kernel_rfl) (by kernel_rfl) (by kernel_rfl) (Go.Ab.kc (by kernel_rfl) h)

-- 318
noncomputable def l318 : Nat → List Nat
  | _ => []
noncomputable def u318 : Nat → Bool
  | _ => false
noncomputable def m318 : Nat → Bool
  | _ => false
noncomputable def g318 : Cfg := { N := 14, live := l318, cut := u318, mu := m318, ret := rets }
theorem s318 : ∀ (l : List T.Span) (p : Int) (Post : AV → List AObj → Prop),
  (ASpec Try.prog 366 [AV.sl 2 (Seq.map T.encS ((0 : Int), (0 : Int)) l) Tip.none, AV.int IntKind.i64 p, AV.fn 367 []] [] fun (r : AV) (H' : List AObj) =>
      ∃ (x : Int × Bool), r = AV.tup [AV.int IntKind.i64 (Prod.fst x), AV.bool (Prod.snd x)] ∧ H' = [] ∧ Post (AV.int IntKind.i64 (Prod.fst x)) []) →
    ASpec Try.prog 318 [AV.sl 2 (Seq.map T.encS ((0 : Int), (0 : Int)) l) Tip.none, AV.int IntKind.i64 p] [] Post := fun l p Post h => Go.Ab.ASpec.of_vc g318 Go.Proofs.Try.func318 (by kernel_rfl) (by kernel_rfl) (by kernel_rfl) (Go.Ab.kc (by kernel_rfl) h)

-- 254
noncomputable def l254 : Nat → List Nat
  | _ => []
noncomputable def u254 : Nat → Bool
  | _ => false
noncomputable def m254 : Nat → Bool
  | _ => false
noncomputable def g254 : Cfg := { N := 22, live := l254, cut := u254, mu := m254, ret := rets }
theorem s254 : ∀ (l : List T.Span) (p : Int) (Post : AV → List AObj → Prop),
  (ASpec Try.prog 318 [AV.sl 2 (Seq.map T.encS ((0 : Int), (0 : Int)) l) Tip.none, AV.int IntKind.i64 p] [] fun (r : AV) (H' : List AObj) =>
      ∃ (x : Int),
        r = AV.int IntKind.i64 x ∧
        H' = [] ∧
        condP (decide (x < (↑(List.length l) : Int)))
        (needP ((0 : Int) ≤ x ∧ x < (↑(List.length l) : Int)) (Post (AV.bool (decide (Prod.fst (List.getD l (Int.toNat x) ((0 : Int), (0 : Int))) ≤ p))) [])) (Post (AV.bool false) [])) →
    ASpec Try.prog 254 [AV.sl 2 (Seq.map T.encS ((0 : Int), (0 : Int)) l) Tip.none, AV.int IntKind.i64 p] [] Post := fun l p Post h => Go.Ab.ASpec.of_vc g254 Go.Proofs.Try.func254 (by kernel_rfl) (by kernel_rfl) (by kernel_rfl) (Go.Ab.kc (by kernel_rfl) h)

-- 368
noncomputable def l368 : Nat → List Nat
  | _ => []
noncomputable def u368 : Nat → Bool
  | _ => false
noncomputable def m368 : Nat → Bool
  | _ => false
noncomputable def g368 : Cfg := { N := 32, live := l368, cut := u368, mu := m368, ret := rets }
theorem s368 : ∀ (l : List T.Span) (p : Int) (Post : AV → List AObj → Prop),
  (ASpec Try.prog 318 [AV.sl 2 (Seq.map T.encS ((0 : Int), (0 : Int)) l) Tip.none, AV.int IntKind.i64 p] [] fun (r : AV) (H' : List AObj) =>
      ∃ (x : Int),
        r = AV.int IntKind.i64 x ∧
        H' = [] ∧
        condP (x == (↑(List.length l) : Int)) (Post (AV.int IntKind.i64 (1000000000 : Int)) [])
        (needP ((0 : Int) ≤ x ∧ x < (↑(List.length l) : Int))
        (condP (decide (Prod.fst (List.getD l (Int.toNat x) ((0 : Int), (0 : Int))) > p))
        (needP ((0 : Int) ≤ x ∧ x < (↑(List.length l) : Int)) (Post (AV.int IntKind.i64 (Prod.fst (List.getD l (Int.toNat x) ((0 : Int), (0 : Int))))) []))
        (needP ((0 : Int) ≤ x ∧ x < (↑(List.length l) : Int)) (Post (AV.int IntKind.i64 (Prod.snd (List.getD l (Int.toNat x) ((0 : Int), (0 : Int))))) []))))) →
    ASpec Try.prog 368 [AV.sl 2 (Seq.map T.encS ((0 : Int), (0 : Int)) l) Tip.none, AV.int IntKind.i64 p] [] Post := fun l p Post h => Go.Ab.ASpec.of_vc g368 Go.Proofs.Try.func368 (by kernel_rfl) (by kernel_rfl) (by kernel_rfl) (Go.Ab.kc (by kernel_rfl) h)

-- 369
noncomputable def l369 : Nat → List Nat
  | _ => []
noncomputable def u369 : Nat → Bool
  | _ => false
noncomputable def m369 : Nat → Bool
  | 37 => true
  | _ => false
noncomputable def g369 : Cfg := { N := 38, live := l369, cut := u369, mu := m369, ret := rets }
theorem s369n : ∀ (s : T.Span) (Post : AV → List AObj → Prop),
  needP (16 ≤ 140737488351232)
      (needP (1 ≤ 1)
        (Post (AV.msl 2 1 0 1)
        [AObj.cells [AV.int IntKind.i64 (Prod.fst s), AV.int IntKind.i64 (Prod.snd s)], AObj.arr 2 (Seq.raw [[AV.int IntKind.i64 (Prod.fst s), AV.int IntKind.i64 (Prod.snd s)]])])) →
    ASpec Try.prog 369 [AV.sl 0 (Seq.raw []) Tip.nil, AV.agg (T.encS s)] [] Post := fun s Post h => Go.Ab.ASpec.of_vc g369 Go.Proofs.Try.func369 (by kernel_rfl) (by kernel_rfl) (by kernel_rfl) (Go.Ab.kc (by kernel_rfl) h)
theorem s369m : ∀ (o : List T.Span) (k : Nat) (s : T.Span) (Post : AV → List AObj → Prop),
  condP (decide (IntKind.wrap IntKind.i64 ((↑k : Int) - (1 : Int)) ≥ (0 : Int)))
      (needP ((0 : Int) ≤ IntKind.wrap IntKind.i64 ((↑k : Int) - (1 : Int)) ∧ IntKind.wrap IntKind.i64 ((↑k : Int) - (1 : Int)) < (↑k : Int))
        (needP (0 + Int.toNat (IntKind.wrap IntKind.i64 ((↑k : Int) - (1 : Int))) < List.length o)
        (condP (decide (Prod.fst s ≤ Prod.snd (List.getD o (0 + Int.toNat (IntKind.wrap IntKind.i64 ((↑k : Int) - (1 : Int)))) ((0 : Int), (0 : Int)))))
        (needP ((0 : Int) ≤ IntKind.wrap IntKind.i64 ((↑k : Int) - (1 : Int)) ∧ IntKind.wrap IntKind.i64 ((↑k : Int) - (1 : Int)) < (↑k : Int))
        (needP (0 + Int.toNat (IntKind.wrap IntKind.i64 ((↑k : Int) - (1 : Int))) < List.length o)
        (needP ((0 : Int) ≤ IntKind.wrap IntKind.i64 ((↑k : Int) - (1 : Int)) ∧ IntKind.wrap IntKind.i64 ((↑k : Int) - (1 : Int)) < (↑k : Int))
        (needP (0 + Int.toNat (IntKind.wrap IntKind.i64 ((↑k : Int) - (1 : Int))) < List.length o)
        (Post (AV.msl 2 0 0 k)
        [AObj.arr 2
        (Seq.raw
        (List.set (Seq.toList (Seq.map T.encS ((0 : Int), (0 : Int)) o)) (0 + Int.toNat (IntKind.wrap IntKind.i64 ((↑k : Int) - (1 : Int))))
        (splice (T.encS (List.getD o (0 + Int.toNat (IntKind.wrap IntKind.i64 ((↑k : Int) - (1 : Int)))) ((0 : Int), (0 : Int)))) 1
        [ev
        [(32, AV.mptr 2 0 (0 + Int.toNat (IntKind.wrap IntKind.i64 ((↑k : Int) - (1 : Int)))) 1),
        (31, AV.mptr 2 0 (0 + Int.toNat (IntKind.wrap IntKind.i64 ((↑k : Int) - (1 : Int)))) 0),
        (30,
        AV.int IntKind.i64
        (if Prod.snd s > Prod.snd (List.getD o (0 + Int.toNat (IntKind.wrap IntKind.i64 ((↑k : Int) - (1 : Int)))) ((0 : Int), (0 : Int))) then Prod.snd s
        else Prod.snd (List.getD o (0 + Int.toNat (IntKind.wrap IntKind.i64 ((↑k : Int) - (1 : Int)))) ((0 : Int), (0 : Int))))),
        (29, AV.int IntKind.i64 (Prod.snd s)), (28, AV.ptr 1 1),
        (27, AV.int IntKind.i64 (Prod.snd (List.getD o (0 + Int.toNat (IntKind.wrap IntKind.i64 ((↑k : Int) - (1 : Int)))) ((0 : Int), (0 : Int))))),
        (26, AV.mptr 2 0 (0 + Int.toNat (IntKind.wrap IntKind.i64 ((↑k : Int) - (1 : Int)))) 1),
        (25, AV.mptr 2 0 (0 + Int.toNat (IntKind.wrap IntKind.i64 ((↑k : Int) - (1 : Int)))) 0),
        (24, AV.int IntKind.i64 (IntKind.wrap IntKind.i64 ((↑k : Int) - (1 : Int)))), (23, AV.msl 2 0 0 k),
        (22, AV.int IntKind.i64 (IntKind.wrap IntKind.i64 ((↑k : Int) - (1 : Int)))), (21, AV.msl 2 0 0 k),
        (20,
        AV.bool (decide (Prod.fst s ≤ Prod.snd (List.getD o (0 + Int.toNat (IntKind.wrap IntKind.i64 ((↑k : Int) - (1 : Int)))) ((0 : Int), (0 : Int)))))),
        (19,
        AV.bool (decide (Prod.fst s ≤ Prod.snd (List.getD o (0 + Int.toNat (IntKind.wrap IntKind.i64 ((↑k : Int) - (1 : Int)))) ((0 : Int), (0 : Int)))))),
        (11, AV.bool true),
        (18, AV.int IntKind.i64 (Prod.snd (List.getD o (0 + Int.toNat (IntKind.wrap IntKind.i64 ((↑k : Int) - (1 : Int)))) ((0 : Int), (0 : Int))))),
        (11, AV.bool true), (17, AV.mptr 2 0 (0 + Int.toNat (IntKind.wrap IntKind.i64 ((↑k : Int) - (1 : Int)))) 1),
        (11, AV.bool true), (16, AV.mptr 2 0 (0 + Int.toNat (IntKind.wrap IntKind.i64 ((↑k : Int) - (1 : Int)))) 0),
        (11, AV.bool true), (15, AV.int IntKind.i64 (IntKind.wrap IntKind.i64 ((↑k : Int) - (1 : Int)))), (11, AV.bool true),
        (14, AV.msl 2 0 0 k), (11, AV.bool true), (13, AV.int IntKind.i64 (Prod.fst s)), (11, AV.bool true),
        (12, AV.ptr 1 0), (11, AV.bool true),
        (11, AV.bool (decide (IntKind.wrap IntKind.i64 ((↑k : Int) - (1 : Int)) ≥ (0 : Int)))),
        (10, AV.bool (decide (IntKind.wrap IntKind.i64 ((↑k : Int) - (1 : Int)) ≥ (0 : Int)))),
        (9, AV.int IntKind.i64 (IntKind.wrap IntKind.i64 ((↑k : Int) - (1 : Int)))),
        (5, AV.int IntKind.i64 (IntKind.wrap IntKind.i64 ((↑k : Int) - (1 : Int)))),
        (8, AV.int IntKind.i64 (IntKind.wrap IntKind.i64 ((↑k : Int) - (1 : Int)))), (7, AV.int IntKind.i64 (↑k : Int)),
        (6, AV.msl 2 0 0 k), (4, AV.sl 0 (Seq.raw []) Tip.nil), (3, AV.ptr 1 0),
        (0, AV.msl 2 0 0 k), (1, AV.agg [AV.int IntKind.i64 (Prod.fst s), AV.int IntKind.i64 (Prod.snd s)])]
        (Operand.tmp 30)]))),
        AObj.cells [AV.int IntKind.i64 (Prod.fst s), AV.int IntKind.i64 (Prod.snd s)]])))))
        (needP (k = List.length o ∧ (k + 1) * 16 ≤ 140737488351232)
        (Post (AV.msl 2 2 0 (k + 1))
        [AObj.gone, AObj.cells [AV.int IntKind.i64 (Prod.fst s), AV.int IntKind.i64 (Prod.snd s)],
        AObj.arr 2 (Seq.app (Seq.map T.encS ((0 : Int), (0 : Int)) o) (Seq.raw [[AV.int IntKind.i64 (Prod.fst s), AV.int IntKind.i64 (Prod.snd s)]]))])))))
      (needP (k = List.length o ∧ (k + 1) * 16 ≤ 140737488351232)
        (Post (AV.msl 2 2 0 (k + 1))
        [AObj.gone, AObj.cells [AV.int IntKind.i64 (Prod.fst s), AV.int IntKind.i64 (Prod.snd s)],
        AObj.arr 2 (Seq.app (Seq.map T.encS ((0 : Int), (0 : Int)) o) (Seq.raw [[AV.int IntKind.i64 (Prod.fst s), AV.int IntKind.i64 (Prod.snd s)]]))])) →
    ASpec Try.prog 369 [AV.msl 2 0 0 k, AV.agg (T.encS s)] [AObj.arr 2 (Seq.map T.encS ((0 : Int), (0 : Int)) o)] Post := fun o k s Post h => Go.Ab.ASpec.of_vc g369 Go.Proofs.Try.func369 (by kernel_rfl) (by kernel_rfl) (by kernel_rfl) (Go.Ab.kc (by kernel_rfl) h)

-- 319
noncomputable def l319 : Nat → List Nat
  | 3 => [0, 1, 2, 7, 8]
  | 8 => [7]
  | _ => []
noncomputable def u319 : Nat → Bool
  | 8 => true
  | _ => false
noncomputable def m319 : Nat → Bool
  | _ => false
noncomputable def g319 : Cfg := { N := 34, live := l319, cut := u319, mu := m319, ret := rets }
noncomputable def c319 : Go.Code := Go.Ab.bodyOf Go.Proofs.Try.f319
noncomputable def q319_0 : Nat → (AV → List AObj → Prop) → AQ := fun (n : Nat) (Post : AV → List AObj → Prop) => endQ Try.prog (resultsOf Try.f319) Post
noncomputable def c319_8 : Go.Code := codeSnd (codeSnd (codeSnd c319))
noncomputable def q319_1 : Nat → (AV → List AObj → Prop) → AQ := fun (n : Nat) (Post : AV → List AObj → Prop) => seqQ (fun (s' : Slots) (H' : List AObj) => AWP Try.prog (Cfg.N g319) n c319_8 (restrict s' (Cfg.live g319 8)) H' (q319_0 n Post)) (q319_0 n Post)
noncomputable def q319_2 : Nat → (AV → List AObj → Prop) → AQ := fun (n : Nat) (Post : AV → List AObj → Prop) => blockQ 0 (q319_1 n Post)
noncomputable def c319_3 : Go.Code := codeFst (codeSnd (codeFst (codeSnd (codeSnd c319))))
theorem s319 : ∀ (a b : List T.Span) (Post : AV → List AObj → Prop),
  AWP Try.prog 34 0 c319_3
      [(0, AV.sl 2 (Seq.map T.encS ((0 : Int), (0 : Int)) a) Tip.none), (1, AV.sl 2 (Seq.map T.encS ((0 : Int), (0 : Int)) b) Tip.none),
        (2, AV.fn (320 : FuncId) []), (7, AV.sl 0 (Seq.raw []) Tip.nil), (8, AV.int IntKind.i64 (0 : Int))]
      [] (q319_2 0 Post) →
    ASpec Try.prog 319 [AV.sl 2 (Seq.map T.encS ((0 : Int), (0 : Int)) a) Tip.none, AV.sl 2 (Seq.map T.encS ((0 : Int), (0 : Int)) b) Tip.none, AV.fn (320 : FuncId) []] [] Post := fun a b Post h => Go.Ab.ASpec.of_vc g319 Go.Proofs.Try.func319 (by kernel_rfl) (by kernel_rfl) (by kernel_rfl) (Go.Ab.kc (by kernel_rfl) h)
theorem v319_3n : ∀ (a b : List T.Span) (p : Int) (n : Nat) (Post : AV → List AObj → Prop),
  condP (decide (p < (1000000000 : Int)))
      (ASpec Try.prog 368 [AV.sl 2 (Seq.map T.encS ((0 : Int), (0 : Int)) a) Tip.none, AV.int IntKind.i64 p] [] fun (r : AV) (H' : List AObj) =>
        ∃ (x : Int),
        r = AV.int IntKind.i64 x ∧
        H' = [] ∧
        ASpec Try.prog 368 [AV.sl 2 (Seq.map T.encS ((0 : Int), (0 : Int)) b) Tip.none, AV.int IntKind.i64 p] [] fun (r : AV) (H' : List AObj) =>
        ∃ (x_1 : Int),
        r = AV.int IntKind.i64 x_1 ∧
        H' = [] ∧
        ASpec Try.prog 254 [AV.sl 2 (Seq.map T.encS ((0 : Int), (0 : Int)) a) Tip.none, AV.int IntKind.i64 p] [] fun (r : AV) (H' : List AObj) =>
        ∃ (x_2 : Bool),
        r = AV.bool x_2 ∧
        H' = [] ∧
        ASpec Try.prog 254 [AV.sl 2 (Seq.map T.encS ((0 : Int), (0 : Int)) b) Tip.none, AV.int IntKind.i64 p] [] fun (r : AV) (H' : List AObj) =>
        ∃ (x_3 : Bool),
        r = AV.bool x_3 ∧
        H' = [] ∧
        ASpec Try.prog 320 [AV.bool x_2, AV.bool x_3] [] fun (r : AV) (H' : List AObj) =>
        ∃ (x_4 : Bool),
        r = AV.bool x_4 ∧
        H' = [] ∧
        condP x_4
        (ASpec Try.prog 369 [AV.sl 0 (Seq.raw []) Tip.nil, AV.agg [AV.int IntKind.i64 p, AV.int IntKind.i64 (if x_1 < x then x_1 else x)]] []
        fun (r : AV) (H' : List AObj) =>
        (∃ (x_5 : Int × Int),
        r = AV.msl 2 0 0 1 ∧
        H' = [AObj.arr 2 (Seq.map T.encS ((0 : Int), (0 : Int)) [x_5])] ∧
        AWP Try.prog 34 n c319_3
        [(0, AV.sl 2 (Seq.map T.encS ((0 : Int), (0 : Int)) a) Tip.none),
        (1, AV.sl 2 (Seq.map T.encS ((0 : Int), (0 : Int)) b) Tip.none), (2, AV.fn (320 : FuncId) []),
        (7, AV.msl 2 0 0 1), (8, AV.int IntKind.i64 (if x_1 < x then x_1 else x))]
        [AObj.arr 2 (Seq.map T.encS ((0 : Int), (0 : Int)) [x_5])] (q319_2 n Post)) ∨
        (∃ (x_5 : List T.Span),
        r = AV.sl 0 (Seq.raw []) Tip.nil ∧
        H' = [] ∧
        AWP Try.prog 34 n c319_3
        [(0, AV.sl 2 (Seq.map T.encS ((0 : Int), (0 : Int)) a) Tip.none),
        (1, AV.sl 2 (Seq.map T.encS ((0 : Int), (0 : Int)) b) Tip.none), (2, AV.fn (320 : FuncId) []),
        (7, AV.sl 0 (Seq.raw []) Tip.nil), (8, AV.int IntKind.i64 (if x_1 < x then x_1 else x))]
        [] (q319_2 n Post)) ∨
        ∃ (x_5 : List T.Span),
        r = AV.msl 2 0 0 (List.length x_5) ∧
        H' = [] ∧
        AWP Try.prog 34 n c319_3
        [(0, AV.sl 2 (Seq.map T.encS ((0 : Int), (0 : Int)) a) Tip.none),
        (1, AV.sl 2 (Seq.map T.encS ((0 : Int), (0 : Int)) b) Tip.none), (2, AV.fn (320 : FuncId) []),
        (7, AV.msl 2 0 0 (List.length x_5)), (8, AV.int IntKind.i64 (if x_1 < x then x_1 else x))]
        [] (q319_2 n Post))
        (AWP Try.prog 34 n c319_3
        [(0, AV.sl 2 (Seq.map T.encS ((0 : Int), (0 : Int)) a) Tip.none),
        (1, AV.sl 2 (Seq.map T.encS ((0 : Int), (0 : Int)) b) Tip.none), (2, AV.fn (320 : FuncId) []),
        (7, AV.sl 0 (Seq.raw []) Tip.nil), (8, AV.int IntKind.i64 (if x_1 < x then x_1 else x))]
        [] (q319_2 n Post)))
      (AWP Try.prog 34 n c319_8 [(7, AV.sl 0 (Seq.raw []) Tip.nil)] [] (q319_0 n Post)) →
    AWP Try.prog 34 n c319_3
      [(0, AV.sl 2 (Seq.map T.encS ((0 : Int), (0 : Int)) a) Tip.none), (1, AV.sl 2 (Seq.map T.encS ((0 : Int), (0 : Int)) b) Tip.none),
        (2, AV.fn (320 : FuncId) []), (7, AV.sl 0 (Seq.raw []) Tip.nil), (8, AV.int IntKind.i64 p)]
      [] (q319_2 n Post) := fun a b p n Post h => Go.Ab.AWP.loop' g319 (Cfg.live g319) c319_3 (by kernel_rfl) (by kernel_rfl) (Go.Ab.kc (by kernel_rfl) h)
theorem v319_3m : ∀ (a b o : List T.Span) (k : Nat) (p : Int) (n : Nat) (Post : AV → List AObj → Prop),
  condP (decide (p < (1000000000 : Int)))
      (ASpec Try.prog 368 [AV.sl 2 (Seq.map T.encS ((0 : Int), (0 : Int)) a) Tip.none, AV.int IntKind.i64 p] [AObj.arr 2 (Seq.map T.encS ((0 : Int), (0 : Int)) o)]
        fun (r : AV) (H' : List AObj) =>
        ∃ (x : Int),
        r = AV.int IntKind.i64 x ∧
        H' = [AObj.arr 2 (Seq.map T.encS ((0 : Int), (0 : Int)) o)] ∧
        ASpec Try.prog 368 [AV.sl 2 (Seq.map T.encS ((0 : Int), (0 : Int)) b) Tip.none, AV.int IntKind.i64 p] [AObj.arr 2 (Seq.map T.encS ((0 : Int), (0 : Int)) o)]
        fun (r : AV) (H' : List AObj) =>
        ∃ (x_1 : Int),
        r = AV.int IntKind.i64 x_1 ∧
        H' = [AObj.arr 2 (Seq.map T.encS ((0 : Int), (0 : Int)) o)] ∧
        ASpec Try.prog 254 [AV.sl 2 (Seq.map T.encS ((0 : Int), (0 : Int)) a) Tip.none, AV.int IntKind.i64 p]
        [AObj.arr 2 (Seq.map T.encS ((0 : Int), (0 : Int)) o)] fun (r : AV) (H' : List AObj) =>
        ∃ (x_2 : Bool),
        r = AV.bool x_2 ∧
        H' = [AObj.arr 2 (Seq.map T.encS ((0 : Int), (0 : Int)) o)] ∧
        ASpec Try.prog 254 [AV.sl 2 (Seq.map T.encS ((0 : Int), (0 : Int)) b) Tip.none, AV.int IntKind.i64 p]
        [AObj.arr 2 (Seq.map T.encS ((0 : Int), (0 : Int)) o)] fun (r : AV) (H' : List AObj) =>
        ∃ (x_3 : Bool),
        r = AV.bool x_3 ∧
        H' = [AObj.arr 2 (Seq.map T.encS ((0 : Int), (0 : Int)) o)] ∧
        ASpec Try.prog 320 [AV.bool x_2, AV.bool x_3] [AObj.arr 2 (Seq.map T.encS ((0 : Int), (0 : Int)) o)] fun (r : AV) (H' : List AObj) =>
        ∃ (x_4 : Bool),
        r = AV.bool x_4 ∧
        H' = [AObj.arr 2 (Seq.map T.encS ((0 : Int), (0 : Int)) o)] ∧
        condP x_4
        (ASpec Try.prog 369 [AV.msl 2 0 0 k, AV.agg [AV.int IntKind.i64 p, AV.int IntKind.i64 (if x_1 < x then x_1 else x)]]
        [AObj.arr 2 (Seq.map T.encS ((0 : Int), (0 : Int)) o)] fun (r : AV) (H' : List AObj) =>
        (∃ (x_5 : Int × Int),
        r = AV.msl 2 1 0 1 ∧
        H' = [AObj.arr 2 (Seq.map T.encS ((0 : Int), (0 : Int)) o), AObj.arr 2 (Seq.map T.encS ((0 : Int), (0 : Int)) [x_5])] ∧
        AWP Try.prog 34 n c319_3
        [(0, AV.sl 2 (Seq.map T.encS ((0 : Int), (0 : Int)) a) Tip.none),
        (1, AV.sl 2 (Seq.map T.encS ((0 : Int), (0 : Int)) b) Tip.none), (2, AV.fn (320 : FuncId) []),
        (7, AV.msl 2 1 0 1), (8, AV.int IntKind.i64 (if x_1 < x then x_1 else x))]
        [AObj.arr 2 (Seq.map T.encS ((0 : Int), (0 : Int)) o), AObj.arr 2 (Seq.map T.encS ((0 : Int), (0 : Int)) [x_5])]
        (q319_2 n Post)) ∨
        (∃ (x_5 : List T.Span),
        r = AV.msl 2 0 0 k ∧
        H' = [AObj.arr 2 (Seq.map T.encS ((0 : Int), (0 : Int)) x_5)] ∧
        AWP Try.prog 34 n c319_3
        [(0, AV.sl 2 (Seq.map T.encS ((0 : Int), (0 : Int)) a) Tip.none),
        (1, AV.sl 2 (Seq.map T.encS ((0 : Int), (0 : Int)) b) Tip.none), (2, AV.fn (320 : FuncId) []),
        (7, AV.msl 2 0 0 k), (8, AV.int IntKind.i64 (if x_1 < x then x_1 else x))]
        [AObj.arr 2 (Seq.map T.encS ((0 : Int), (0 : Int)) x_5)] (q319_2 n Post)) ∨
        ∃ (x_5 : List T.Span),
        r = AV.msl 2 1 0 (List.length x_5) ∧
        H' = [AObj.gone, AObj.arr 2 (Seq.map T.encS ((0 : Int), (0 : Int)) x_5)] ∧
        AWP Try.prog 34 n c319_3
        [(0, AV.sl 2 (Seq.map T.encS ((0 : Int), (0 : Int)) a) Tip.none),
        (1, AV.sl 2 (Seq.map T.encS ((0 : Int), (0 : Int)) b) Tip.none), (2, AV.fn (320 : FuncId) []),
        (7, AV.msl 2 1 0 (List.length x_5)), (8, AV.int IntKind.i64 (if x_1 < x then x_1 else x))]
        [AObj.gone, AObj.arr 2 (Seq.map T.encS ((0 : Int), (0 : Int)) x_5)] (q319_2 n Post))
        (AWP Try.prog 34 n c319_3
        [(0, AV.sl 2 (Seq.map T.encS ((0 : Int), (0 : Int)) a) Tip.none),
        (1, AV.sl 2 (Seq.map T.encS ((0 : Int), (0 : Int)) b) Tip.none), (2, AV.fn (320 : FuncId) []),
        (7, AV.msl 2 0 0 k), (8, AV.int IntKind.i64 (if x_1 < x then x_1 else x))]
        [AObj.arr 2 (Seq.map T.encS ((0 : Int), (0 : Int)) o)] (q319_2 n Post)))
      (AWP Try.prog 34 n c319_8 [(7, AV.msl 2 0 0 k)] [AObj.arr 2 (Seq.map T.encS ((0 : Int), (0 : Int)) o)] (q319_0 n Post)) →
    AWP Try.prog 34 n c319_3
      [(0, AV.sl 2 (Seq.map T.encS ((0 : Int), (0 : Int)) a) Tip.none), (1, AV.sl 2 (Seq.map T.encS ((0 : Int), (0 : Int)) b) Tip.none),
        (2, AV.fn (320 : FuncId) []), (7, AV.msl 2 0 0 k), (8, AV.int IntKind.i64 p)]
      [AObj.arr 2 (Seq.map T.encS ((0 : Int), (0 : Int)) o)] (q319_2 n Post) := fun a b o k p n Post h => Go.Ab.AWP.loop' g319 (Cfg.live g319) c319_3 (by kernel_rfl) (by kernel_rfl) (Go.Ab.kc (by kernel_rfl) h)
theorem v319_8n : ∀ (n : Nat) (Post : AV → List AObj → Prop), Post (AV.sl 0 (Seq.raw []) Tip.nil) [] → AWP Try.prog 34 n c319_8 [(7, AV.sl 0 (Seq.raw []) Tip.nil)] [] (q319_0 n Post) := fun n Post h => Go.Ab.awp_sound g319 n _ _ _ _ (Go.Ab.kc (by kernel_rfl) h)
theorem v319_8s : ∀ (o : List T.Span) (n : Nat) (Post : AV → List AObj → Prop),
  Post (AV.sl 2 (Seq.map T.encS ((0 : Int), (0 : Int)) o) Tip.none) [] →
    AWP Try.prog 34 n c319_8 [(7, AV.sl 2 (Seq.map T.encS ((0 : Int), (0 : Int)) o) Tip.none)] [] (q319_0 n Post) := fun o n Post h => Go.Ab.awp_sound g319 n _ _ _ _ (Go.Ab.kc (by kernel_rfl) h)

-- 258
noncomputable def l258 : Nat → List Nat
  | _ => []
noncomputable def u258 : Nat → Bool
  | _ => false
noncomputable def m258 : Nat → Bool
  | _ => false
noncomputable def g258 : Cfg := { N := 8, live := l258, cut := u258, mu := m258, ret := rets }
theorem s258 : ∀ (a b : List T.Span) (Post : AV → List AObj → Prop),
  (ASpec Try.prog 319 [AV.sl 2 (Seq.map T.encS ((0 : Int), (0 : Int)) a) Tip.none, AV.sl 2 (Seq.map T.encS ((0 : Int), (0 : Int)) b) Tip.none, AV.fn 320 []] []
      fun (r : AV) (H' : List AObj) =>
      ∃ (x : List T.Span), r = AV.sl 2 (Seq.map T.encS ((0 : Int), (0 : Int)) x) Tip.none ∧ H' = [] ∧ Post (AV.sl 2 (Seq.map T.encS ((0 : Int), (0 : Int)) x) Tip.none) []) →
    ASpec Try.prog 258 [AV.sl 2 (Seq.map T.encS ((0 : Int), (0 : Int)) a) Tip.none, AV.sl 2 (Seq.map T.encS ((0 : Int), (0 : Int)) b) Tip.none] [] Post := fun a b Post h => Go.Ab.ASpec.of_vc g258 Go.Proofs.Try.func258 (by kernel_rfl) (by kernel_rfl) (by kernel_rfl) (Go.Ab.kc (by kernel_rfl) h)

-- 320
noncomputable def l320 : Nat → List Nat
  | _ => []
noncomputable def u320 : Nat → Bool
  | _ => false
noncomputable def m320 : Nat → Bool
  | _ => false
noncomputable def g320 : Cfg := { N := 9, live := l320, cut := u320, mu := m320, ret := rets }
theorem s320 : ∀ (x y : Bool) (Post : AV → List AObj → Prop), condP x (Post (AV.bool y) []) (Post (AV.bool false) []) → ASpec Try.prog 320 [AV.bool x, AV.bool y] [] Post := fun x y Post h => Go.Ab.ASpec.of_vc g320 Go.Proofs.Try.func320 (by kernel_rfl) (by kernel_rfl) (by kernel_rfl) (Go.Ab.kc (by kernel_rfl) h)

-- 259
noncomputable def l259 : Nat → List Nat
  | 2 => [1, 8, 9, 10]
  | _ => []
noncomputable def u259 : Nat → Bool
  | _ => false
noncomputable def m259 : Nat → Bool
  | _ => false
noncomputable def g259 : Cfg := { N := 43, live := l259, cut := u259, mu := m259, ret := rets }
noncomputable def c259 : Go.Code := Go.Ab.bodyOf Go.Proofs.Try.f259
noncomputable def q259_0 : Nat → (AV → List AObj → Prop) → AQ := fun (n : Nat) (Post : AV → List AObj → Prop) => endQ Try.prog (resultsOf Try.f259) Post
noncomputable def q259_1 : Nat → (AV → List AObj → Prop) → AQ := fun (n : Nat) (Post : AV → List AObj → Prop) => seqQ (fun (s' : Slots) (H' : List AObj) => awp Try.prog g259 n (codeSnd (codeSnd c259)) s' H' (q259_0 n Post)) (q259_0 n Post)
noncomputable def q259_2 : Nat → (AV → List AObj → Prop) → AQ := fun (n : Nat) (Post : AV → List AObj → Prop) => blockQ 0 (q259_1 n Post)
noncomputable def c259_2 : Go.Code := codeFst (codeSnd (codeFst (codeSnd c259)))
theorem s259 : ∀ (a b : List T.Span) (Post : AV → List AObj → Prop),
  AWP Try.prog 43 0 c259_2
      [(1, AV.sl 2 (Seq.map T.encS ((0 : Int), (0 : Int)) b) Tip.none), (8, AV.sl 2 (Seq.map T.encS ((0 : Int), (0 : Int)) a) Tip.none),
        (9, AV.int IntKind.i64 (↑(List.length a) : Int)), (10, AV.int IntKind.i64 (0 : Int))]
      [] (q259_2 0 Post) →
    ASpec Try.prog 259 [AV.sl 2 (Seq.map T.encS ((0 : Int), (0 : Int)) a) Tip.none, AV.sl 2 (Seq.map T.encS ((0 : Int), (0 : Int)) b) Tip.none] [] Post := fun a b Post h => Go.Ab.ASpec.of_vc g259 Go.Proofs.Try.func259 (by kernel_rfl) (by kernel_rfl) (by kernel_rfl) (Go.Ab.kc (by kernel_rfl) h)
theorem v259_2 : ∀ (a b : List T.Span) (n i : Int) (n_1 : Nat) (Post : AV → List AObj → Prop),
  condP (decide (i < n))
      (needP ((0 : Int) ≤ i ∧ i < (↑(List.length a) : Int))
        (ASpec Try.prog 318 [AV.sl 2 (Seq.map T.encS ((0 : Int), (0 : Int)) b) Tip.none, AV.int IntKind.i64 (Prod.fst (List.getD a (Int.toNat i) ((0 : Int), (0 : Int))))]
        [AObj.cells [AV.int IntKind.i64 (Prod.fst (List.getD a (Int.toNat i) ((0 : Int), (0 : Int)))), AV.int IntKind.i64 (Prod.snd (List.getD a (Int.toNat i) ((0 : Int), (0 : Int))))]]
        fun (r : AV) (H' : List AObj) =>
        ∃ (x : Int),
        r = AV.int IntKind.i64 x ∧
        H' = [AObj.cells [AV.int IntKind.i64 (Prod.fst (List.getD a (Int.toNat i) ((0 : Int), (0 : Int)))), AV.int IntKind.i64 (Prod.snd (List.getD a (Int.toNat i) ((0 : Int), (0 : Int))))]] ∧
        condP (x == (↑(List.length b) : Int))
        (Post (AV.bool false)
        [AObj.cells [AV.int IntKind.i64 (Prod.fst (List.getD a (Int.toNat i) ((0 : Int), (0 : Int)))), AV.int IntKind.i64 (Prod.snd (List.getD a (Int.toNat i) ((0 : Int), (0 : Int))))]])
        (needP ((0 : Int) ≤ x ∧ x < (↑(List.length b) : Int))
        (condP (decide (Prod.fst (List.getD b (Int.toNat x) ((0 : Int), (0 : Int))) > Prod.fst (List.getD a (Int.toNat i) ((0 : Int), (0 : Int)))))
        (Post (AV.bool false)
        [AObj.cells
        [AV.int IntKind.i64 (Prod.fst (List.getD a (Int.toNat i) ((0 : Int), (0 : Int)))), AV.int IntKind.i64 (Prod.snd (List.getD a (Int.toNat i) ((0 : Int), (0 : Int))))]])
        (needP ((0 : Int) ≤ x ∧ x < (↑(List.length b) : Int))
        (condP (decide (Prod.snd (List.getD b (Int.toNat x) ((0 : Int), (0 : Int))) < Prod.snd (List.getD a (Int.toNat i) ((0 : Int), (0 : Int)))))
        (Post (AV.bool false)
        [AObj.cells
        [AV.int IntKind.i64 (Prod.fst (List.getD a (Int.toNat i) ((0 : Int), (0 : Int)))), AV.int IntKind.i64 (Prod.snd (List.getD a (Int.toNat i) ((0 : Int), (0 : Int))))]])
        (AWP Try.prog 43 n_1 c259_2
        [(1, AV.sl 2 (Seq.map T.encS ((0 : Int), (0 : Int)) b) Tip.none), (8, AV.sl 2 (Seq.map T.encS ((0 : Int), (0 : Int)) a) Tip.none),
        (9, AV.int IntKind.i64 n), (10, AV.int IntKind.i64 (IntKind.wrap IntKind.i64 (i + (1 : Int))))]
        [AObj.cells
        [AV.int IntKind.i64 (Prod.fst (List.getD a (Int.toNat i) ((0 : Int), (0 : Int)))), AV.int IntKind.i64 (Prod.snd (List.getD a (Int.toNat i) ((0 : Int), (0 : Int))))]]
        (q259_2 n_1 Post))))))))
      (Post (AV.bool true) []) →
    AWP Try.prog 43 n_1 c259_2
      [(1, AV.sl 2 (Seq.map T.encS ((0 : Int), (0 : Int)) b) Tip.none), (8, AV.sl 2 (Seq.map T.encS ((0 : Int), (0 : Int)) a) Tip.none),
        (9, AV.int IntKind.i64 n), (10, AV.int IntKind.i64 i)]
      [] (q259_2 n_1 Post) := fun a b n i n Post h => Go.Ab.AWP.loop' g259 (Cfg.live g259) c259_2 (by kernel_rfl) (by kernel_rfl) (Go.Ab.kc (by kernel_rfl) h)

-- 289
noncomputable def l289 : Nat → List Nat
  | _ => []
noncomputable def u289 : Nat → Bool
  | _ => false
noncomputable def m289 : Nat → Bool
  | _ => false
noncomputable def g289 : Cfg := { N := 3, live := l289, cut := u289, mu := m289, ret := rets }
theorem s289 : ∀ (Post : AV → List AObj → Prop), Post (AV.sl 2 (Seq.raw [[AV.int IntKind.i64 (0 : Int), AV.int IntKind.i64 (1000000000 : Int)]]) Tip.full) [] → ASpec Try.prog 289 [] [] Post := fun Post h => Go.Ab.ASpec.of_vc g289 Go.Proofs.Try.func289 (by kernel_rfl) (by kernel_rfl) (by kernel_rfl) (Go.Ab.kc (by kernel_rfl) h)

-- 157
noncomputable def l157 : Nat → List Nat
  | _ => []
noncomputable def u157 : Nat → Bool
  | _ => false
noncomputable def m157 : Nat → Bool
  | _ => false
noncomputable def g157 : Cfg := { N := 14, live := l157, cut := u157, mu := m157, ret := rets }
theorem s157 : ∀ (p : Int) (Post : AV → List AObj → Prop),
  condP (decide (p < (0 : Int))) (Post (AV.sl 0 (Seq.raw []) Tip.nil) [])
      (condP (decide (p ≥ (1000000000 : Int))) (Post (AV.sl 0 (Seq.raw []) Tip.nil) [])
        (Post (AV.sl 2 (Seq.raw [[AV.int IntKind.i64 p, AV.int IntKind.i64 (IntKind.wrap IntKind.i64 (p + (1 : Int)))]]) Tip.full) [])) →
    ASpec Try.prog 157 [AV.int IntKind.i64 p] [] Post := fun p Post h => Go.Ab.ASpec.of_vc g157 Go.Proofs.Try.func157 (by kernel_rfl) (by kernel_rfl) (by kernel_rfl) (Go.Ab.kc (by kernel_rfl) h)

-- 255
noncomputable def l255 : Nat → List Nat
  | _ => []
noncomputable def u255 : Nat → Bool
  | _ => false
noncomputable def m255 : Nat → Bool
  | _ => false
noncomputable def g255 : Cfg := { N := 8, live := l255, cut := u255, mu := m255, ret := rets }
theorem s255 : ∀ (l : List T.Span) (Post : AV → List AObj → Prop),
  (∀ (b : Bool),
      (b = true → Seq.toList (Seq.map T.encS ((0 : Int), (0 : Int)) l) = []) →
        condP b (Post (AV.sl 0 (Seq.raw []) Tip.nil) [])
        (needP (∀ (x : T.Span), List.all (T.encS x) oneAV = true)
        (needP ((0 + List.length l) * 16 ≤ 140737488351232)
        (Post (AV.sl 2 (Seq.app (Seq.raw []) (Seq.map T.encS ((0 : Int), (0 : Int)) l)) (Tip.tok 0)) [AObj.tok])))) →
    ASpec Try.prog 255 [AV.sl 2 (Seq.map T.encS ((0 : Int), (0 : Int)) l) Tip.none] [] Post := fun l Post h => Go.Ab.ASpec.of_vc g255 Go.Proofs.Try.func255 (by kernel_rfl) (by kernel_rfl) (by kernel_rfl) (Go.Ab.kc (by kernel_rfl) h)

-- 321
noncomputable def l321 : Nat → List Nat
  | 4 => [0, 1, 2, 7, 8, 9]
  | 7 => [0, 1, 2, 7, 8, 9]
  | 11 => [7]
  | _ => []
noncomputable def u321 : Nat → Bool
  | 7 => true
  | 11 => true
  | _ => false
noncomputable def m321 : Nat → Bool
  | 79 => true
  | _ => false
noncomputable def g321 : Cfg := { N := 81, live := l321, cut := u321, mu := m321, ret := rets }
noncomputable def c321 : Go.Code := Go.Ab.bodyOf Go.Proofs.Try.f321
noncomputable def q321_0 : Nat → (AV → List AObj → Prop) → AQ := fun (n : Nat) (Post : AV → List AObj → Prop) => endQ Try.prog (resultsOf Try.f321) Post
noncomputable def c321_11 : Go.Code := codeSnd (codeSnd (codeSnd (codeSnd c321)))
noncomputable def q321_1 : Nat → (AV → List AObj → Prop) → AQ := fun (n : Nat) (Post : AV → List AObj → Prop) => seqQ (fun (s' : Slots) (H' : List AObj) => AWP Try.prog (Cfg.N g321) n c321_11 (restrict s' (Cfg.live g321 11)) H' (q321_0 n Post)) (q321_0 n Post)
noncomputable def q321_2 : Nat → (AV → List AObj → Prop) → AQ := fun (n : Nat) (Post : AV → List AObj → Prop) => blockQ 0 (q321_1 n Post)
noncomputable def c321_4 : Go.Code := codeFst (codeSnd (codeFst (codeSnd (codeSnd (codeSnd c321)))))
theorem s321 : ∀ (op : Int) (a b : List T.Span) (Post : AV → List AObj → Prop),
  (ASpec Try.prog 370 [AV.sl 2 (Seq.map T.encS ((0 : Int), (0 : Int)) a) Tip.none, AV.sl 2 (Seq.map T.encS ((0 : Int), (0 : Int)) b) Tip.none] []
      fun (r : AV) (H' : List AObj) =>
      ∃ (x : List Int),
        r = AV.sl 1 (Seq.map encI (0 : Int) x) Tip.none ∧
        H' = [] ∧
        AWP Try.prog 81 0 c321_4
        [(0, AV.int IntKind.i64 op), (1, AV.sl 2 (Seq.map T.encS ((0 : Int), (0 : Int)) a) Tip.none),
        (2, AV.sl 2 (Seq.map T.encS ((0 : Int), (0 : Int)) b) Tip.none), (7, AV.sl 0 (Seq.raw []) Tip.nil),
        (8, AV.sl 1 (Seq.map encI (0 : Int) x) Tip.none), (9, AV.int IntKind.i64 (0 : Int))]
        [] (q321_2 0 Post)) →
    ASpec Try.prog 321 [AV.int IntKind.i64 op, AV.sl 2 (Seq.map T.encS ((0 : Int), (0 : Int)) a) Tip.none, AV.sl 2 (Seq.map T.encS ((0 : Int), (0 : Int)) b) Tip.none] [] Post := fun op a b Post h => Go.Ab.ASpec.of_vc g321 Go.Proofs.Try.func321 (by kernel_rfl) (by kernel_rfl) (by kernel_rfl) (Go.Ab.kc (by kernel_rfl) h)
noncomputable def q321_3 : Nat → (AV → List AObj → Prop) → AQ := fun (n : Nat) (Post : AV → List AObj → Prop) => loopQ Try.prog 81 n c321_4 (q321_2 n Post) (Cfg.live g321)
noncomputable def q321_4 : Nat → (AV → List AObj → Prop) → AQ := fun (n : Nat) (Post : AV → List AObj → Prop) => seqQ (fun (s' : Slots) (H' : List AObj) => awp Try.prog g321 n (codeSnd (codeSnd (codeFst c321_4))) s' H' (q321_3 n Post)) (q321_3 n Post)
noncomputable def q321_5 : Nat → (AV → List AObj → Prop) → AQ := fun (n : Nat) (Post : AV → List AObj → Prop) => blockQ 1 (q321_4 n Post)
noncomputable def c321_7 : Go.Code := codeSnd (codeFst (codeFst (codeSnd (codeFst c321_4))))
theorem v321_4n : ∀ (op : Int) (a b : List T.Span) (l : List Int) (i : Int) (n : Nat) (Post : AV → List AObj → Prop),
  condP (decide (IntKind.wrap IntKind.i64 (i + (1 : Int)) < (↑(List.length l) : Int)))
      (needP ((0 : Int) ≤ i ∧ i < (↑(List.length l) : Int))
        (needP ((0 : Int) ≤ i ∧ i < (↑(List.length l) : Int))
        (ASpec Try.prog 331 [AV.sl 2 (Seq.map T.encS ((0 : Int), (0 : Int)) a) Tip.none, AV.int IntKind.i64 (List.getD l (Int.toNat i) (0 : Int))] [] fun (r : AV) (H' : List AObj) =>
        ∃ (x : Bool),
        r = AV.bool x ∧
        H' = [] ∧
        (AV.int IntKind.i64 (List.getD l (Int.toNat i) (0 : Int)) = AV.int IntKind.i64 (List.getD l (Int.toNat i) (0 : Int)) ∧ ([] : List AObj) = []) ∧
        ASpec Try.prog 331 [AV.sl 2 (Seq.map T.encS ((0 : Int), (0 : Int)) b) Tip.none, AV.int IntKind.i64 (List.getD l (Int.toNat i) (0 : Int))] []
        fun (r : AV) (H' : List AObj) =>
        ∃ (x_1 : Bool),
        r = AV.bool x_1 ∧
        H' = [] ∧
        ASpec Try.prog 371 [AV.int IntKind.i64 op, AV.bool x, AV.bool x_1] [] fun (r : AV) (H' : List AObj) =>
        ∃ (x : Bool),
        r = AV.bool x ∧
        H' = [] ∧
        condP (!x)
        (AWP Try.prog 81 n c321_4
        [(0, AV.int IntKind.i64 op), (1, AV.sl 2 (Seq.map T.encS ((0 : Int), (0 : Int)) a) Tip.none),
        (2, AV.sl 2 (Seq.map T.encS ((0 : Int), (0 : Int)) b) Tip.none), (7, AV.sl 0 (Seq.raw []) Tip.nil),
        (8, AV.sl 1 (Seq.map encI (0 : Int) l) Tip.none), (9, AV.int IntKind.i64 (IntKind.wrap IntKind.i64 (i + (1 : Int))))]
        [] (q321_2 n Post))
        (AWP Try.prog 81 n c321_7
        [(0, AV.int IntKind.i64 op), (1, AV.sl 2 (Seq.map T.encS ((0 : Int), (0 : Int)) a) Tip.none),
        (2, AV.sl 2 (Seq.map T.encS ((0 : Int), (0 : Int)) b) Tip.none), (7, AV.sl 0 (Seq.raw []) Tip.nil),
        (8, AV.sl 1 (Seq.map encI (0 : Int) l) Tip.none), (9, AV.int IntKind.i64 i)]
        [] (q321_5 n Post)))))
      (AWP Try.prog 81 n c321_11 [(7, AV.sl 0 (Seq.raw []) Tip.nil)] [] (q321_0 n Post)) →
    AWP Try.prog 81 n c321_4
      [(0, AV.int IntKind.i64 op), (1, AV.sl 2 (Seq.map T.encS ((0 : Int), (0 : Int)) a) Tip.none),
        (2, AV.sl 2 (Seq.map T.encS ((0 : Int), (0 : Int)) b) Tip.none), (7, AV.sl 0 (Seq.raw []) Tip.nil),
        (8, AV.sl 1 (Seq.map encI (0 : Int) l) Tip.none), (9, AV.int IntKind.i64 i)]
      [] (q321_2 n Post) := fun op a b l i n Post h => Go.Ab.AWP.loop' g321 (Cfg.live g321) c321_4 (by kernel_rfl) (by kernel_rfl) (Go.Ab.kc (by kernel_rfl) h)
theorem v321_4m : ∀ (op : Int) (a b o : List T.Span) (k : Nat) (l : List Int) (i : Int) (n : Nat) (Post : AV → List AObj → Prop),
  condP (decide (IntKind.wrap IntKind.i64 (i + (1 : Int)) < (↑(List.length l) : Int)))
      (needP ((0 : Int) ≤ i ∧ i < (↑(List.length l) : Int))
        (needP ((0 : Int) ≤ i ∧ i < (↑(List.length l) : Int))
        (ASpec Try.prog 331 [AV.sl 2 (Seq.map T.encS ((0 : Int), (0 : Int)) a) Tip.none, AV.int IntKind.i64 (List.getD l (Int.toNat i) (0 : Int))]
        [AObj.arr 2 (Seq.map T.encS ((0 : Int), (0 : Int)) o)] fun (r : AV) (H' : List AObj) =>
        ∃ (x : Bool),
        r = AV.bool x ∧
        H' = [AObj.arr 2 (Seq.map T.encS ((0 : Int), (0 : Int)) o)] ∧
        (AV.int IntKind.i64 (List.getD l (Int.toNat i) (0 : Int)) = AV.int IntKind.i64 (List.getD l (Int.toNat i) (0 : Int)) ∧
        [AObj.arr 2 (Seq.map T.encS ((0 : Int), (0 : Int)) o)] = [AObj.arr 2 (Seq.map T.encS ((0 : Int), (0 : Int)) o)]) ∧
        ASpec Try.prog 331 [AV.sl 2 (Seq.map T.encS ((0 : Int), (0 : Int)) b) Tip.none, AV.int IntKind.i64 (List.getD l (Int.toNat i) (0 : Int))]
        [AObj.arr 2 (Seq.map T.encS ((0 : Int), (0 : Int)) o)] fun (r : AV) (H' : List AObj) =>
        ∃ (x_1 : Bool),
        r = AV.bool x_1 ∧
        H' = [AObj.arr 2 (Seq.map T.encS ((0 : Int), (0 : Int)) o)] ∧
        ASpec Try.prog 371 [AV.int IntKind.i64 op, AV.bool x, AV.bool x_1] [AObj.arr 2 (Seq.map T.encS ((0 : Int), (0 : Int)) o)] fun (r : AV) (H' : List AObj) =>
        ∃ (x : Bool),
        r = AV.bool x ∧
        H' = [AObj.arr 2 (Seq.map T.encS ((0 : Int), (0 : Int)) o)] ∧
        condP (!x)
        (AWP Try.prog 81 n c321_4
        [(0, AV.int IntKind.i64 op), (1, AV.sl 2 (Seq.map T.encS ((0 : Int), (0 : Int)) a) Tip.none),
        (2, AV.sl 2 (Seq.map T.encS ((0 : Int), (0 : Int)) b) Tip.none), (7, AV.msl 2 0 0 k),
        (8, AV.sl 1 (Seq.map encI (0 : Int) l) Tip.none), (9, AV.int IntKind.i64 (IntKind.wrap IntKind.i64 (i + (1 : Int))))]
        [AObj.arr 2 (Seq.map T.encS ((0 : Int), (0 : Int)) o)] (q321_2 n Post))
        (AWP Try.prog 81 n c321_7
        [(0, AV.int IntKind.i64 op), (1, AV.sl 2 (Seq.map T.encS ((0 : Int), (0 : Int)) a) Tip.none),
        (2, AV.sl 2 (Seq.map T.encS ((0 : Int), (0 : Int)) b) Tip.none), (7, AV.msl 2 0 0 k),
        (8, AV.sl 1 (Seq.map encI (0 : Int) l) Tip.none), (9, AV.int IntKind.i64 i)]
        [AObj.arr 2 (Seq.map T.encS ((0 : Int), (0 : Int)) o)] (q321_5 n Post)))))
      (AWP Try.prog 81 n c321_11 [(7, AV.msl 2 0 0 k)] [AObj.arr 2 (Seq.map T.encS ((0 : Int), (0 : Int)) o)] (q321_0 n Post)) →
    AWP Try.prog 81 n c321_4
      [(0, AV.int IntKind.i64 op), (1, AV.sl 2 (Seq.map T.encS ((0 : Int), (0 : Int)) a) Tip.none),
        (2, AV.sl 2 (Seq.map T.encS ((0 : Int), (0 : Int)) b) Tip.none), (7, AV.msl 2 0 0 k),
        (8, AV.sl 1 (Seq.map encI (0 : Int) l) Tip.none), (9, AV.int IntKind.i64 i)]
      [AObj.arr 2 (Seq.map T.encS ((0 : Int), (0 : Int)) o)] (q321_2 n Post) := fun op a b o k l i n Post h => Go.Ab.AWP.loop' g321 (Cfg.live g321) c321_4 (by kernel_rfl) (by kernel_rfl) (Go.Ab.kc (by kernel_rfl) h)
theorem v321_7n : ∀ (op : Int) (a b : List T.Span) (l : List Int) (i : Int) (n : Nat) (Post : AV → List AObj → Prop),
  needP ((0 : Int) ≤ i ∧ i < (↑(List.length l) : Int))
      (needP ((0 : Int) ≤ IntKind.wrap IntKind.i64 (i + (1 : Int)) ∧ IntKind.wrap IntKind.i64 (i + (1 : Int)) < (↑(List.length l) : Int))
        (needP (16 ≤ 140737488351232)
        (needP (1 ≤ 1)
        (AWP Try.prog 81 n c321_4
        [(0, AV.int IntKind.i64 op), (1, AV.sl 2 (Seq.map T.encS ((0 : Int), (0 : Int)) a) Tip.none),
        (2, AV.sl 2 (Seq.map T.encS ((0 : Int), (0 : Int)) b) Tip.none), (7, AV.msl 2 0 0 1),
        (8, AV.sl 1 (Seq.map encI (0 : Int) l) Tip.none), (9, AV.int IntKind.i64 (IntKind.wrap IntKind.i64 (i + (1 : Int))))]
        [AObj.arr 2
        (Seq.raw [[AV.int IntKind.i64 (List.getD l (Int.toNat i) (0 : Int)), AV.int IntKind.i64 (List.getD l (Int.toNat (IntKind.wrap IntKind.i64 (i + (1 : Int)))) (0 : Int))]])]
        (q321_2 n Post))))) →
    AWP Try.prog 81 n c321_7
      [(0, AV.int IntKind.i64 op), (1, AV.sl 2 (Seq.map T.encS ((0 : Int), (0 : Int)) a) Tip.none),
        (2, AV.sl 2 (Seq.map T.encS ((0 : Int), (0 : Int)) b) Tip.none), (7, AV.sl 0 (Seq.raw []) Tip.nil),
        (8, AV.sl 1 (Seq.map encI (0 : Int) l) Tip.none), (9, AV.int IntKind.i64 i)]
      [] (q321_5 n Post) := fun op a b l i n Post h => Go.Ab.awp_sound g321 n _ _ _ _ (Go.Ab.kc (by kernel_rfl) h)
theorem v321_7m : ∀ (op : Int) (a b o : List T.Span) (k : Nat) (l : List Int) (i : Int) (n : Nat) (Post : AV → List AObj → Prop),
  condP (decide (IntKind.wrap IntKind.i64 ((↑k : Int) - (1 : Int)) ≥ (0 : Int)))
      (needP ((0 : Int) ≤ IntKind.wrap IntKind.i64 ((↑k : Int) - (1 : Int)) ∧ IntKind.wrap IntKind.i64 ((↑k : Int) - (1 : Int)) < (↑k : Int))
        (needP (0 + Int.toNat (IntKind.wrap IntKind.i64 ((↑k : Int) - (1 : Int))) < List.length o)
        (needP ((0 : Int) ≤ i ∧ i < (↑(List.length l) : Int))
        (condP (Prod.snd (List.getD o (0 + Int.toNat (IntKind.wrap IntKind.i64 ((↑k : Int) - (1 : Int)))) ((0 : Int), (0 : Int))) == List.getD l (Int.toNat i) (0 : Int))
        (needP ((0 : Int) ≤ IntKind.wrap IntKind.i64 ((↑k : Int) - (1 : Int)) ∧ IntKind.wrap IntKind.i64 ((↑k : Int) - (1 : Int)) < (↑k : Int))
        (needP (0 + Int.toNat (IntKind.wrap IntKind.i64 ((↑k : Int) - (1 : Int))) < List.length o)
        (needP ((0 : Int) ≤ IntKind.wrap IntKind.i64 (i + (1 : Int)) ∧ IntKind.wrap IntKind.i64 (i + (1 : Int)) < (↑(List.length l) : Int))
        (needP ((0 : Int) ≤ IntKind.wrap IntKind.i64 ((↑k : Int) - (1 : Int)) ∧ IntKind.wrap IntKind.i64 ((↑k : Int) - (1 : Int)) < (↑k : Int))
        (needP (0 + Int.toNat (IntKind.wrap IntKind.i64 ((↑k : Int) - (1 : Int))) < List.length o)
        (AWP Try.prog 81 n c321_4
        [(0, AV.int IntKind.i64 op), (1, AV.sl 2 (Seq.map T.encS ((0 : Int), (0 : Int)) a) Tip.none),
        (2, AV.sl 2 (Seq.map T.encS ((0 : Int), (0 : Int)) b) Tip.none), (7, AV.msl 2 0 0 k),
        (8, AV.sl 1 (Seq.map encI (0 : Int) l) Tip.none), (9, AV.int IntKind.i64 (IntKind.wrap IntKind.i64 (i + (1 : Int))))]
        [AObj.arr 2
        (Seq.raw
        (List.set (Seq.toList (Seq.map T.encS ((0 : Int), (0 : Int)) o)) (0 + Int.toNat (IntKind.wrap IntKind.i64 ((↑k : Int) - (1 : Int))))
        (splice (T.encS (List.getD o (0 + Int.toNat (IntKind.wrap IntKind.i64 ((↑k : Int) - (1 : Int)))) ((0 : Int), (0 : Int)))) 0
        [AV.int IntKind.i64 (Prod.fst (List.getD o (0 + Int.toNat (IntKind.wrap IntKind.i64 ((↑k : Int) - (1 : Int)))) ((0 : Int), (0 : Int)))),
        AV.int IntKind.i64 (List.getD l (Int.toNat (IntKind.wrap IntKind.i64 (i + (1 : Int)))) (0 : Int))])))]
        (q321_2 n Post)))))))
        (needP ((0 : Int) ≤ i ∧ i < (↑(List.length l) : Int))
        (needP ((0 : Int) ≤ IntKind.wrap IntKind.i64 (i + (1 : Int)) ∧ IntKind.wrap IntKind.i64 (i + (1 : Int)) < (↑(List.length l) : Int))
        (needP (k = List.length o ∧ (k + 1) * 16 ≤ 140737488351232)
        (AWP Try.prog 81 n c321_4
        [(0, AV.int IntKind.i64 op), (1, AV.sl 2 (Seq.map T.encS ((0 : Int), (0 : Int)) a) Tip.none),
        (2, AV.sl 2 (Seq.map T.encS ((0 : Int), (0 : Int)) b) Tip.none), (7, AV.msl 2 1 0 (k + 1)),
        (8, AV.sl 1 (Seq.map encI (0 : Int) l) Tip.none), (9, AV.int IntKind.i64 (IntKind.wrap IntKind.i64 (i + (1 : Int))))]
        [AObj.gone,
        AObj.arr 2
        (Seq.app (Seq.map T.encS ((0 : Int), (0 : Int)) o)
        (Seq.raw [[AV.int IntKind.i64 (List.getD l (Int.toNat i) (0 : Int)), AV.int IntKind.i64 (List.getD l (Int.toNat (IntKind.wrap IntKind.i64 (i + (1 : Int)))) (0 : Int))]]))]
        (q321_2 n Post)))))))))
      (needP ((0 : Int) ≤ i ∧ i < (↑(List.length l) : Int))
        (needP ((0 : Int) ≤ IntKind.wrap IntKind.i64 (i + (1 : Int)) ∧ IntKind.wrap IntKind.i64 (i + (1 : Int)) < (↑(List.length l) : Int))
        (needP (k = List.length o ∧ (k + 1) * 16 ≤ 140737488351232)
        (AWP Try.prog 81 n c321_4
        [(0, AV.int IntKind.i64 op), (1, AV.sl 2 (Seq.map T.encS ((0 : Int), (0 : Int)) a) Tip.none),
        (2, AV.sl 2 (Seq.map T.encS ((0 : Int), (0 : Int)) b) Tip.none), (7, AV.msl 2 1 0 (k + 1)),
        (8, AV.sl 1 (Seq.map encI (0 : Int) l) Tip.none), (9, AV.int IntKind.i64 (IntKind.wrap IntKind.i64 (i + (1 : Int))))]
        [AObj.gone,
        AObj.arr 2
        (Seq.app (Seq.map T.encS ((0 : Int), (0 : Int)) o)
        (Seq.raw [[AV.int IntKind.i64 (List.getD l (Int.toNat i) (0 : Int)), AV.int IntKind.i64 (List.getD l (Int.toNat (IntKind.wrap IntKind.i64 (i + (1 : Int)))) (0 : Int))]]))]
        (q321_2 n Post))))) →
    AWP Try.prog 81 n c321_7
      [(0, AV.int IntKind.i64 op), (1, AV.sl 2 (Seq.map T.encS ((0 : Int), (0 : Int)) a) Tip.none),
        (2, AV.sl 2 (Seq.map T.encS ((0 : Int), (0 : Int)) b) Tip.none), (7, AV.msl 2 0 0 k),
        (8, AV.sl 1 (Seq.map encI (0 : Int) l) Tip.none), (9, AV.int IntKind.i64 i)]
      [AObj.arr 2 (Seq.map T.encS ((0 : Int), (0 : Int)) o)] (q321_5 n Post) := fun op a b o k l i n Post h => Go.Ab.awp_sound g321 n _ _ _ _ (Go.Ab.kc (by kernel_rfl) h)
theorem v321_11n : ∀ (n : Nat) (Post : AV → List AObj → Prop), Post (AV.sl 0 (Seq.raw []) Tip.nil) [] → AWP Try.prog 81 n c321_11 [(7, AV.sl 0 (Seq.raw []) Tip.nil)] [] (q321_0 n Post) := fun n Post h => Go.Ab.awp_sound g321 n _ _ _ _ (Go.Ab.kc (by kernel_rfl) h)
theorem v321_11s : ∀ (o : List T.Span) (n : Nat) (Post : AV → List AObj → Prop),
  Post (AV.sl 2 (Seq.map T.encS ((0 : Int), (0 : Int)) o) Tip.none) [] →
    AWP Try.prog 81 n c321_11 [(7, AV.sl 2 (Seq.map T.encS ((0 : Int), (0 : Int)) o) Tip.none)] [] (q321_0 n Post) := fun o n Post h => Go.Ab.awp_sound g321 n _ _ _ _ (Go.Ab.kc (by kernel_rfl) h)

-- 260
noncomputable def l260 : Nat → List Nat
  | _ => []
noncomputable def u260 : Nat → Bool
  | _ => false
noncomputable def m260 : Nat → Bool
  | _ => false
noncomputable def g260 : Cfg := { N := 8, live := l260, cut := u260, mu := m260, ret := rets }
theorem s260 : ∀ (a b : List T.Span) (Post : AV → List AObj → Prop),
  (ASpec Try.prog 321 [AV.int IntKind.i64 (1 : Int), AV.sl 2 (Seq.map T.encS ((0 : Int), (0 : Int)) a) Tip.none, AV.sl 2 (Seq.map T.encS ((0 : Int), (0 : Int)) b) Tip.none] []
      fun (r : AV) (H' : List AObj) =>
      ∃ (x : List T.Span), r = AV.sl 2 (Seq.map T.encS ((0 : Int), (0 : Int)) x) Tip.none ∧ H' = [] ∧ Post (AV.sl 2 (Seq.map T.encS ((0 : Int), (0 : Int)) x) Tip.none) []) →
    ASpec Try.prog 260 [AV.sl 2 (Seq.map T.encS ((0 : Int), (0 : Int)) a) Tip.none, AV.sl 2 (Seq.map T.encS ((0 : Int), (0 : Int)) b) Tip.none] [] Post := fun a b Post h => Go.Ab.ASpec.of_vc g260 Go.Proofs.Try.func260 (by kernel_rfl) (by kernel_rfl) (by kernel_rfl) (Go.Ab.kc (by kernel_rfl) h)

-- 162
noncomputable def l162 : Nat → List Nat
  | _ => []
noncomputable def u162 : Nat → Bool
  | _ => false
noncomputable def m162 : Nat → Bool
  | _ => false
noncomputable def g162 : Cfg := { N := 10, live := l162, cut := u162, mu := m162, ret := rets }
theorem s162 : ∀ (a b : List T.Span) (Post : AV → List AObj → Prop),
  (ASpec Try.prog 260 [AV.sl 2 (Seq.map T.encS ((0 : Int), (0 : Int)) a) Tip.none, AV.sl 2 (Seq.map T.encS ((0 : Int), (0 : Int)) b) Tip.none] []
      fun (r : AV) (H' : List AObj) =>
      ∃ (x : List T.Span),
        r = AV.sl 2 (Seq.map T.encS ((0 : Int), (0 : Int)) x) Tip.none ∧
        H' = [] ∧
        ASpec Try.prog 163 [AV.sl 2 (Seq.map T.encS ((0 : Int), (0 : Int)) x) Tip.none, AV.sl 2 (Seq.map T.encS ((0 : Int), (0 : Int)) a) Tip.none] []
        fun (r : AV) (H' : List AObj) => ∃ (x : Bool), r = AV.bool x ∧ H' = [] ∧ Post (AV.bool x) []) →
    ASpec Try.prog 162 [AV.sl 2 (Seq.map T.encS ((0 : Int), (0 : Int)) a) Tip.none, AV.sl 2 (Seq.map T.encS ((0 : Int), (0 : Int)) b) Tip.none] [] Post := fun a b Post h => Go.Ab.ASpec.of_vc g162 Go.Proofs.Try.func162 (by kernel_rfl) (by kernel_rfl) (by kernel_rfl) (Go.Ab.kc (by kernel_rfl) h)

-- 331
noncomputable def l331 : Nat → List Nat
  | 2 => [0, 1, 5]
  | _ => []
noncomputable def u331 : Nat → Bool
  | _ => false
noncomputable def m331 : Nat → Bool
  | _ => false
noncomputable def g331 : Cfg := { N := 34, live := l331, cut := u331, mu := m331, ret := rets }
noncomputable def c331 : Go.Code := Go.Ab.bodyOf Go.Proofs.Try.f331
noncomputable def q331_0 : Nat → (AV → List AObj → Prop) → AQ := fun (n : Nat) (Post : AV → List AObj → Prop) => endQ Try.prog (resultsOf Try.f331) Post
noncomputable def q331_1 : Nat → (AV → List AObj → Prop) → AQ := fun (n : Nat) (Post : AV → List AObj → Prop) => seqQ (fun (s' : Slots) (H' : List AObj) => awp Try.prog g331 n (codeSnd (codeSnd c331)) s' H' (q331_0 n Post)) (q331_0 n Post)
noncomputable def q331_2 : Nat → (AV → List AObj → Prop) → AQ := fun (n : Nat) (Post : AV → List AObj → Prop) => blockQ 0 (q331_1 n Post)
noncomputable def c331_2 : Go.Code := codeFst (codeSnd (codeFst (codeSnd c331)))
theorem s331 : ∀ (l : List T.Span) (p : Int) (Post : AV → List AObj → Prop),
  AWP Try.prog 34 0 c331_2
      [(0, AV.sl 2 (Seq.map T.encS ((0 : Int), (0 : Int)) l) Tip.none), (1, AV.int IntKind.i64 p), (5, AV.int IntKind.i64 (0 : Int))] [] (q331_2 0 Post) →
    ASpec Try.prog 331 [AV.sl 2 (Seq.map T.encS ((0 : Int), (0 : Int)) l) Tip.none, AV.int IntKind.i64 p] [] Post := fun l p Post h => Go.Ab.ASpec.of_vc g331 Go.Proofs.Try.func331 (by kernel_rfl) (by kernel_rfl) (by kernel_rfl) (Go.Ab.kc (by kernel_rfl) h)
theorem v331_2 : ∀ (l : List T.Span) (p i : Int) (n : Nat) (Post : AV → List AObj → Prop),
  condP (decide (i < (↑(List.length l) : Int)))
      (needP ((0 : Int) ≤ i ∧ i < (↑(List.length l) : Int))
        (condP (decide (Prod.fst (List.getD l (Int.toNat i) ((0 : Int), (0 : Int))) ≤ p))
        (needP ((0 : Int) ≤ i ∧ i < (↑(List.length l) : Int))
        (condP (decide (p < Prod.snd (List.getD l (Int.toNat i) ((0 : Int), (0 : Int)))))
        (condP (decide (p ≥ (0 : Int))) (Post (AV.bool (decide (p < (1000000000 : Int)))) []) (Post (AV.bool false) []))
        (AWP Try.prog 34 n c331_2
        [(0, AV.sl 2 (Seq.map T.encS ((0 : Int), (0 : Int)) l) Tip.none), (1, AV.int IntKind.i64 p),
        (5, AV.int IntKind.i64 (IntKind.wrap IntKind.i64 (i + (1 : Int))))]
        [] (q331_2 n Post))))
        (AWP Try.prog 34 n c331_2
        [(0, AV.sl 2 (Seq.map T.encS ((0 : Int), (0 : Int)) l) Tip.none), (1, AV.int IntKind.i64 p),
        (5, AV.int IntKind.i64 (IntKind.wrap IntKind.i64 (i + (1 : Int))))]
        [] (q331_2 n Post))))
      (Post (AV.bool false) []) →
    AWP Try.prog 34 n c331_2 [(0, AV.sl 2 (Seq.map T.encS ((0 : Int), (0 : Int)) l) Tip.none), (1, AV.int IntKind.i64 p), (5, AV.int IntKind.i64 i)] []
      (q331_2 n Post) := fun l p i n Post h => Go.Ab.AWP.loop' g331 (Cfg.live g331) c331_2 (by kernel_rfl) (by kernel_rfl) (Go.Ab.kc (by kernel_rfl) h)

-- 371
noncomputable def l371 : Nat → List Nat
  | _ => []
noncomputable def u371 : Nat → Bool
  | _ => false
noncomputable def m371 : Nat → Bool
  | _ => false
noncomputable def g371 : Cfg := { N := 21, live := l371, cut := u371, mu := m371, ret := rets }
theorem s371 : ∀ (op : Int) (x y : Bool) (Post : AV → List AObj → Prop),
  condP (op == (0 : Int)) (condP x (Post (AV.bool true) []) (Post (AV.bool y) [])) (condP (op == (1 : Int)) (condP x (Post (AV.bool y) []) (Post (AV.bool false) [])) (Post (AV.bool !x) [])) →
    ASpec Try.prog 371 [AV.int IntKind.i64 op, AV.bool x, AV.bool y] [] Post := fun op x y Post h => Go.Ab.ASpec.of_vc g371 Go.Proofs.Try.func371 (by kernel_rfl) (by kernel_rfl) (by kernel_rfl) (Go.Ab.kc (by kernel_rfl) h)

-- 392
noncomputable def l392 : Nat → List Nat
  | 5 => [0, 1, 5, 6, 7]
  | 11 => [0, 1, 5, 6, 7]
  | 12 => [1, 5, 6]
  | _ => []
noncomputable def u392 : Nat → Bool
  | 11 => true
  | 12 => true
  | _ => false
noncomputable def m392 : Nat → Bool
  | _ => false
noncomputable def g392 : Cfg := { N := 51, live := l392, cut := u392, mu := m392, ret := rets }
noncomputable def c392 : Go.Code := Go.Ab.bodyOf Go.Proofs.Try.f392
noncomputable def q392_0 : Nat → (AV → List AObj → Prop) → AQ := fun (n : Nat) (Post : AV → List AObj → Prop) => endQ Try.prog (resultsOf Try.f392) Post
noncomputable def c392_12 : Go.Code := codeSnd (codeSnd (codeSnd (codeSnd (codeSnd c392))))
noncomputable def q392_1 : Nat → (AV → List AObj → Prop) → AQ := fun (n : Nat) (Post : AV → List AObj → Prop) => seqQ (fun (s' : Slots) (H' : List AObj) => AWP Try.prog (Cfg.N g392) n c392_12 (restrict s' (Cfg.live g392 12)) H' (q392_0 n Post)) (q392_0 n Post)
noncomputable def q392_2 : Nat → (AV → List AObj → Prop) → AQ := fun (n : Nat) (Post : AV → List AObj → Prop) => blockQ 0 (q392_1 n Post)
noncomputable def c392_5 : Go.Code := codeFst (codeSnd (codeFst (codeSnd (codeSnd (codeSnd (codeSnd c392))))))
theorem s392 : ∀ (l : List Int) (p : Int) (Post : AV → List AObj → Prop),
  AWP Try.prog 51 0 c392_5
      [(0, AV.sl 1 (Seq.map encI (0 : Int) l) Tip.none),
        (1, AV.int IntKind.i64 (if (1000000000 : Int) < if (0 : Int) > p then (0 : Int) else p then (1000000000 : Int) else if (0 : Int) > p then (0 : Int) else p)),
        (5, AV.sl 0 (Seq.raw []) Tip.nil), (6, AV.bool false), (7, AV.int IntKind.i64 (0 : Int))]
      [] (q392_2 0 Post) →
    ASpec Try.prog 392 [AV.sl 1 (Seq.map encI (0 : Int) l) Tip.none, AV.int IntKind.i64 p] [] Post := fun l p Post h => Go.Ab.ASpec.of_vc g392 Go.Proofs.Try.func392 (by kernel_rfl) (by kernel_rfl) (by kernel_rfl) (Go.Ab.kc (by kernel_rfl) h)
noncomputable def q392_3 : Nat → (AV → List AObj → Prop) → AQ := fun (n : Nat) (Post : AV → List AObj → Prop) => loopQ Try.prog 51 n c392_5 (q392_2 n Post) (Cfg.live g392)
noncomputable def q392_4 : Nat → (AV → List AObj → Prop) → AQ := fun (n : Nat) (Post : AV → List AObj → Prop) => seqQ (fun (s' : Slots) (H' : List AObj) => awp Try.prog g392 n (codeSnd (codeSnd (codeFst c392_5))) s' H' (q392_3 n Post)) (q392_3 n Post)
noncomputable def q392_5 : Nat → (AV → List AObj → Prop) → AQ := fun (n : Nat) (Post : AV → List AObj → Prop) => blockQ 1 (q392_4 n Post)
noncomputable def c392_11 : Go.Code := codeSnd (codeFst (codeFst (codeSnd (codeFst c392_5))))
theorem v392_5 : ∀ (l : List Int) (p : Int) (o : List Int) (z : Bool) (i : Int) (n : Nat) (Post : AV → List AObj → Prop),
  condP (decide (i < (↑(List.length l) : Int)))
      (condP (!z)
        (needP ((0 : Int) ≤ i ∧ i < (↑(List.length l) : Int))
        (condP (decide (p ≤ List.getD l (Int.toNat i) (0 : Int)))
        (needP ((List.length o + 1) * 8 ≤ 140737488351232)
        (needP ((0 : Int) ≤ i ∧ i < (↑(List.length l) : Int))
        (condP (p == List.getD l (Int.toNat i) (0 : Int))
        (AWP Try.prog 51 n c392_5
        [(0, AV.sl 1 (Seq.map encI (0 : Int) l) Tip.none), (1, AV.int IntKind.i64 p),
        (5, AV.sl 1 (Seq.app (Seq.map encI (0 : Int) o) (Seq.raw [[AV.int IntKind.i64 p]])) (Tip.tok 1)), (6, AV.bool true),
        (7, AV.int IntKind.i64 (IntKind.wrap IntKind.i64 (i + (1 : Int))))]
        [AObj.gone, AObj.tok] (q392_2 n Post))
        (AWP Try.prog 51 n c392_11
        [(0, AV.sl 1 (Seq.map encI (0 : Int) l) Tip.none), (1, AV.int IntKind.i64 p),
        (5, AV.sl 1 (Seq.app (Seq.map encI (0 : Int) o) (Seq.raw [[AV.int IntKind.i64 p]])) (Tip.tok 1)), (6, AV.bool true),
        (7, AV.int IntKind.i64 i)]
        [AObj.gone, AObj.tok] (q392_5 n Post)))))
        (AWP Try.prog 51 n c392_11
        [(0, AV.sl 1 (Seq.map encI (0 : Int) l) Tip.none), (1, AV.int IntKind.i64 p), (5, AV.sl 1 (Seq.map encI (0 : Int) o) (Tip.tok 0)),
        (6, AV.bool z), (7, AV.int IntKind.i64 i)]
        [AObj.tok] (q392_5 n Post))))
        (AWP Try.prog 51 n c392_11
        [(0, AV.sl 1 (Seq.map encI (0 : Int) l) Tip.none), (1, AV.int IntKind.i64 p), (5, AV.sl 1 (Seq.map encI (0 : Int) o) (Tip.tok 0)),
        (6, AV.bool z), (7, AV.int IntKind.i64 i)]
        [AObj.tok] (q392_5 n Post)))
      (AWP Try.prog 51 n c392_12 [(1, AV.int IntKind.i64 p), (5, AV.sl 1 (Seq.map encI (0 : Int) o) (Tip.tok 0)), (6, AV.bool z)] [AObj.tok]
        (q392_0 n Post)) →
    AWP Try.prog 51 n c392_5
      [(0, AV.sl 1 (Seq.map encI (0 : Int) l) Tip.none), (1, AV.int IntKind.i64 p), (5, AV.sl 1 (Seq.map encI (0 : Int) o) (Tip.tok 0)),
        (6, AV.bool z), (7, AV.int IntKind.i64 i)]
      [AObj.tok] (q392_2 n Post) := fun l p o z i n Post h => Go.Ab.AWP.loop' g392 (Cfg.live g392) c392_5 (by kernel_rfl) (by kernel_rfl) (Go.Ab.kc (by kernel_rfl) h)
theorem v392_11 : ∀ (l : List Int) (p : Int) (o : List Int) (z : Bool) (i : Int) (n : Nat) (Post : AV → List AObj → Prop),
  needP ((0 : Int) ≤ i ∧ i < (↑(List.length l) : Int))
      (needP ((List.length o + 1) * 8 ≤ 140737488351232)
        (AWP Try.prog 51 n c392_5
        [(0, AV.sl 1 (Seq.map encI (0 : Int) l) Tip.none), (1, AV.int IntKind.i64 p),
        (5, AV.sl 1 (Seq.app (Seq.map encI (0 : Int) o) (Seq.raw [[AV.int IntKind.i64 (List.getD l (Int.toNat i) (0 : Int))]])) (Tip.tok 1)), (6, AV.bool z),
        (7, AV.int IntKind.i64 (IntKind.wrap IntKind.i64 (i + (1 : Int))))]
        [AObj.gone, AObj.tok] (q392_2 n Post))) →
    AWP Try.prog 51 n c392_11
      [(0, AV.sl 1 (Seq.map encI (0 : Int) l) Tip.none), (1, AV.int IntKind.i64 p), (5, AV.sl 1 (Seq.map encI (0 : Int) o) (Tip.tok 0)),
        (6, AV.bool z), (7, AV.int IntKind.i64 i)]
      [AObj.tok] (q392_5 n Post) := fun l p o z i n Post h => Go.Ab.awp_sound g392 n _ _ _ _ (Go.Ab.kc (by kernel_rfl) h)
theorem v392_12 : ∀ (p : Int) (o : List Int) (z : Bool) (n : Nat) (Post : AV → List AObj → Prop),
  condP (!z)
      (needP ((List.length o + 1) * 8 ≤ 140737488351232)
        (Post (AV.sl 1 (Seq.app (Seq.map encI (0 : Int) o) (Seq.raw [[AV.int IntKind.i64 p]])) (Tip.tok 1)) [AObj.gone, AObj.tok]))
      (Post (AV.sl 1 (Seq.map encI (0 : Int) o) (Tip.tok 0)) [AObj.tok]) →
    AWP Try.prog 51 n c392_12 [(1, AV.int IntKind.i64 p), (5, AV.sl 1 (Seq.map encI (0 : Int) o) (Tip.tok 0)), (6, AV.bool z)] [AObj.tok]
      (q392_0 n Post) := fun p o z n Post h => Go.Ab.awp_sound g392 n _ _ _ _ (Go.Ab.kc (by kernel_rfl) h)

-- 370
noncomputable def l370 : Nat → List Nat
  | 3 => [0, 1, 5, 6]
  | 6 => [1, 5]
  | 7 => [1, 5, 7]
  | _ => []
noncomputable def u370 : Nat → Bool
  | 6 => true
  | _ => false
noncomputable def m370 : Nat → Bool
  | _ => false
noncomputable def g370 : Cfg := { N := 48, live := l370, cut := u370, mu := m370, ret := rets }
noncomputable def c370 : Go.Code := Go.Ab.bodyOf Go.Proofs.Try.f370
noncomputable def q370_0 : Nat → (AV → List AObj → Prop) → AQ := fun (n : Nat) (Post : AV → List AObj → Prop) => endQ Try.prog (resultsOf Try.f370) Post
noncomputable def c370_6 : Go.Code := codeSnd (codeSnd (codeSnd c370))
noncomputable def q370_1 : Nat → (AV → List AObj → Prop) → AQ := fun (n : Nat) (Post : AV → List AObj → Prop) => seqQ (fun (s' : Slots) (H' : List AObj) => AWP Try.prog (Cfg.N g370) n c370_6 (restrict s' (Cfg.live g370 6)) H' (q370_0 n Post)) (q370_0 n Post)
noncomputable def q370_2 : Nat → (AV → List AObj → Prop) → AQ := fun (n : Nat) (Post : AV → List AObj → Prop) => blockQ 0 (q370_1 n Post)
noncomputable def c370_3 : Go.Code := codeFst (codeSnd (codeFst (codeSnd (codeSnd c370))))
theorem s370 : ∀ (a b : List T.Span) (Post : AV → List AObj → Prop),
  AWP Try.prog 48 0 c370_3
      [(0, AV.sl 2 (Seq.map T.encS ((0 : Int), (0 : Int)) a) Tip.none), (1, AV.sl 2 (Seq.map T.encS ((0 : Int), (0 : Int)) b) Tip.none),
        (5, AV.sl 1 (Seq.raw [[AV.int IntKind.i64 (0 : Int)], [AV.int IntKind.i64 (1000000000 : Int)]]) Tip.full), (6, AV.int IntKind.i64 (0 : Int))]
      [] (q370_2 0 Post) →
    ASpec Try.prog 370 [AV.sl 2 (Seq.map T.encS ((0 : Int), (0 : Int)) a) Tip.none, AV.sl 2 (Seq.map T.encS ((0 : Int), (0 : Int)) b) Tip.none] [] Post := fun a b Post h => Go.Ab.ASpec.of_vc g370 Go.Proofs.Try.func370 (by kernel_rfl) (by kernel_rfl) (by kernel_rfl) (Go.Ab.kc (by kernel_rfl) h)
theorem v370_3 : ∀ (a b : List T.Span) (l : List Int) (i : Int) (n : Nat) (Post : AV → List AObj → Prop),
  condP (decide (i < (↑(List.length a) : Int)))
      (needP ((0 : Int) ≤ i ∧ i < (↑(List.length a) : Int))
        (needP ((0 : Int) ≤ i ∧ i < (↑(List.length a) : Int))
        (ASpec Try.prog 392 [AV.sl 1 (Seq.map encI (0 : Int) l) Tip.none, AV.int IntKind.i64 (Prod.fst (List.getD a (Int.toNat i) ((0 : Int), (0 : Int))))] []
        fun (r : AV) (H' : List AObj) =>
        ∃ (x : List Int),
        r = AV.sl 1 (Seq.map encI (0 : Int) x) Tip.none ∧
        H' = [] ∧
        (AV.int IntKind.i64 (Prod.snd (List.getD a (Int.toNat i) ((0 : Int), (0 : Int)))) = AV.int IntKind.i64 (Prod.snd (List.getD a (Int.toNat i) ((0 : Int), (0 : Int)))) ∧ ([] : List AObj) = []) ∧
        ASpec Try.prog 392 [AV.sl 1 (Seq.map encI (0 : Int) x) Tip.none, AV.int IntKind.i64 (Prod.snd (List.getD a (Int.toNat i) ((0 : Int), (0 : Int))))] []
        fun (r : AV) (H' : List AObj) =>
        ∃ (x : List Int),
        r = AV.sl 1 (Seq.map encI (0 : Int) x) Tip.none ∧
        H' = [] ∧
        AWP Try.prog 48 n c370_3
        [(0, AV.sl 2 (Seq.map T.encS ((0 : Int), (0 : Int)) a) Tip.none), (1, AV.sl 2 (Seq.map T.encS ((0 : Int), (0 : Int)) b) Tip.none),
        (5, AV.sl 1 (Seq.map encI (0 : Int) x) Tip.none), (6, AV.int IntKind.i64 (IntKind.wrap IntKind.i64 (i + (1 : Int))))]
        [] (q370_2 n Post))))
      (AWP Try.prog 48 n c370_6 [(1, AV.sl 2 (Seq.map T.encS ((0 : Int), (0 : Int)) b) Tip.none), (5, AV.sl 1 (Seq.map encI (0 : Int) l) Tip.none)] []
        (q370_0 n Post)) →
    AWP Try.prog 48 n c370_3
      [(0, AV.sl 2 (Seq.map T.encS ((0 : Int), (0 : Int)) a) Tip.none), (1, AV.sl 2 (Seq.map T.encS ((0 : Int), (0 : Int)) b) Tip.none),
        (5, AV.sl 1 (Seq.map encI (0 : Int) l) Tip.none), (6, AV.int IntKind.i64 i)]
      [] (q370_2 n Post) := fun a b l i n Post h => Go.Ab.AWP.loop' g370 (Cfg.live g370) c370_3 (by kernel_rfl) (by kernel_rfl) (Go.Ab.kc (by kernel_rfl) h)
noncomputable def q370_3 : Nat → (AV → List AObj → Prop) → AQ := fun (n : Nat) (Post : AV → List AObj → Prop) => seqQ (fun (s' : Slots) (H' : List AObj) => awp Try.prog g370 n (codeSnd c370_6) s' H' (q370_0 n Post)) (q370_0 n Post)
noncomputable def q370_4 : Nat → (AV → List AObj → Prop) → AQ := fun (n : Nat) (Post : AV → List AObj → Prop) => blockQ 2 (q370_3 n Post)
noncomputable def c370_7 : Go.Code := codeFst (codeSnd (codeFst c370_6))
theorem v370_6 : ∀ (b : List T.Span) (l : List Int) (n : Nat) (Post : AV → List AObj → Prop),
  AWP Try.prog 48 n c370_7
      [(1, AV.sl 2 (Seq.map T.encS ((0 : Int), (0 : Int)) b) Tip.none), (5, AV.sl 1 (Seq.map encI (0 : Int) l) Tip.none), (7, AV.int IntKind.i64 (0 : Int))] []
      (q370_4 n Post) →
    AWP Try.prog 48 n c370_6 [(1, AV.sl 2 (Seq.map T.encS ((0 : Int), (0 : Int)) b) Tip.none), (5, AV.sl 1 (Seq.map encI (0 : Int) l) Tip.none)] []
      (q370_0 n Post) := fun b l n Post h => Go.Ab.awp_sound g370 n _ _ _ _ (Go.Ab.kc (by kernel_rfl) h)
theorem v370_7 : ∀ (b : List T.Span) (l : List Int) (i : Int) (n : Nat) (Post : AV → List AObj → Prop),
  condP (decide (i < (↑(List.length b) : Int)))
      (needP ((0 : Int) ≤ i ∧ i < (↑(List.length b) : Int))
        (needP ((0 : Int) ≤ i ∧ i < (↑(List.length b) : Int))
        (ASpec Try.prog 392 [AV.sl 1 (Seq.map encI (0 : Int) l) Tip.none, AV.int IntKind.i64 (Prod.fst (List.getD b (Int.toNat i) ((0 : Int), (0 : Int))))] []
        fun (r : AV) (H' : List AObj) =>
        ∃ (x : List Int),
        r = AV.sl 1 (Seq.map encI (0 : Int) x) Tip.none ∧
        H' = [] ∧
        (AV.int IntKind.i64 (Prod.snd (List.getD b (Int.toNat i) ((0 : Int), (0 : Int)))) = AV.int IntKind.i64 (Prod.snd (List.getD b (Int.toNat i) ((0 : Int), (0 : Int)))) ∧ ([] : List AObj) = []) ∧
        ASpec Try.prog 392 [AV.sl 1 (Seq.map encI (0 : Int) x) Tip.none, AV.int IntKind.i64 (Prod.snd (List.getD b (Int.toNat i) ((0 : Int), (0 : Int))))] []
        fun (r : AV) (H' : List AObj) =>
        ∃ (x : List Int),
        r = AV.sl 1 (Seq.map encI (0 : Int) x) Tip.none ∧
        H' = [] ∧
        AWP Try.prog 48 n c370_7
        [(1, AV.sl 2 (Seq.map T.encS ((0 : Int), (0 : Int)) b) Tip.none), (5, AV.sl 1 (Seq.map encI (0 : Int) x) Tip.none),
        (7, AV.int IntKind.i64 (IntKind.wrap IntKind.i64 (i + (1 : Int))))]
        [] (q370_4 n Post))))
      (Post (AV.sl 1 (Seq.map encI (0 : Int) l) Tip.none) []) →
    AWP Try.prog 48 n c370_7
      [(1, AV.sl 2 (Seq.map T.encS ((0 : Int), (0 : Int)) b) Tip.none), (5, AV.sl 1 (Seq.map encI (0 : Int) l) Tip.none), (7, AV.int IntKind.i64 i)] []
      (q370_4 n Post) := fun b l i n Post h => Go.Ab.AWP.loop' g370 (Cfg.live g370) c370_7 (by kernel_rfl) (by kernel_rfl) (Go.Ab.kc (by kernel_rfl) h)

-- 257
noncomputable def l257 : Nat → List Nat
  | _ => []
noncomputable def u257 : Nat → Bool
  | _ => false
noncomputable def m257 : Nat → Bool
  | _ => false
noncomputable def g257 : Cfg := { N := 25, live := l257, cut := u257, mu := m257, ret := rets }
theorem s257 : ∀ (a b : T.Term) (n : Bool) (Post : AV → List AObj → Prop),
  condP (!ByteArray.toList { data := List.toArray (Prod.fst a) } == ByteArray.toList { data := List.toArray (Prod.fst b) })
      (Post (AV.agg [AV.str { data := #[] }, AV.sl 0 (Seq.raw []) Tip.nil, AV.bool false])
        [AObj.cells [AV.str { data := List.toArray (Prod.fst a) }, AV.sl 2 (Seq.map T.encS ((0 : Int), (0 : Int)) (Prod.fst (Prod.snd a))) Tip.none, AV.bool (Prod.snd (Prod.snd a))],
        AObj.cells [AV.str { data := List.toArray (Prod.fst b) }, AV.sl 2 (Seq.map T.encS ((0 : Int), (0 : Int)) (Prod.fst (Prod.snd b))) Tip.none, AV.bool (Prod.snd (Prod.snd b))],
        AObj.cells [AV.str { data := #[] }, AV.sl 0 (Seq.raw []) Tip.nil, AV.bool false]])
      (ASpec Try.prog 258
        [AV.sl 2 (Seq.map T.encS ((0 : Int), (0 : Int)) (Prod.fst (Prod.snd a))) Tip.none, AV.sl 2 (Seq.map T.encS ((0 : Int), (0 : Int)) (Prod.fst (Prod.snd b))) Tip.none]
        [AObj.cells [AV.str { data := List.toArray (Prod.fst a) }, AV.sl 2 (Seq.map T.encS ((0 : Int), (0 : Int)) (Prod.fst (Prod.snd a))) Tip.none, AV.bool (Prod.snd (Prod.snd a))],
        AObj.cells [AV.str { data := List.toArray (Prod.fst b) }, AV.sl 2 (Seq.map T.encS ((0 : Int), (0 : Int)) (Prod.fst (Prod.snd b))) Tip.none, AV.bool (Prod.snd (Prod.snd b))],
        AObj.cells [AV.str { data := #[] }, AV.sl 0 (Seq.raw []) Tip.nil, AV.bool false]]
        fun (r : AV) (H' : List AObj) =>
        ∃ (x : List T.Span),
        r = AV.sl 2 (Seq.map T.encS ((0 : Int), (0 : Int)) x) Tip.none ∧
        H' =
        [AObj.cells [AV.str { data := List.toArray (Prod.fst a) }, AV.sl 2 (Seq.map T.encS ((0 : Int), (0 : Int)) (Prod.fst (Prod.snd a))) Tip.none, AV.bool (Prod.snd (Prod.snd a))],
        AObj.cells [AV.str { data := List.toArray (Prod.fst b) }, AV.sl 2 (Seq.map T.encS ((0 : Int), (0 : Int)) (Prod.fst (Prod.snd b))) Tip.none, AV.bool (Prod.snd (Prod.snd b))],
        AObj.cells [AV.str { data := #[] }, AV.sl 0 (Seq.raw []) Tip.nil, AV.bool false]] ∧
        (AV.str { data := List.toArray (Prod.fst a) } = AV.str { data := List.toArray (Prod.fst a) } ∧
        [AObj.cells [AV.str { data := List.toArray (Prod.fst a) }, AV.sl 2 (Seq.map T.encS ((0 : Int), (0 : Int)) (Prod.fst (Prod.snd a))) Tip.none, AV.bool (Prod.snd (Prod.snd a))],
        AObj.cells
        [AV.str { data := List.toArray (Prod.fst b) }, AV.sl 2 (Seq.map T.encS ((0 : Int), (0 : Int)) (Prod.fst (Prod.snd b))) Tip.none, AV.bool (Prod.snd (Prod.snd b))],
        AObj.cells [AV.str { data := #[] }, AV.sl 0 (Seq.raw []) Tip.nil, AV.bool false]] =
        [AObj.cells
        [AV.str { data := List.toArray (Prod.fst a) }, AV.sl 2 (Seq.map T.encS ((0 : Int), (0 : Int)) (Prod.fst (Prod.snd a))) Tip.none, AV.bool (Prod.snd (Prod.snd a))],
        AObj.cells
        [AV.str { data := List.toArray (Prod.fst b) }, AV.sl 2 (Seq.map T.encS ((0 : Int), (0 : Int)) (Prod.fst (Prod.snd b))) Tip.none, AV.bool (Prod.snd (Prod.snd b))],
        AObj.cells [AV.str { data := #[] }, AV.sl 0 (Seq.raw []) Tip.nil, AV.bool false]]) ∧
        Post (AV.agg [AV.str { data := List.toArray (Prod.fst a) }, AV.sl 2 (Seq.map T.encS ((0 : Int), (0 : Int)) x) Tip.none, AV.bool n])
        [AObj.cells [AV.str { data := List.toArray (Prod.fst a) }, AV.sl 2 (Seq.map T.encS ((0 : Int), (0 : Int)) (Prod.fst (Prod.snd a))) Tip.none, AV.bool (Prod.snd (Prod.snd a))],
        AObj.cells
        [AV.str { data := List.toArray (Prod.fst b) }, AV.sl 2 (Seq.map T.encS ((0 : Int), (0 : Int)) (Prod.fst (Prod.snd b))) Tip.none, AV.bool (Prod.snd (Prod.snd b))],
        AObj.cells [AV.str { data := List.toArray (Prod.fst a) }, AV.sl 2 (Seq.map T.encS ((0 : Int), (0 : Int)) x) Tip.none, AV.bool n]]) →
    ASpec Try.prog 257 [AV.agg (T.encT a), AV.agg (T.encT b), AV.fn (258 : FuncId) [], AV.bool n] [] Post := fun a b n Post h => Go.Ab.ASpec.of_vc g257 Go.Proofs.Try.func257 (by kernel_rfl) (by kernel_rfl) (by kernel_rfl) (Go.Ab.kc (by kernel_rfl) h)

-- 160
noncomputable def l160 : Nat → List Nat
  | _ => []
noncomputable def u160 : Nat → Bool
  | _ => false
noncomputable def m160 : Nat → Bool
  | _ => false
noncomputable def g160 : Cfg := { N := 14, live := l160, cut := u160, mu := m160, ret := rets }
theorem s160 : ∀ (a b : T.Term) (Post : AV → List AObj → Prop),
  condP (Prod.snd (Prod.snd a))
      (ASpec Try.prog 257
        [AV.agg [AV.str { data := List.toArray (Prod.fst a) }, AV.sl 2 (Seq.map T.encS ((0 : Int), (0 : Int)) (Prod.fst (Prod.snd a))) Tip.none, AV.bool (Prod.snd (Prod.snd a))],
        AV.agg [AV.str { data := List.toArray (Prod.fst b) }, AV.sl 2 (Seq.map T.encS ((0 : Int), (0 : Int)) (Prod.fst (Prod.snd b))) Tip.none, AV.bool (Prod.snd (Prod.snd b))],
        AV.fn 258 [], AV.bool (Prod.snd (Prod.snd b))]
        [AObj.cells [AV.str { data := List.toArray (Prod.fst a) }, AV.sl 2 (Seq.map T.encS ((0 : Int), (0 : Int)) (Prod.fst (Prod.snd a))) Tip.none, AV.bool (Prod.snd (Prod.snd a))],
        AObj.cells [AV.str { data := List.toArray (Prod.fst b) }, AV.sl 2 (Seq.map T.encS ((0 : Int), (0 : Int)) (Prod.fst (Prod.snd b))) Tip.none, AV.bool (Prod.snd (Prod.snd b))],
        AObj.cells [AV.str { data := #[] }, AV.sl 0 (Seq.raw []) Tip.nil, AV.bool false]]
        fun (r : AV) (H' : List AObj) =>
        ∃ (x : List UInt8 × List T.Span × Bool),
        r = AV.agg [AV.str { data := List.toArray (Prod.fst x) }, AV.sl 2 (Seq.map T.encS ((0 : Int), (0 : Int)) (Prod.fst (Prod.snd x))) Tip.none, AV.bool (Prod.snd (Prod.snd x))] ∧
        H' =
        [AObj.cells [AV.str { data := List.toArray (Prod.fst a) }, AV.sl 2 (Seq.map T.encS ((0 : Int), (0 : Int)) (Prod.fst (Prod.snd a))) Tip.none, AV.bool (Prod.snd (Prod.snd a))],
        AObj.cells [AV.str { data := List.toArray (Prod.fst b) }, AV.sl 2 (Seq.map T.encS ((0 : Int), (0 : Int)) (Prod.fst (Prod.snd b))) Tip.none, AV.bool (Prod.snd (Prod.snd b))],
        AObj.cells [AV.str { data := #[] }, AV.sl 0 (Seq.raw []) Tip.nil, AV.bool false]] ∧
        Post (AV.agg [AV.str { data := List.toArray (Prod.fst x) }, AV.sl 2 (Seq.map T.encS ((0 : Int), (0 : Int)) (Prod.fst (Prod.snd x))) Tip.none, AV.bool (Prod.snd (Prod.snd x))])
        [AObj.cells [AV.str { data := List.toArray (Prod.fst a) }, AV.sl 2 (Seq.map T.encS ((0 : Int), (0 : Int)) (Prod.fst (Prod.snd a))) Tip.none, AV.bool (Prod.snd (Prod.snd a))],
        AObj.cells [AV.str { data := List.toArray (Prod.fst b) }, AV.sl 2 (Seq.map T.encS ((0 : Int), (0 : Int)) (Prod.fst (Prod.snd b))) Tip.none, AV.bool (Prod.snd (Prod.snd b))],
        AObj.cells [AV.str { data := List.toArray (Prod.fst x) }, AV.sl 2 (Seq.map T.encS ((0 : Int), (0 : Int)) (Prod.fst (Prod.snd x))) Tip.none, AV.bool (Prod.snd (Prod.snd x))]])
      (ASpec Try.prog 257
        [AV.agg [AV.str { data := List.toArray (Prod.fst a) }, AV.sl 2 (Seq.map T.encS ((0 : Int), (0 : Int)) (Prod.fst (Prod.snd a))) Tip.none, AV.bool (Prod.snd (Prod.snd a))],
        AV.agg [AV.str { data := List.toArray (Prod.fst b) }, AV.sl 2 (Seq.map T.encS ((0 : Int), (0 : Int)) (Prod.fst (Prod.snd b))) Tip.none, AV.bool (Prod.snd (Prod.snd b))],
        AV.fn 258 [], AV.bool false]
        [AObj.cells [AV.str { data := List.toArray (Prod.fst a) }, AV.sl 2 (Seq.map T.encS ((0 : Int), (0 : Int)) (Prod.fst (Prod.snd a))) Tip.none, AV.bool (Prod.snd (Prod.snd a))],
        AObj.cells [AV.str { data := List.toArray (Prod.fst b) }, AV.sl 2 (Seq.map T.encS ((0 : Int), (0 : Int)) (Prod.fst (Prod.snd b))) Tip.none, AV.bool (Prod.snd (Prod.snd b))],
        AObj.cells [AV.str { data := #[] }, AV.sl 0 (Seq.raw []) Tip.nil, AV.bool false]]
        fun (r : AV) (H' : List AObj) =>
        ∃ (x : List UInt8 × List T.Span × Bool),
        r = AV.agg [AV.str { data := List.toArray (Prod.fst x) }, AV.sl 2 (Seq.map T.encS ((0 : Int), (0 : Int)) (Prod.fst (Prod.snd x))) Tip.none, AV.bool (Prod.snd (Prod.snd x))] ∧
        H' =
        [AObj.cells [AV.str { data := List.toArray (Prod.fst a) }, AV.sl 2 (Seq.map T.encS ((0 : Int), (0 : Int)) (Prod.fst (Prod.snd a))) Tip.none, AV.bool (Prod.snd (Prod.snd a))],
        AObj.cells [AV.str { data := List.toArray (Prod.fst b) }, AV.sl 2 (Seq.map T.encS ((0 : Int), (0 : Int)) (Prod.fst (Prod.snd b))) Tip.none, AV.bool (Prod.snd (Prod.snd b))],
        AObj.cells [AV.str { data := #[] }, AV.sl 0 (Seq.raw []) Tip.nil, AV.bool false]] ∧
        Post (AV.agg [AV.str { data := List.toArray (Prod.fst x) }, AV.sl 2 (Seq.map T.encS ((0 : Int), (0 : Int)) (Prod.fst (Prod.snd x))) Tip.none, AV.bool (Prod.snd (Prod.snd x))])
        [AObj.cells [AV.str { data := List.toArray (Prod.fst a) }, AV.sl 2 (Seq.map T.encS ((0 : Int), (0 : Int)) (Prod.fst (Prod.snd a))) Tip.none, AV.bool (Prod.snd (Prod.snd a))],
        AObj.cells [AV.str { data := List.toArray (Prod.fst b) }, AV.sl 2 (Seq.map T.encS ((0 : Int), (0 : Int)) (Prod.fst (Prod.snd b))) Tip.none, AV.bool (Prod.snd (Prod.snd b))],
        AObj.cells
        [AV.str { data := List.toArray (Prod.fst x) }, AV.sl 2 (Seq.map T.encS ((0 : Int), (0 : Int)) (Prod.fst (Prod.snd x))) Tip.none, AV.bool (Prod.snd (Prod.snd x))]]) →
    ASpec Try.prog 160 [AV.agg (T.encT a), AV.agg (T.encT b)] [] Post := fun a b Post h => Go.Ab.ASpec.of_vc g160 Go.Proofs.Try.func160 (by kernel_rfl) (by kernel_rfl) (by kernel_rfl) (Go.Ab.kc (by kernel_rfl) h)

-- 161
noncomputable def l161 : Nat → List Nat
  | _ => []
noncomputable def u161 : Nat → Bool
  | _ => false
noncomputable def m161 : Nat → Bool
  | _ => false
noncomputable def g161 : Cfg := { N := 26, live := l161, cut := u161, mu := m161, ret := rets }
theorem s161 : ∀ (a b : T.Term) (Post : AV → List AObj → Prop),
  condP (ByteArray.toList { data := List.toArray (Prod.fst a) } == ByteArray.toList { data := List.toArray (Prod.fst b) })
      (condP (!Prod.snd (Prod.snd a))
        (ASpec Try.prog 259
        [AV.sl 2 (Seq.map T.encS ((0 : Int), (0 : Int)) (Prod.fst (Prod.snd a))) Tip.none, AV.sl 2 (Seq.map T.encS ((0 : Int), (0 : Int)) (Prod.fst (Prod.snd b))) Tip.none]
        [AObj.cells [AV.str { data := List.toArray (Prod.fst a) }, AV.sl 2 (Seq.map T.encS ((0 : Int), (0 : Int)) (Prod.fst (Prod.snd a))) Tip.none, AV.bool (Prod.snd (Prod.snd a))],
        AObj.cells [AV.str { data := List.toArray (Prod.fst b) }, AV.sl 2 (Seq.map T.encS ((0 : Int), (0 : Int)) (Prod.fst (Prod.snd b))) Tip.none, AV.bool (Prod.snd (Prod.snd b))]]
        fun (r : AV) (H' : List AObj) =>
        ∃ (x : Bool),
        r = AV.bool x ∧
        H' =
        [AObj.cells [AV.str { data := List.toArray (Prod.fst a) }, AV.sl 2 (Seq.map T.encS ((0 : Int), (0 : Int)) (Prod.fst (Prod.snd a))) Tip.none, AV.bool (Prod.snd (Prod.snd a))],
        AObj.cells
        [AV.str { data := List.toArray (Prod.fst b) }, AV.sl 2 (Seq.map T.encS ((0 : Int), (0 : Int)) (Prod.fst (Prod.snd b))) Tip.none, AV.bool (Prod.snd (Prod.snd b))]] ∧
        Post (AV.bool x)
        [AObj.cells [AV.str { data := List.toArray (Prod.fst a) }, AV.sl 2 (Seq.map T.encS ((0 : Int), (0 : Int)) (Prod.fst (Prod.snd a))) Tip.none, AV.bool (Prod.snd (Prod.snd a))],
        AObj.cells
        [AV.str { data := List.toArray (Prod.fst b) }, AV.sl 2 (Seq.map T.encS ((0 : Int), (0 : Int)) (Prod.fst (Prod.snd b))) Tip.none, AV.bool (Prod.snd (Prod.snd b))]])
        (condP (Prod.snd (Prod.snd b))
        (ASpec Try.prog 259
        [AV.sl 2 (Seq.map T.encS ((0 : Int), (0 : Int)) (Prod.fst (Prod.snd a))) Tip.none, AV.sl 2 (Seq.map T.encS ((0 : Int), (0 : Int)) (Prod.fst (Prod.snd b))) Tip.none]
        [AObj.cells [AV.str { data := List.toArray (Prod.fst a) }, AV.sl 2 (Seq.map T.encS ((0 : Int), (0 : Int)) (Prod.fst (Prod.snd a))) Tip.none, AV.bool (Prod.snd (Prod.snd a))],
        AObj.cells [AV.str { data := List.toArray (Prod.fst b) }, AV.sl 2 (Seq.map T.encS ((0 : Int), (0 : Int)) (Prod.fst (Prod.snd b))) Tip.none, AV.bool (Prod.snd (Prod.snd b))]]
        fun (r : AV) (H' : List AObj) =>
        ∃ (x : Bool),
        r = AV.bool x ∧
        H' =
        [AObj.cells
        [AV.str { data := List.toArray (Prod.fst a) }, AV.sl 2 (Seq.map T.encS ((0 : Int), (0 : Int)) (Prod.fst (Prod.snd a))) Tip.none, AV.bool (Prod.snd (Prod.snd a))],
        AObj.cells
        [AV.str { data := List.toArray (Prod.fst b) }, AV.sl 2 (Seq.map T.encS ((0 : Int), (0 : Int)) (Prod.fst (Prod.snd b))) Tip.none, AV.bool (Prod.snd (Prod.snd b))]] ∧
        Post (AV.bool x)
        [AObj.cells
        [AV.str { data := List.toArray (Prod.fst a) }, AV.sl 2 (Seq.map T.encS ((0 : Int), (0 : Int)) (Prod.fst (Prod.snd a))) Tip.none, AV.bool (Prod.snd (Prod.snd a))],
        AObj.cells
        [AV.str { data := List.toArray (Prod.fst b) }, AV.sl 2 (Seq.map T.encS ((0 : Int), (0 : Int)) (Prod.fst (Prod.snd b))) Tip.none, AV.bool (Prod.snd (Prod.snd b))]])
        (Post (AV.bool false)
        [AObj.cells [AV.str { data := List.toArray (Prod.fst a) }, AV.sl 2 (Seq.map T.encS ((0 : Int), (0 : Int)) (Prod.fst (Prod.snd a))) Tip.none, AV.bool (Prod.snd (Prod.snd a))],
        AObj.cells [AV.str { data := List.toArray (Prod.fst b) }, AV.sl 2 (Seq.map T.encS ((0 : Int), (0 : Int)) (Prod.fst (Prod.snd b))) Tip.none, AV.bool (Prod.snd (Prod.snd b))]])))
      (Post (AV.bool false)
        [AObj.cells [AV.str { data := List.toArray (Prod.fst a) }, AV.sl 2 (Seq.map T.encS ((0 : Int), (0 : Int)) (Prod.fst (Prod.snd a))) Tip.none, AV.bool (Prod.snd (Prod.snd a))],
        AObj.cells [AV.str { data := List.toArray (Prod.fst b) }, AV.sl 2 (Seq.map T.encS ((0 : Int), (0 : Int)) (Prod.fst (Prod.snd b))) Tip.none, AV.bool (Prod.snd (Prod.snd b))]]) →
    ASpec Try.prog 161 [AV.agg (T.encT a), AV.agg (T.encT b)] [] Post := fun a b Post h => Go.Ab.ASpec.of_vc g161 Go.Proofs.Try.func161 (by kernel_rfl) (by kernel_rfl) (by kernel_rfl) (Go.Ab.kc (by kernel_rfl) h)

-- 155
noncomputable def l155 : Nat → List Nat
  | _ => []
noncomputable def u155 : Nat → Bool
  | _ => false
noncomputable def m155 : Nat → Bool
  | _ => false
noncomputable def g155 : Cfg := { N := 15, live := l155, cut := u155, mu := m155, ret := rets }
theorem s155 : ∀ (a : T.Term) (v : Int) (c : Bool) (Post : AV → List AObj → Prop),
  condP (!c)
      (Post (AV.bool (Prod.snd (Prod.snd a)))
        [AObj.cells [AV.str { data := List.toArray (Prod.fst a) }, AV.sl 2 (Seq.map T.encS ((0 : Int), (0 : Int)) (Prod.fst (Prod.snd a))) Tip.none, AV.bool (Prod.snd (Prod.snd a))]])
      (ASpec Try.prog 254 [AV.sl 2 (Seq.map T.encS ((0 : Int), (0 : Int)) (Prod.fst (Prod.snd a))) Tip.none, AV.int IntKind.i64 v]
        [AObj.cells [AV.str { data := List.toArray (Prod.fst a) }, AV.sl 2 (Seq.map T.encS ((0 : Int), (0 : Int)) (Prod.fst (Prod.snd a))) Tip.none, AV.bool (Prod.snd (Prod.snd a))]]
        fun (r : AV) (H' : List AObj) =>
        ∃ (x : Bool),
        r = AV.bool x ∧
        H' =
        [AObj.cells [AV.str { data := List.toArray (Prod.fst a) }, AV.sl 2 (Seq.map T.encS ((0 : Int), (0 : Int)) (Prod.fst (Prod.snd a))) Tip.none, AV.bool (Prod.snd (Prod.snd a))]] ∧
        Post (AV.bool x)
        [AObj.cells
        [AV.str { data := List.toArray (Prod.fst a) }, AV.sl 2 (Seq.map T.encS ((0 : Int), (0 : Int)) (Prod.fst (Prod.snd a))) Tip.none, AV.bool (Prod.snd (Prod.snd a))]]) →
    ASpec Try.prog 155 [AV.agg (T.encT a), AV.int IntKind.i64 v, AV.bool c] [] Post := fun a v c Post h => Go.Ab.ASpec.of_vc g155 Go.Proofs.Try.func155 (by kernel_rfl) (by kernel_rfl) (by kernel_rfl) (Go.Ab.kc (by kernel_rfl) h)

-- 159
noncomputable def l159 : Nat → List Nat
  | _ => []
noncomputable def u159 : Nat → Bool
  | _ => false
noncomputable def m159 : Nat → Bool
  | _ => false
noncomputable def g159 : Cfg := { N := 12, live := l159, cut := u159, mu := m159, ret := rets }
theorem s159 : ∀ (a : T.Term) (Post : AV → List AObj → Prop),
  condP (!Prod.snd (Prod.snd a))
      (Post (AV.bool ((↑(List.length (Prod.fst (Prod.snd a))) : Int) == (0 : Int)))
        [AObj.cells [AV.str { data := List.toArray (Prod.fst a) }, AV.sl 2 (Seq.map T.encS ((0 : Int), (0 : Int)) (Prod.fst (Prod.snd a))) Tip.none, AV.bool (Prod.snd (Prod.snd a))]])
      (Post (AV.bool false)
        [AObj.cells [AV.str { data := List.toArray (Prod.fst a) }, AV.sl 2 (Seq.map T.encS ((0 : Int), (0 : Int)) (Prod.fst (Prod.snd a))) Tip.none, AV.bool (Prod.snd (Prod.snd a))]]) →
    ASpec Try.prog 159 [AV.agg (T.encT a)] [] Post := fun a Post h => Go.Ab.ASpec.of_vc g159 Go.Proofs.Try.func159 (by kernel_rfl) (by kernel_rfl) (by kernel_rfl) (Go.Ab.kc (by kernel_rfl) h)

-- 158
noncomputable def l158 : Nat → List Nat
  | _ => []
noncomputable def u158 : Nat → Bool
  | _ => false
noncomputable def m158 : Nat → Bool
  | _ => false
noncomputable def g158 : Cfg := { N := 11, live := l158, cut := u158, mu := m158, ret := rets }
theorem s158 : ∀ (a : T.Term) (Post : AV → List AObj → Prop),
  (ASpec Try.prog 154 [AV.str { data := List.toArray (Prod.fst a) }]
      [AObj.cells [AV.str { data := List.toArray (Prod.fst a) }, AV.sl 2 (Seq.map T.encS ((0 : Int), (0 : Int)) (Prod.fst (Prod.snd a))) Tip.none, AV.bool (Prod.snd (Prod.snd a))]]
      fun (r : AV) (H' : List AObj) =>
      ∃ (x : Bool),
        r = AV.bool x ∧
        H' = [AObj.cells [AV.str { data := List.toArray (Prod.fst a) }, AV.sl 2 (Seq.map T.encS ((0 : Int), (0 : Int)) (Prod.fst (Prod.snd a))) Tip.none, AV.bool (Prod.snd (Prod.snd a))]] ∧
        condP x
        (ASpec Try.prog 256 [AV.sl 2 (Seq.map T.encS ((0 : Int), (0 : Int)) (Prod.fst (Prod.snd a))) Tip.none]
        [AObj.cells [AV.str { data := List.toArray (Prod.fst a) }, AV.sl 2 (Seq.map T.encS ((0 : Int), (0 : Int)) (Prod.fst (Prod.snd a))) Tip.none, AV.bool (Prod.snd (Prod.snd a))]]
        fun (r : AV) (H' : List AObj) =>
        ∃ (x : Bool),
        r = AV.bool x ∧
        H' =
        [AObj.cells
        [AV.str { data := List.toArray (Prod.fst a) }, AV.sl 2 (Seq.map T.encS ((0 : Int), (0 : Int)) (Prod.fst (Prod.snd a))) Tip.none, AV.bool (Prod.snd (Prod.snd a))]] ∧
        Post (AV.bool x)
        [AObj.cells
        [AV.str { data := List.toArray (Prod.fst a) }, AV.sl 2 (Seq.map T.encS ((0 : Int), (0 : Int)) (Prod.fst (Prod.snd a))) Tip.none, AV.bool (Prod.snd (Prod.snd a))]])
        (Post (AV.bool false)
        [AObj.cells
        [AV.str { data := List.toArray (Prod.fst a) }, AV.sl 2 (Seq.map T.encS ((0 : Int), (0 : Int)) (Prod.fst (Prod.snd a))) Tip.none, AV.bool (Prod.snd (Prod.snd a))]])) →
    ASpec Try.prog 158 [AV.agg (T.encT a)] [] Post := fun a Post h => Go.Ab.ASpec.of_vc g158 Go.Proofs.Try.func158 (by kernel_rfl) (by kernel_rfl) (by kernel_rfl) (Go.Ab.kc (by kernel_rfl) h)

-- 200
noncomputable def l200 : Nat → List Nat
  | _ => []
noncomputable def u200 : Nat → Bool
  | _ => false
noncomputable def m200 : Nat → Bool
  | _ => false
noncomputable def g200 : Cfg := { N := 6, live := l200, cut := u200, mu := m200, ret := rets }
theorem s200 : ∀ (s : ByteArray) (Post : AV → List AObj → Prop),
  (ASpec Try.prog 289 [] [AObj.cells [AV.str { data := #[] }, AV.sl 0 (Seq.raw []) Tip.nil, AV.bool false]] fun (r : AV) (H' : List AObj) =>
      ∃ (x : List T.Span),
        r = AV.sl 2 (Seq.map T.encS ((0 : Int), (0 : Int)) x) Tip.none ∧
        H' = [AObj.cells [AV.str { data := #[] }, AV.sl 0 (Seq.raw []) Tip.nil, AV.bool false]] ∧
        Post (AV.agg [AV.str s, AV.sl 2 (Seq.map T.encS ((0 : Int), (0 : Int)) x) Tip.none, AV.bool true])
        [AObj.cells [AV.str s, AV.sl 2 (Seq.map T.encS ((0 : Int), (0 : Int)) x) Tip.none, AV.bool true]]) →
    ASpec Try.prog 200 [AV.str s] [] Post := fun s Post h => Go.Ab.ASpec.of_vc g200 Go.Proofs.Try.func200 (by kernel_rfl) (by kernel_rfl) (by kernel_rfl) (Go.Ab.kc (by kernel_rfl) h)

-- 33
noncomputable def l33 : Nat → List Nat
  | _ => []
noncomputable def u33 : Nat → Bool
  | _ => false
noncomputable def m33 : Nat → Bool
  | _ => false
noncomputable def g33 : Cfg := { N := 26, live := l33, cut := u33, mu := m33, ret := rets }
theorem s33 : ∀ (a b : T.Term) (Post : AV → List AObj → Prop),
  condP (ByteArray.toList { data := List.toArray (Prod.fst a) } == ByteArray.toList { data := List.toArray (Prod.fst b) })
      (ASpec Try.prog 162
        [AV.sl 2 (Seq.map T.encS ((0 : Int), (0 : Int)) (Prod.fst (Prod.snd a))) Tip.none, AV.sl 2 (Seq.map T.encS ((0 : Int), (0 : Int)) (Prod.fst (Prod.snd b))) Tip.none]
        [AObj.cells [AV.str { data := List.toArray (Prod.fst a) }, AV.sl 2 (Seq.map T.encS ((0 : Int), (0 : Int)) (Prod.fst (Prod.snd a))) Tip.none, AV.bool (Prod.snd (Prod.snd a))],
        AObj.cells [AV.str { data := List.toArray (Prod.fst b) }, AV.sl 2 (Seq.map T.encS ((0 : Int), (0 : Int)) (Prod.fst (Prod.snd b))) Tip.none, AV.bool (Prod.snd (Prod.snd b))]]
        fun (r : AV) (H' : List AObj) =>
        ∃ (x : Bool),
        r = AV.bool x ∧
        H' =
        [AObj.cells [AV.str { data := List.toArray (Prod.fst a) }, AV.sl 2 (Seq.map T.encS ((0 : Int), (0 : Int)) (Prod.fst (Prod.snd a))) Tip.none, AV.bool (Prod.snd (Prod.snd a))],
        AObj.cells
        [AV.str { data := List.toArray (Prod.fst b) }, AV.sl 2 (Seq.map T.encS ((0 : Int), (0 : Int)) (Prod.fst (Prod.snd b))) Tip.none, AV.bool (Prod.snd (Prod.snd b))]] ∧
        condP x
        (condP (Prod.snd (Prod.snd b))
        (Post (AV.bool true)
        [AObj.cells
        [AV.str { data := List.toArray (Prod.fst a) }, AV.sl 2 (Seq.map T.encS ((0 : Int), (0 : Int)) (Prod.fst (Prod.snd a))) Tip.none, AV.bool (Prod.snd (Prod.snd a))],
        AObj.cells
        [AV.str { data := List.toArray (Prod.fst b) }, AV.sl 2 (Seq.map T.encS ((0 : Int), (0 : Int)) (Prod.fst (Prod.snd b))) Tip.none, AV.bool (Prod.snd (Prod.snd b))]])
        (Post (AV.bool !Prod.snd (Prod.snd a))
        [AObj.cells
        [AV.str { data := List.toArray (Prod.fst a) }, AV.sl 2 (Seq.map T.encS ((0 : Int), (0 : Int)) (Prod.fst (Prod.snd a))) Tip.none, AV.bool (Prod.snd (Prod.snd a))],
        AObj.cells
        [AV.str { data := List.toArray (Prod.fst b) }, AV.sl 2 (Seq.map T.encS ((0 : Int), (0 : Int)) (Prod.fst (Prod.snd b))) Tip.none, AV.bool (Prod.snd (Prod.snd b))]]))
        (Post (AV.bool false)
        [AObj.cells [AV.str { data := List.toArray (Prod.fst a) }, AV.sl 2 (Seq.map T.encS ((0 : Int), (0 : Int)) (Prod.fst (Prod.snd a))) Tip.none, AV.bool (Prod.snd (Prod.snd a))],
        AObj.cells
        [AV.str { data := List.toArray (Prod.fst b) }, AV.sl 2 (Seq.map T.encS ((0 : Int), (0 : Int)) (Prod.fst (Prod.snd b))) Tip.none, AV.bool (Prod.snd (Prod.snd b))]]))
      (Post (AV.bool false)
        [AObj.cells [AV.str { data := List.toArray (Prod.fst a) }, AV.sl 2 (Seq.map T.encS ((0 : Int), (0 : Int)) (Prod.fst (Prod.snd a))) Tip.none, AV.bool (Prod.snd (Prod.snd a))],
        AObj.cells [AV.str { data := List.toArray (Prod.fst b) }, AV.sl 2 (Seq.map T.encS ((0 : Int), (0 : Int)) (Prod.fst (Prod.snd b))) Tip.none, AV.bool (Prod.snd (Prod.snd b))]]) →
    ASpec Try.prog 33 [AV.agg (T.encT a), AV.agg (T.encT b)] [] Post := fun a b Post h => Go.Ab.ASpec.of_vc g33 Go.Proofs.Try.func33 (by kernel_rfl) (by kernel_rfl) (by kernel_rfl) (Go.Ab.kc (by kernel_rfl) h)

-- 34
noncomputable def l34 : Nat → List Nat
  | _ => []
noncomputable def u34 : Nat → Bool
  | _ => false
noncomputable def m34 : Nat → Bool
  | _ => false
noncomputable def g34 : Cfg := { N := 12, live := l34, cut := u34, mu := m34, ret := rets }
theorem s34 : ∀ (a : T.Term) (Post : AV → List AObj → Prop),
  condP (!Prod.snd (Prod.snd a))
      (Post (AV.bool ((↑(List.length (Prod.fst (Prod.snd a))) : Int) == (0 : Int)))
        [AObj.cells [AV.str { data := List.toArray (Prod.fst a) }, AV.sl 2 (Seq.map T.encS ((0 : Int), (0 : Int)) (Prod.fst (Prod.snd a))) Tip.none, AV.bool (Prod.snd (Prod.snd a))]])
      (Post (AV.bool false)
        [AObj.cells [AV.str { data := List.toArray (Prod.fst a) }, AV.sl 2 (Seq.map T.encS ((0 : Int), (0 : Int)) (Prod.fst (Prod.snd a))) Tip.none, AV.bool (Prod.snd (Prod.snd a))]]) →
    ASpec Try.prog 34 [AV.agg (T.encT a)] [] Post := fun a Post h => Go.Ab.ASpec.of_vc g34 Go.Proofs.Try.func34 (by kernel_rfl) (by kernel_rfl) (by kernel_rfl) (Go.Ab.kc (by kernel_rfl) h)

-- 36
noncomputable def l36 : Nat → List Nat
  | _ => []
noncomputable def u36 : Nat → Bool
  | _ => false
noncomputable def m36 : Nat → Bool
  | _ => false
noncomputable def g36 : Cfg := { N := 24, live := l36, cut := u36, mu := m36, ret := rets }
theorem s36 : ∀ (a b : T.Term) (Post : AV → List AObj → Prop),
  condP (ByteArray.toList { data := List.toArray (Prod.fst a) } == ByteArray.toList { data := List.toArray (Prod.fst b) })
      (condP (Prod.snd (Prod.snd a) == Prod.snd (Prod.snd b))
        (ASpec Try.prog 163
        [AV.sl 2 (Seq.map T.encS ((0 : Int), (0 : Int)) (Prod.fst (Prod.snd a))) Tip.none, AV.sl 2 (Seq.map T.encS ((0 : Int), (0 : Int)) (Prod.fst (Prod.snd b))) Tip.none]
        [AObj.cells [AV.str { data := List.toArray (Prod.fst a) }, AV.sl 2 (Seq.map T.encS ((0 : Int), (0 : Int)) (Prod.fst (Prod.snd a))) Tip.none, AV.bool (Prod.snd (Prod.snd a))],
        AObj.cells [AV.str { data := List.toArray (Prod.fst b) }, AV.sl 2 (Seq.map T.encS ((0 : Int), (0 : Int)) (Prod.fst (Prod.snd b))) Tip.none, AV.bool (Prod.snd (Prod.snd b))]]
        fun (r : AV) (H' : List AObj) =>
        ∃ (x : Bool),
        r = AV.bool x ∧
        H' =
        [AObj.cells [AV.str { data := List.toArray (Prod.fst a) }, AV.sl 2 (Seq.map T.encS ((0 : Int), (0 : Int)) (Prod.fst (Prod.snd a))) Tip.none, AV.bool (Prod.snd (Prod.snd a))],
        AObj.cells
        [AV.str { data := List.toArray (Prod.fst b) }, AV.sl 2 (Seq.map T.encS ((0 : Int), (0 : Int)) (Prod.fst (Prod.snd b))) Tip.none, AV.bool (Prod.snd (Prod.snd b))]] ∧
        Post (AV.bool x)
        [AObj.cells [AV.str { data := List.toArray (Prod.fst a) }, AV.sl 2 (Seq.map T.encS ((0 : Int), (0 : Int)) (Prod.fst (Prod.snd a))) Tip.none, AV.bool (Prod.snd (Prod.snd a))],
        AObj.cells
        [AV.str { data := List.toArray (Prod.fst b) }, AV.sl 2 (Seq.map T.encS ((0 : Int), (0 : Int)) (Prod.fst (Prod.snd b))) Tip.none, AV.bool (Prod.snd (Prod.snd b))]])
        (Post (AV.bool false)
        [AObj.cells [AV.str { data := List.toArray (Prod.fst a) }, AV.sl 2 (Seq.map T.encS ((0 : Int), (0 : Int)) (Prod.fst (Prod.snd a))) Tip.none, AV.bool (Prod.snd (Prod.snd a))],
        AObj.cells [AV.str { data := List.toArray (Prod.fst b) }, AV.sl 2 (Seq.map T.encS ((0 : Int), (0 : Int)) (Prod.fst (Prod.snd b))) Tip.none, AV.bool (Prod.snd (Prod.snd b))]]))
      (Post (AV.bool false)
        [AObj.cells [AV.str { data := List.toArray (Prod.fst a) }, AV.sl 2 (Seq.map T.encS ((0 : Int), (0 : Int)) (Prod.fst (Prod.snd a))) Tip.none, AV.bool (Prod.snd (Prod.snd a))],
        AObj.cells [AV.str { data := List.toArray (Prod.fst b) }, AV.sl 2 (Seq.map T.encS ((0 : Int), (0 : Int)) (Prod.fst (Prod.snd b))) Tip.none, AV.bool (Prod.snd (Prod.snd b))]]) →
    ASpec Try.prog 36 [AV.agg (T.encT a), AV.agg (T.encT b)] [] Post := fun a b Post h => Go.Ab.ASpec.of_vc g36 Go.Proofs.Try.func36 (by kernel_rfl) (by kernel_rfl) (by kernel_rfl) (Go.Ab.kc (by kernel_rfl) h)

-- 153
noncomputable def l153 : Nat → List Nat
  | _ => []
noncomputable def u153 : Nat → Bool
  | _ => false
noncomputable def m153 : Nat → Bool
  | _ => false
noncomputable def g153 : Cfg := { N := 13, live := l153, cut := u153, mu := m153, ret := rets }
theorem s153 : ∀ (a : T.Term) (Post : AV → List AObj → Prop),
  condP (decide ((↑(List.length (Prod.fst (Prod.snd a))) : Int) > (60 : Int)))
      (Post (AV.bool true)
        [AObj.cells [AV.str { data := List.toArray (Prod.fst a) }, AV.sl 2 (Seq.map T.encS ((0 : Int), (0 : Int)) (Prod.fst (Prod.snd a))) Tip.none, AV.bool (Prod.snd (Prod.snd a))]])
      (Post (AV.bool (decide ((↑(ByteArray.size { data := List.toArray (Prod.fst a) }) : Int) > (200 : Int))))
        [AObj.cells [AV.str { data := List.toArray (Prod.fst a) }, AV.sl 2 (Seq.map T.encS ((0 : Int), (0 : Int)) (Prod.fst (Prod.snd a))) Tip.none, AV.bool (Prod.snd (Prod.snd a))]]) →
    ASpec Try.prog 153 [AV.agg (T.encT a)] [] Post := fun a Post h => Go.Ab.ASpec.of_vc g153 Go.Proofs.Try.func153 (by kernel_rfl) (by kernel_rfl) (by kernel_rfl) (Go.Ab.kc (by kernel_rfl) h)

end
end Sg
end

section
/- A trail as an object; what is done to it. -/

open Go Go.Ab Go.Proofs V
namespace T
noncomputable def tO (E : List TE) (L : List Int) (a b : Nat) : AObj := .cells [.sl 5 (.map encTE noTE E) (.tok a), .sl 1 (.map encI 0 L) (.tok b)]
noncomputable def HT (E : List TE) (L : List Int) : List AObj := [tO E L 1 2, .tok, .tok]
/-- kind, version, number, term -/
abbrev Dt := Int × Int × Int × Term
noncomputable def encDt (x : Dt) : List AV := [.int .i64 x.1, .int .i64 x.2.1, .int .i64 x.2.2.1, .str ⟨x.2.2.2.1.toArray⟩, .sl 2 (.map encS (0, 0) x.2.2.2.2.1) .none, .bool x.2.2.2.2.2]
abbrev noDt : Dt := (0, 0, 0, noT)
end T
end

section
/- Printed: what the code of functions 26, 28, 30, 80, 86, 29, 156, 31, 32, 35 asks for, by the framework's own reading of it; each line is checked against the code. -/

set_option linter.unusedVariables false
set_option maxRecDepth 100000
set_option maxHeartbeats 4000000
open Go Go.Ab Go.Proofs
namespace Tl
noncomputable section

noncomputable def updT (args : List AV) (H : List AObj) (E : List T.TE) (L : List Int) : List AObj := match args with
  | .ptr p _ :: _ => match H[p]? with
    | some (.cells [.sl _ _ (.tok a), .sl _ _ (.tok b)]) => (((H.set a .gone).set b .gone).set p (.cells [.sl 5 (.map T.encTE T.noTE E) (.tok H.length), .sl 1 (.map encI 0 L) (.tok (H.length + 1))])) ++ [.tok, .tok]
    | _ => H
  | _ => H
noncomputable def retT : List (Nat × Ret) := [
  (26, ⟨Bool, fun _ _ x => .bool x, fun _ H _ => H⟩), (27, ⟨Unit, fun _ _ _ => .bool true, fun _ H _ => H⟩),
  (28, ⟨Unit, fun _ H _ => .ptr H.length 0, fun _ H _ => H ++ [T.tO [] [] (H.length + 1) (H.length + 2), .tok, .tok]⟩),
  (30, ⟨Int, fun _ _ x => .int .i64 x, fun _ H _ => H⟩), (80, ⟨Int, fun _ _ x => .int .i64 x, fun _ H _ => H⟩), (29, ⟨T.Term, fun _ _ x => .agg (T.encT x), fun _ H _ => H⟩), (86, ⟨T.Term, fun _ _ x => .agg (T.encT x), fun _ H _ => H⟩),
  (156, ⟨List T.TE × List Int, fun _ _ _ => .tup [], fun a H x => updT a H x.1 x.2⟩),
  (31, ⟨Int × List T.TE × List Int, fun _ _ x => .int .i64 x.1, fun a H x => updT a H x.2.1 x.2.2⟩),
  (32, ⟨Int × List T.TE × List Int, fun _ _ x => .int .i64 x.1, fun a H x => updT a H x.2.1 x.2.2⟩),
  (35, ⟨List T.TE × List Int, fun _ _ _ => .tup [], fun a H x => updT a H x.1 x.2⟩),
  (81, ⟨Int, fun _ _ x => .int .i64 x, fun _ H _ => H⟩)]
noncomputable def rets : FuncId → List Ret := fun f => match lookupR retT f with
  | [] => Sg.rets f
  | l => l

-- 26
noncomputable def l26 : Nat → List Nat
  | 4 => [0, 3]
  | _ => []
noncomputable def u26 : Nat → Bool
  | _ => false
noncomputable def m26 : Nat → Bool
  | _ => false
noncomputable def g26 : Cfg := { N := 19, live := l26, cut := u26, mu := m26, ret := rets }
noncomputable def c26 : Go.Code := Go.Ab.bodyOf Go.Proofs.Try.f26
noncomputable def q26_0 : Nat → (AV → List AObj → Prop) → AQ := fun (n : Nat) (Post : AV → List AObj → Prop) => endQ Try.prog (resultsOf Try.f26) Post
noncomputable def q26_1 : Nat → (AV → List AObj → Prop) → AQ := fun (n : Nat) (Post : AV → List AObj → Prop) => seqQ (fun (s' : Slots) (H' : List AObj) => awp Try.prog g26 n (codeSnd (codeSnd (codeSnd c26))) s' H' (q26_0 n Post)) (q26_0 n Post)
noncomputable def q26_2 : Nat → (AV → List AObj → Prop) → AQ := fun (n : Nat) (Post : AV → List AObj → Prop) => blockQ 0 (q26_1 n Post)
noncomputable def c26_4 : Go.Code := codeFst (codeSnd (codeFst (codeSnd (codeSnd c26))))
theorem s26 : ∀ (l : List T.Dt) (Post : AV → List AObj → Prop),
  condP (decide ((↑(List.length l) : Int) > (60 : Int))) (Post (AV.bool true) [])
      (AWP Try.prog 19 0 c26_4 [(0, AV.sl 6 (Seq.map T.encDt T.noDt l) Tip.none), (3, AV.int IntKind.i64 (0 : Int))] [] (q26_2 0 Post)) →
    ASpec Try.prog 26 [AV.sl 6 (Seq.map T.encDt T.noDt l) Tip.none] [] Post := fun l Post h => Go.Ab.ASpec.of_vc g26 Go.Proofs.Try.func26 (by kernel_rfl) (by kernel_rfl) (by kernel_rfl) (Go.Ab.kc (by kernel_rfl) h)
theorem v26_4 : ∀ (l : List T.Dt) (i : Int) (n : Nat) (Post : AV → List AObj → Prop),
  condP (decide (i < (↑(List.length l) : Int)))
      (needP ((0 : Int) ≤ i ∧ i < (↑(List.length l) : Int))
        (ASpec Try.prog 153
        [AV.agg
        [AV.str { data := List.toArray (Prod.fst (Prod.snd (Prod.snd (Prod.snd (List.getD l (Int.toNat i) T.noDt))))) },
        AV.sl 2 (Seq.map T.encS ((0 : Int), (0 : Int)) (Prod.fst (Prod.snd (Prod.snd (Prod.snd (Prod.snd (List.getD l (Int.toNat i) T.noDt))))))) Tip.none,
        AV.bool (Prod.snd (Prod.snd (Prod.snd (Prod.snd (Prod.snd (List.getD l (Int.toNat i) T.noDt))))))]]
        [] fun (r : AV) (H' : List AObj) =>
        ∃ (x : Bool),
        r = AV.bool x ∧
        H' = [] ∧
        condP x (Post (AV.bool true) [])
        (AWP Try.prog 19 n c26_4 [(0, AV.sl 6 (Seq.map T.encDt T.noDt l) Tip.none), (3, AV.int IntKind.i64 (IntKind.wrap IntKind.i64 (i + (1 : Int))))] []
        (q26_2 n Post))))
      (Post (AV.bool false) []) →
    AWP Try.prog 19 n c26_4 [(0, AV.sl 6 (Seq.map T.encDt T.noDt l) Tip.none), (3, AV.int IntKind.i64 i)] [] (q26_2 n Post) := fun l i n Post h => Go.Ab.AWP.loop' g26 (Cfg.live g26) c26_4 (by kernel_rfl) (by kernel_rfl) (Go.Ab.kc (by kernel_rfl) h)

-- 28
noncomputable def l28 : Nat → List Nat
  | _ => []
noncomputable def u28 : Nat → Bool
  | _ => false
noncomputable def m28 : Nat → Bool
  | _ => false
noncomputable def g28 : Cfg := { N := 3, live := l28, cut := u28, mu := m28, ret := rets }
theorem s28 : ∀ (Post : AV → List AObj → Prop), Post (AV.ptr 0 0) [AObj.cells [AV.sl 0 (Seq.raw []) Tip.nil, AV.sl 0 (Seq.raw []) Tip.nil]] → ASpec Try.prog 28 [] [] Post := fun Post h => Go.Ab.ASpec.of_vc g28 Go.Proofs.Try.func28 (by kernel_rfl) (by kernel_rfl) (by kernel_rfl) (Go.Ab.kc (by kernel_rfl) h)

-- 30
noncomputable def l30 : Nat → List Nat
  | _ => []
noncomputable def u30 : Nat → Bool
  | _ => false
noncomputable def m30 : Nat → Bool
  | _ => false
noncomputable def g30 : Cfg := { N := 10, live := l30, cut := u30, mu := m30, ret := rets }
theorem s30 : ∀ (E : List T.TE) (L : List Int) (Post : AV → List AObj → Prop),
  Post (AV.int IntKind.i64 (↑(List.length L) : Int))
      [AObj.cells [AV.sl 5 (Seq.map T.encTE T.noTE E) (Tip.tok 1), AV.sl 1 (Seq.map encI (0 : Int) L) (Tip.tok 2)], AObj.tok, AObj.tok] →
    ASpec Try.prog 30 [AV.ptr 0 0] (T.HT E L) Post := fun E L Post h => Go.Ab.ASpec.of_vc g30 Go.Proofs.Try.func30 (by kernel_rfl) (by kernel_rfl) (by kernel_rfl) (Go.Ab.kc (by kernel_rfl) h)

-- 80
noncomputable def l80 : Nat → List Nat
  | _ => []
noncomputable def u80 : Nat → Bool
  | _ => false
noncomputable def m80 : Nat → Bool
  | _ => false
noncomputable def g80 : Cfg := { N := 10, live := l80, cut := u80, mu := m80, ret := rets }
theorem s80 : ∀ (E : List T.TE) (L : List Int) (Post : AV → List AObj → Prop),
  Post (AV.int IntKind.i64 (↑(List.length E) : Int))
      [AObj.cells [AV.sl 5 (Seq.map T.encTE T.noTE E) (Tip.tok 1), AV.sl 1 (Seq.map encI (0 : Int) L) (Tip.tok 2)], AObj.tok, AObj.tok] →
    ASpec Try.prog 80 [AV.ptr 0 0] (T.HT E L) Post := fun E L Post h => Go.Ab.ASpec.of_vc g80 Go.Proofs.Try.func80 (by kernel_rfl) (by kernel_rfl) (by kernel_rfl) (Go.Ab.kc (by kernel_rfl) h)

-- 86
noncomputable def l86 : Nat → List Nat
  | 5 => [2, 6, 7, 27, 28, 29]
  | _ => []
noncomputable def u86 : Nat → Bool
  | _ => false
noncomputable def m86 : Nat → Bool
  | _ => false
noncomputable def g86 : Cfg := { N := 44, live := l86, cut := u86, mu := m86, ret := rets }
noncomputable def c86 : Go.Code := Go.Ab.bodyOf Go.Proofs.Try.f86
noncomputable def q86_0 : Nat → (AV → List AObj → Prop) → AQ := fun (n : Nat) (Post : AV → List AObj → Prop) => endQ Try.prog (resultsOf Try.f86) Post
noncomputable def q86_1 : Nat → (AV → List AObj → Prop) → AQ := fun (n : Nat) (Post : AV → List AObj → Prop) => seqQ (fun (s' : Slots) (H' : List AObj) => awp Try.prog g86 n (codeSnd (codeSnd (codeSnd (codeSnd c86)))) s' H' (q86_0 n Post)) (q86_0 n Post)
noncomputable def q86_2 : Nat → (AV → List AObj → Prop) → AQ := fun (n : Nat) (Post : AV → List AObj → Prop) => blockQ 0 (q86_1 n Post)
noncomputable def c86_5 : Go.Code := codeFst (codeSnd (codeFst (codeSnd (codeSnd (codeSnd c86)))))
theorem s86 : ∀ (E : List T.TE) (L : List Int) (n : Int) (s : ByteArray) (Post : AV → List AObj → Prop),
  (ASpec Try.prog 200 [AV.str s]
      [AObj.cells [AV.sl 5 (Seq.map T.encTE T.noTE E) (Tip.tok 1), AV.sl 1 (Seq.map encI (0 : Int) L) (Tip.tok 2)], AObj.tok, AObj.tok,
        AObj.cells [AV.str { data := #[] }, AV.sl 0 (Seq.raw []) Tip.nil, AV.bool false]]
      fun (r : AV) (H' : List AObj) =>
      ∃ (x : List UInt8 × List T.Span × Bool),
        r = AV.agg [AV.str { data := List.toArray (Prod.fst x) }, AV.sl 2 (Seq.map T.encS ((0 : Int), (0 : Int)) (Prod.fst (Prod.snd x))) Tip.none, AV.bool (Prod.snd (Prod.snd x))] ∧
        H' =
        [AObj.cells [AV.sl 5 (Seq.map T.encTE T.noTE E) (Tip.tok 1), AV.sl 1 (Seq.map encI (0 : Int) L) (Tip.tok 2)], AObj.tok, AObj.tok,
        AObj.cells [AV.str { data := #[] }, AV.sl 0 (Seq.raw []) Tip.nil, AV.bool false]] ∧
        needP
        (((0 : Int) ≤
        if (if (↑(List.length E) : Int) < n then (↑(List.length E) : Int) else n) > (0 : Int) then if (↑(List.length E) : Int) < n then (↑(List.length E) : Int) else n else (0 : Int)) ∧
        (if (if (↑(List.length E) : Int) < n then (↑(List.length E) : Int) else n) > (0 : Int) then if (↑(List.length E) : Int) < n then (↑(List.length E) : Int) else n else (0 : Int)) ≤
        (↑(List.length E) : Int))
        (AWP Try.prog 44 3 c86_5
        [(2, AV.str s), (6, AV.ptr 3 0), (7, AV.ptr 4 0),
        (27,
        AV.sl 5
        (Seq.map T.encTE T.noTE
        (List.drop 0
        (List.take
        (Int.toNat
        (if (if (↑(List.length E) : Int) < n then (↑(List.length E) : Int) else n) > (0 : Int) then if (↑(List.length E) : Int) < n then (↑(List.length E) : Int) else n
        else (0 : Int)))
        E)))
        Tip.none),
        (28,
        AV.int IntKind.i64
        (↑(List.length
        (List.drop 0
        (List.take
        (Int.toNat
        (if (if (↑(List.length E) : Int) < n then (↑(List.length E) : Int) else n) > (0 : Int) then if (↑(List.length E) : Int) < n then (↑(List.length E) : Int) else n
        else (0 : Int)))
        E))) :
        Int)),
        (29, AV.int IntKind.i64 (0 : Int))]
        [AObj.cells [AV.sl 5 (Seq.map T.encTE T.noTE E) (Tip.tok 1), AV.sl 1 (Seq.map encI (0 : Int) L) (Tip.tok 2)], AObj.tok, AObj.tok,
        AObj.cells [AV.str { data := #[] }, AV.sl 0 (Seq.raw []) Tip.nil, AV.bool false],
        AObj.cells [AV.str { data := List.toArray (Prod.fst x) }, AV.sl 2 (Seq.map T.encS ((0 : Int), (0 : Int)) (Prod.fst (Prod.snd x))) Tip.none, AV.bool (Prod.snd (Prod.snd x))]]
        (q86_2 3 Post))) →
    ASpec Try.prog 86 [AV.ptr 0 0, AV.int IntKind.i64 n, AV.str s] (T.HT E L) Post := fun E L n s Post h => Go.Ab.ASpec.of_vc g86 Go.Proofs.Try.func86 (by kernel_rfl) (by kernel_rfl) (by kernel_rfl) (Go.Ab.kc (by kernel_rfl) h)
theorem v86_5 : ∀ (E : List T.TE) (L : List Int) (s : ByteArray) (o : T.Term) (l : List T.TE) (n i : Int) (n_1 : Nat) (Post : AV → List AObj → Prop),
  condP (decide (i < n))
      (needP ((0 : Int) ≤ i ∧ i < (↑(List.length l) : Int))
        (condP (ByteArray.toList { data := List.toArray (Prod.fst (Prod.fst (List.getD l (Int.toNat i) T.noTE))) } == ByteArray.toList s)
        (ASpec Try.prog 160
        [AV.agg [AV.str { data := List.toArray (Prod.fst o) }, AV.sl 2 (Seq.map T.encS ((0 : Int), (0 : Int)) (Prod.fst (Prod.snd o))) Tip.none, AV.bool (Prod.snd (Prod.snd o))],
        AV.agg
        [AV.str { data := List.toArray (Prod.fst (Prod.fst (List.getD l (Int.toNat i) T.noTE))) },
        AV.sl 2 (Seq.map T.encS ((0 : Int), (0 : Int)) (Prod.fst (Prod.snd (Prod.fst (List.getD l (Int.toNat i) T.noTE))))) Tip.none,
        AV.bool (Prod.snd (Prod.snd (Prod.fst (List.getD l (Int.toNat i) T.noTE))))]]
        [AObj.cells [AV.sl 5 (Seq.map T.encTE T.noTE E) (Tip.tok 1), AV.sl 1 (Seq.map encI (0 : Int) L) (Tip.tok 2)], AObj.tok, AObj.tok,
        AObj.cells [AV.str { data := #[] }, AV.sl 0 (Seq.raw []) Tip.nil, AV.bool false],
        AObj.cells [AV.str { data := List.toArray (Prod.fst o) }, AV.sl 2 (Seq.map T.encS ((0 : Int), (0 : Int)) (Prod.fst (Prod.snd o))) Tip.none, AV.bool (Prod.snd (Prod.snd o))],
        AObj.cells
        [AV.str { data := List.toArray (Prod.fst (Prod.fst (List.getD l (Int.toNat i) T.noTE))) },
        AV.sl 2 (Seq.map T.encS ((0 : Int), (0 : Int)) (Prod.fst (Prod.snd (Prod.fst (List.getD l (Int.toNat i) T.noTE))))) Tip.none,
        AV.bool (Prod.snd (Prod.snd (Prod.fst (List.getD l (Int.toNat i) T.noTE)))), AV.int IntKind.i64 (Prod.fst (Prod.snd (List.getD l (Int.toNat i) T.noTE))),
        AV.int IntKind.i64 (Prod.snd (Prod.snd (List.getD l (Int.toNat i) T.noTE)))]]
        fun (r : AV) (H' : List AObj) =>
        ∃ (x : List UInt8 × List T.Span × Bool),
        r = AV.agg [AV.str { data := List.toArray (Prod.fst x) }, AV.sl 2 (Seq.map T.encS ((0 : Int), (0 : Int)) (Prod.fst (Prod.snd x))) Tip.none, AV.bool (Prod.snd (Prod.snd x))] ∧
        H' =
        [AObj.cells [AV.sl 5 (Seq.map T.encTE T.noTE E) (Tip.tok 1), AV.sl 1 (Seq.map encI (0 : Int) L) (Tip.tok 2)], AObj.tok, AObj.tok,
        AObj.cells [AV.str { data := #[] }, AV.sl 0 (Seq.raw []) Tip.nil, AV.bool false],
        AObj.cells
        [AV.str { data := List.toArray (Prod.fst o) }, AV.sl 2 (Seq.map T.encS ((0 : Int), (0 : Int)) (Prod.fst (Prod.snd o))) Tip.none, AV.bool (Prod.snd (Prod.snd o))],
        AObj.cells
        [AV.str { data := List.toArray (Prod.fst (Prod.fst (List.getD l (Int.toNat i) T.noTE))) },
        AV.sl 2 (Seq.map T.encS ((0 : Int), (0 : Int)) (Prod.fst (Prod.snd (Prod.fst (List.getD l (Int.toNat i) T.noTE))))) Tip.none,
        AV.bool (Prod.snd (Prod.snd (Prod.fst (List.getD l (Int.toNat i) T.noTE)))), AV.int IntKind.i64 (Prod.fst (Prod.snd (List.getD l (Int.toNat i) T.noTE))),
        AV.int IntKind.i64 (Prod.snd (Prod.snd (List.getD l (Int.toNat i) T.noTE)))]] ∧
        AWP Try.prog 44 n_1 c86_5
        [(2, AV.str s), (6, AV.ptr 3 0), (7, AV.ptr 4 0), (27, AV.sl 5 (Seq.map T.encTE T.noTE l) Tip.none),
        (28, AV.int IntKind.i64 n), (29, AV.int IntKind.i64 (IntKind.wrap IntKind.i64 (i + (1 : Int))))]
        [AObj.cells [AV.sl 5 (Seq.map T.encTE T.noTE E) (Tip.tok 1), AV.sl 1 (Seq.map encI (0 : Int) L) (Tip.tok 2)], AObj.tok, AObj.tok,
        AObj.cells [AV.str { data := #[] }, AV.sl 0 (Seq.raw []) Tip.nil, AV.bool false],
        AObj.cells
        [AV.str { data := List.toArray (Prod.fst x) }, AV.sl 2 (Seq.map T.encS ((0 : Int), (0 : Int)) (Prod.fst (Prod.snd x))) Tip.none, AV.bool (Prod.snd (Prod.snd x))],
        AObj.cells
        [AV.str { data := List.toArray (Prod.fst (Prod.fst (List.getD l (Int.toNat i) T.noTE))) },
        AV.sl 2 (Seq.map T.encS ((0 : Int), (0 : Int)) (Prod.fst (Prod.snd (Prod.fst (List.getD l (Int.toNat i) T.noTE))))) Tip.none,
        AV.bool (Prod.snd (Prod.snd (Prod.fst (List.getD l (Int.toNat i) T.noTE)))), AV.int IntKind.i64 (Prod.fst (Prod.snd (List.getD l (Int.toNat i) T.noTE))),
        AV.int IntKind.i64 (Prod.snd (Prod.snd (List.getD l (Int.toNat i) T.noTE)))]]
        (q86_2 n_1 Post))
        (AWP Try.prog 44 n_1 c86_5
        [(2, AV.str s), (6, AV.ptr 3 0), (7, AV.ptr 4 0), (27, AV.sl 5 (Seq.map T.encTE T.noTE l) Tip.none),
        (28, AV.int IntKind.i64 n), (29, AV.int IntKind.i64 (IntKind.wrap IntKind.i64 (i + (1 : Int))))]
        [AObj.cells [AV.sl 5 (Seq.map T.encTE T.noTE E) (Tip.tok 1), AV.sl 1 (Seq.map encI (0 : Int) L) (Tip.tok 2)], AObj.tok, AObj.tok,
        AObj.cells [AV.str { data := #[] }, AV.sl 0 (Seq.raw []) Tip.nil, AV.bool false],
        AObj.cells [AV.str { data := List.toArray (Prod.fst o) }, AV.sl 2 (Seq.map T.encS ((0 : Int), (0 : Int)) (Prod.fst (Prod.snd o))) Tip.none, AV.bool (Prod.snd (Prod.snd o))],
        AObj.cells
        [AV.str { data := List.toArray (Prod.fst (Prod.fst (List.getD l (Int.toNat i) T.noTE))) },
        AV.sl 2 (Seq.map T.encS ((0 : Int), (0 : Int)) (Prod.fst (Prod.snd (Prod.fst (List.getD l (Int.toNat i) T.noTE))))) Tip.none,
        AV.bool (Prod.snd (Prod.snd (Prod.fst (List.getD l (Int.toNat i) T.noTE)))), AV.int IntKind.i64 (Prod.fst (Prod.snd (List.getD l (Int.toNat i) T.noTE))),
        AV.int IntKind.i64 (Prod.snd (Prod.snd (List.getD l (Int.toNat i) T.noTE)))]]
        (q86_2 n_1 Post))))
      (Post (AV.agg [AV.str { data := List.toArray (Prod.fst o) }, AV.sl 2 (Seq.map T.encS ((0 : Int), (0 : Int)) (Prod.fst (Prod.snd o))) Tip.none, AV.bool (Prod.snd (Prod.snd o))])
        [AObj.cells [AV.sl 5 (Seq.map T.encTE T.noTE E) (Tip.tok 1), AV.sl 1 (Seq.map encI (0 : Int) L) (Tip.tok 2)], AObj.tok, AObj.tok,
        AObj.cells [AV.str { data := List.toArray (Prod.fst o) }, AV.sl 2 (Seq.map T.encS ((0 : Int), (0 : Int)) (Prod.fst (Prod.snd o))) Tip.none, AV.bool (Prod.snd (Prod.snd o))],
        AObj.cells [AV.str { data := List.toArray (Prod.fst o) }, AV.sl 2 (Seq.map T.encS ((0 : Int), (0 : Int)) (Prod.fst (Prod.snd o))) Tip.none, AV.bool (Prod.snd (Prod.snd o))]]) →
    AWP Try.prog 44 n_1 c86_5
      [(2, AV.str s), (6, AV.ptr 3 0), (7, AV.ptr 4 0), (27, AV.sl 5 (Seq.map T.encTE T.noTE l) Tip.none),
        (28, AV.int IntKind.i64 n), (29, AV.int IntKind.i64 i)]
      (T.HT E L ++ [AObj.cells [AV.str { data := #[] }, AV.sl 0 (Seq.raw []) Tip.nil, AV.bool false], AObj.cells (T.encT o)]) (q86_2 n_1 Post) := fun E L s o l n i n Post h => Go.Ab.AWP.loop' g86 (Cfg.live g86) c86_5 (by kernel_rfl) (by kernel_rfl) (Go.Ab.kc (by kernel_rfl) h)

-- 29
noncomputable def l29 : Nat → List Nat
  | _ => []
noncomputable def u29 : Nat → Bool
  | _ => false
noncomputable def m29 : Nat → Bool
  | _ => false
noncomputable def g29 : Cfg := { N := 10, live := l29, cut := u29, mu := m29, ret := rets }
theorem s29 : ∀ (E : List T.TE) (L : List Int) (s : ByteArray) (Post : AV → List AObj → Prop),
  (ASpec Try.prog 80 [AV.ptr 0 0]
      [AObj.cells [AV.sl 5 (Seq.map T.encTE T.noTE E) (Tip.tok 1), AV.sl 1 (Seq.map encI (0 : Int) L) (Tip.tok 2)], AObj.tok, AObj.tok,
        AObj.cells [AV.str { data := #[] }, AV.sl 0 (Seq.raw []) Tip.nil, AV.bool false]]
      fun (r : AV) (H' : List AObj) =>
      ∃ (x : Int),
        r = AV.int IntKind.i64 x ∧
        H' =
        [AObj.cells [AV.sl 5 (Seq.map T.encTE T.noTE E) (Tip.tok 1), AV.sl 1 (Seq.map encI (0 : Int) L) (Tip.tok 2)], AObj.tok, AObj.tok,
        AObj.cells [AV.str { data := #[] }, AV.sl 0 (Seq.raw []) Tip.nil, AV.bool false]] ∧
        ASpec Try.prog 86 [AV.ptr 0 0, AV.int IntKind.i64 x, AV.str s]
        [AObj.cells [AV.sl 5 (Seq.map T.encTE T.noTE E) (Tip.tok 1), AV.sl 1 (Seq.map encI (0 : Int) L) (Tip.tok 2)], AObj.tok, AObj.tok,
        AObj.cells [AV.str { data := #[] }, AV.sl 0 (Seq.raw []) Tip.nil, AV.bool false]]
        fun (r : AV) (H' : List AObj) =>
        ∃ (x : List UInt8 × List T.Span × Bool),
        r = AV.agg [AV.str { data := List.toArray (Prod.fst x) }, AV.sl 2 (Seq.map T.encS ((0 : Int), (0 : Int)) (Prod.fst (Prod.snd x))) Tip.none, AV.bool (Prod.snd (Prod.snd x))] ∧
        H' =
        [AObj.cells [AV.sl 5 (Seq.map T.encTE T.noTE E) (Tip.tok 1), AV.sl 1 (Seq.map encI (0 : Int) L) (Tip.tok 2)], AObj.tok, AObj.tok,
        AObj.cells [AV.str { data := #[] }, AV.sl 0 (Seq.raw []) Tip.nil, AV.bool false]] ∧
        Post
        (AV.agg [AV.str { data := List.toArray (Prod.fst x) }, AV.sl 2 (Seq.map T.encS ((0 : Int), (0 : Int)) (Prod.fst (Prod.snd x))) Tip.none, AV.bool (Prod.snd (Prod.snd x))])
        [AObj.cells [AV.sl 5 (Seq.map T.encTE T.noTE E) (Tip.tok 1), AV.sl 1 (Seq.map encI (0 : Int) L) (Tip.tok 2)], AObj.tok, AObj.tok,
        AObj.cells
        [AV.str { data := List.toArray (Prod.fst x) }, AV.sl 2 (Seq.map T.encS ((0 : Int), (0 : Int)) (Prod.fst (Prod.snd x))) Tip.none, AV.bool (Prod.snd (Prod.snd x))]]) →
    ASpec Try.prog 29 [AV.ptr 0 0, AV.str s] (T.HT E L) Post := fun E L s Post h => Go.Ab.ASpec.of_vc g29 Go.Proofs.Try.func29 (by kernel_rfl) (by kernel_rfl) (by kernel_rfl) (Go.Ab.kc (by kernel_rfl) h)

-- 156
noncomputable def l156 : Nat → List Nat
  | _ => []
noncomputable def u156 : Nat → Bool
  | _ => false
noncomputable def m156 : Nat → Bool
  | _ => false
noncomputable def g156 : Cfg := { N := 24, live := l156, cut := u156, mu := m156, ret := rets }
theorem s156 : ∀ (E : List T.TE) (L : List Int) (t : T.Term) (c : Int) (Post : AV → List AObj → Prop),
  (ASpec Try.prog 255 [AV.sl 2 (Seq.map T.encS ((0 : Int), (0 : Int)) (Prod.fst (Prod.snd t))) Tip.none]
      [AObj.cells [AV.sl 5 (Seq.map T.encTE T.noTE E) (Tip.tok 1), AV.sl 1 (Seq.map encI (0 : Int) L) (Tip.tok 2)], AObj.tok, AObj.tok,
        AObj.cells [AV.str { data := List.toArray (Prod.fst t) }, AV.sl 2 (Seq.map T.encS ((0 : Int), (0 : Int)) (Prod.fst (Prod.snd t))) Tip.none, AV.bool (Prod.snd (Prod.snd t))]]
      fun (r : AV) (H' : List AObj) =>
      ∃ (x : List T.Span),
        r = AV.sl 2 (Seq.map T.encS ((0 : Int), (0 : Int)) x) Tip.none ∧
        H' =
        [AObj.cells [AV.sl 5 (Seq.map T.encTE T.noTE E) (Tip.tok 1), AV.sl 1 (Seq.map encI (0 : Int) L) (Tip.tok 2)], AObj.tok, AObj.tok,
        AObj.cells [AV.str { data := List.toArray (Prod.fst t) }, AV.sl 2 (Seq.map T.encS ((0 : Int), (0 : Int)) (Prod.fst (Prod.snd t))) Tip.none, AV.bool (Prod.snd (Prod.snd t))]] ∧
        ASpec Try.prog 30 [AV.ptr 0 0]
        [AObj.cells [AV.sl 5 (Seq.map T.encTE T.noTE E) (Tip.tok 1), AV.sl 1 (Seq.map encI (0 : Int) L) (Tip.tok 2)], AObj.tok, AObj.tok,
        AObj.cells [AV.str { data := List.toArray (Prod.fst t) }, AV.sl 2 (Seq.map T.encS ((0 : Int), (0 : Int)) x) Tip.none, AV.bool (Prod.snd (Prod.snd t))]]
        fun (r : AV) (H' : List AObj) =>
        ∃ (x_1 : Int),
        r = AV.int IntKind.i64 x_1 ∧
        H' =
        [AObj.cells [AV.sl 5 (Seq.map T.encTE T.noTE E) (Tip.tok 1), AV.sl 1 (Seq.map encI (0 : Int) L) (Tip.tok 2)], AObj.tok, AObj.tok,
        AObj.cells [AV.str { data := List.toArray (Prod.fst t) }, AV.sl 2 (Seq.map T.encS ((0 : Int), (0 : Int)) x) Tip.none, AV.bool (Prod.snd (Prod.snd t))]] ∧
        (AV.agg [AV.str { data := List.toArray (Prod.fst t) }, AV.sl 2 (Seq.map T.encS ((0 : Int), (0 : Int)) x) Tip.none, AV.bool (Prod.snd (Prod.snd t))] =
        AV.agg [AV.str { data := List.toArray (Prod.fst t) }, AV.sl 2 (Seq.map T.encS ((0 : Int), (0 : Int)) x) Tip.none, AV.bool (Prod.snd (Prod.snd t))] ∧
        [AObj.cells [AV.sl 5 (Seq.map T.encTE T.noTE E) (Tip.tok 1), AV.sl 1 (Seq.map encI (0 : Int) L) (Tip.tok 2)], AObj.tok, AObj.tok,
        AObj.cells [AV.str { data := List.toArray (Prod.fst t) }, AV.sl 2 (Seq.map T.encS ((0 : Int), (0 : Int)) x) Tip.none, AV.bool (Prod.snd (Prod.snd t))]] =
        [AObj.cells [AV.sl 5 (Seq.map T.encTE T.noTE E) (Tip.tok 1), AV.sl 1 (Seq.map encI (0 : Int) L) (Tip.tok 2)], AObj.tok, AObj.tok,
        AObj.cells [AV.str { data := List.toArray (Prod.fst t) }, AV.sl 2 (Seq.map T.encS ((0 : Int), (0 : Int)) x) Tip.none, AV.bool (Prod.snd (Prod.snd t))]]) ∧
        (AV.sl 5 (Seq.map T.encTE T.noTE E) (Tip.tok 1) = AV.sl 5 (Seq.map T.encTE T.noTE E) (Tip.tok 1) ∧
        [AObj.cells [AV.sl 5 (Seq.map T.encTE T.noTE E) (Tip.tok 1), AV.sl 1 (Seq.map encI (0 : Int) L) (Tip.tok 2)], AObj.tok, AObj.tok,
        AObj.cells [AV.str { data := List.toArray (Prod.fst t) }, AV.sl 2 (Seq.map T.encS ((0 : Int), (0 : Int)) x) Tip.none, AV.bool (Prod.snd (Prod.snd t))]] =
        [AObj.cells [AV.sl 5 (Seq.map T.encTE T.noTE E) (Tip.tok 1), AV.sl 1 (Seq.map encI (0 : Int) L) (Tip.tok 2)], AObj.tok, AObj.tok,
        AObj.cells [AV.str { data := List.toArray (Prod.fst t) }, AV.sl 2 (Seq.map T.encS ((0 : Int), (0 : Int)) x) Tip.none, AV.bool (Prod.snd (Prod.snd t))]]) ∧
        needP ((List.length E + 1) * 64 ≤ 140737488351232)
        (Post (AV.tup [])
        [AObj.cells
        [AV.sl 5
        (Seq.app (Seq.map T.encTE T.noTE E)
        (Seq.raw
        [[AV.str { data := List.toArray (Prod.fst t) }, AV.sl 2 (Seq.map T.encS ((0 : Int), (0 : Int)) x) Tip.none, AV.bool (Prod.snd (Prod.snd t)),
        AV.int IntKind.i64 x_1, AV.int IntKind.i64 c]]))
        (Tip.tok 4),
        AV.sl 1 (Seq.map encI (0 : Int) L) (Tip.tok 2)],
        AObj.gone, AObj.tok,
        AObj.cells [AV.str { data := List.toArray (Prod.fst t) }, AV.sl 2 (Seq.map T.encS ((0 : Int), (0 : Int)) x) Tip.none, AV.bool (Prod.snd (Prod.snd t))],
        AObj.tok])) →
    ASpec Try.prog 156 [AV.ptr 0 0, AV.agg (T.encT t), AV.int IntKind.i64 c] (T.HT E L) Post := fun E L t c Post h => Go.Ab.ASpec.of_vc g156 Go.Proofs.Try.func156 (by kernel_rfl) (by kernel_rfl) (by kernel_rfl) (Go.Ab.kc (by kernel_rfl) h)

-- 31
noncomputable def l31 : Nat → List Nat
  | _ => []
noncomputable def u31 : Nat → Bool
  | _ => false
noncomputable def m31 : Nat → Bool
  | _ => false
noncomputable def g31 : Cfg := { N := 50, live := l31, cut := u31, mu := m31, ret := rets }
theorem s31 : ∀ (E : List T.TE) (L : List Int) (s : ByteArray) (v : Int) (Post : AV → List AObj → Prop),
  (ASpec Try.prog 154 [AV.str s]
      [AObj.cells [AV.sl 5 (Seq.map T.encTE T.noTE E) (Tip.tok 1), AV.sl 1 (Seq.map encI (0 : Int) L) (Tip.tok 2)], AObj.tok, AObj.tok] fun (r : AV) (H' : List AObj) =>
      ∃ (x : Bool),
        r = AV.bool x ∧
        H' = [AObj.cells [AV.sl 5 (Seq.map T.encTE T.noTE E) (Tip.tok 1), AV.sl 1 (Seq.map encI (0 : Int) L) (Tip.tok 2)], AObj.tok, AObj.tok] ∧
        condP (!x)
        (Post (AV.int IntKind.i64 (1 : Int))
        [AObj.cells [AV.sl 5 (Seq.map T.encTE T.noTE E) (Tip.tok 1), AV.sl 1 (Seq.map encI (0 : Int) L) (Tip.tok 2)], AObj.tok, AObj.tok])
        (condP (decide (v < (0 : Int)))
        (Post (AV.int IntKind.i64 (1 : Int))
        [AObj.cells [AV.sl 5 (Seq.map T.encTE T.noTE E) (Tip.tok 1), AV.sl 1 (Seq.map encI (0 : Int) L) (Tip.tok 2)], AObj.tok, AObj.tok])
        (condP (decide (v ≥ (1000000000 : Int)))
        (Post (AV.int IntKind.i64 (1 : Int))
        [AObj.cells [AV.sl 5 (Seq.map T.encTE T.noTE E) (Tip.tok 1), AV.sl 1 (Seq.map encI (0 : Int) L) (Tip.tok 2)], AObj.tok, AObj.tok])
        (ASpec Try.prog 29 [AV.ptr 0 0, AV.str s]
        [AObj.cells [AV.sl 5 (Seq.map T.encTE T.noTE E) (Tip.tok 1), AV.sl 1 (Seq.map encI (0 : Int) L) (Tip.tok 2)], AObj.tok, AObj.tok]
        fun (r : AV) (H' : List AObj) =>
        ∃ (x : List UInt8 × List T.Span × Bool),
        r =
        AV.agg
        [AV.str { data := List.toArray (Prod.fst x) }, AV.sl 2 (Seq.map T.encS ((0 : Int), (0 : Int)) (Prod.fst (Prod.snd x))) Tip.none, AV.bool (Prod.snd (Prod.snd x))] ∧
        H' = [AObj.cells [AV.sl 5 (Seq.map T.encTE T.noTE E) (Tip.tok 1), AV.sl 1 (Seq.map encI (0 : Int) L) (Tip.tok 2)], AObj.tok, AObj.tok] ∧
        ASpec Try.prog 155
        [AV.agg
        [AV.str { data := List.toArray (Prod.fst x) }, AV.sl 2 (Seq.map T.encS ((0 : Int), (0 : Int)) (Prod.fst (Prod.snd x))) Tip.none,
        AV.bool (Prod.snd (Prod.snd x))],
        AV.int IntKind.i64 v, AV.bool true]
        [AObj.cells [AV.sl 5 (Seq.map T.encTE T.noTE E) (Tip.tok 1), AV.sl 1 (Seq.map encI (0 : Int) L) (Tip.tok 2)], AObj.tok, AObj.tok]
        fun (r : AV) (H' : List AObj) =>
        ∃ (x : Bool),
        r = AV.bool x ∧
        H' = [AObj.cells [AV.sl 5 (Seq.map T.encTE T.noTE E) (Tip.tok 1), AV.sl 1 (Seq.map encI (0 : Int) L) (Tip.tok 2)], AObj.tok, AObj.tok] ∧
        condP (!x)
        (Post (AV.int IntKind.i64 (5 : Int))
        [AObj.cells [AV.sl 5 (Seq.map T.encTE T.noTE E) (Tip.tok 1), AV.sl 1 (Seq.map encI (0 : Int) L) (Tip.tok 2)], AObj.tok, AObj.tok])
        (needP ((List.length L + 1) * 8 ≤ 140737488351232)
        (ASpec Try.prog 157 [AV.int IntKind.i64 v]
        [AObj.cells
        [AV.sl 5 (Seq.map T.encTE T.noTE E) (Tip.tok 1),
        AV.sl 1 (Seq.app (Seq.map encI (0 : Int) L) (Seq.raw [[AV.int IntKind.i64 (↑(List.length E) : Int)]])) (Tip.tok 3)],
        AObj.tok, AObj.gone, AObj.tok]
        fun (r : AV) (H' : List AObj) =>
        ∃ (x : List T.Span),
        r = AV.sl 2 (Seq.map T.encS ((0 : Int), (0 : Int)) x) Tip.none ∧
        H' =
        [AObj.cells
        [AV.sl 5 (Seq.map T.encTE T.noTE E) (Tip.tok 1),
        AV.sl 1 (Seq.app (Seq.map encI (0 : Int) L) (Seq.raw [[AV.int IntKind.i64 (↑(List.length E) : Int)]])) (Tip.tok 3)],
        AObj.tok, AObj.gone, AObj.tok] ∧
        ASpec Try.prog 156
        [AV.ptr 0 0, AV.agg [AV.str s, AV.sl 2 (Seq.map T.encS ((0 : Int), (0 : Int)) x) Tip.none, AV.bool false],
        AV.int IntKind.i64 (-1 : Int)]
        [AObj.cells
        [AV.sl 5 (Seq.map T.encTE T.noTE E) (Tip.tok 1),
        AV.sl 1 (Seq.app (Seq.map encI (0 : Int) L) (Seq.raw [[AV.int IntKind.i64 (↑(List.length E) : Int)]])) (Tip.tok 3)],
        AObj.tok, AObj.gone, AObj.tok]
        fun (r : AV) (H' : List AObj) =>
        ∃ (x : List T.TE × List Int),
        r = AV.tup [] ∧
        H' =
        [AObj.cells
        [AV.sl 5 (Seq.map T.encTE T.noTE (Prod.fst x)) (Tip.tok 4),
        AV.sl 1 (Seq.map encI (0 : Int) (Prod.snd x)) (Tip.tok 5)],
        AObj.gone, AObj.gone, AObj.gone, AObj.tok, AObj.tok] ∧
        Post (AV.int IntKind.i64 (0 : Int))
        [AObj.cells
        [AV.sl 5 (Seq.map T.encTE T.noTE (Prod.fst x)) (Tip.tok 4),
        AV.sl 1 (Seq.map encI (0 : Int) (Prod.snd x)) (Tip.tok 5)],
        AObj.gone, AObj.gone, AObj.gone, AObj.tok, AObj.tok])))))) →
    ASpec Try.prog 31 [AV.ptr 0 0, AV.str s, AV.int IntKind.i64 v] (T.HT E L) Post := fun E L s v Post h => Go.Ab.ASpec.of_vc g31 Go.Proofs.Try.func31 (by kernel_rfl) (by kernel_rfl) (by kernel_rfl) (Go.Ab.kc (by kernel_rfl) h)

-- 32
noncomputable def l32 : Nat → List Nat
  | _ => []
noncomputable def u32 : Nat → Bool
  | _ => false
noncomputable def m32 : Nat → Bool
  | _ => false
noncomputable def g32 : Cfg := { N := 36, live := l32, cut := u32, mu := m32, ret := rets }
theorem s32 : ∀ (E : List T.TE) (L : List Int) (t : T.Term) (c : Int) (Post : AV → List AObj → Prop),
  (ASpec Try.prog 158
      [AV.agg [AV.str { data := List.toArray (Prod.fst t) }, AV.sl 2 (Seq.map T.encS ((0 : Int), (0 : Int)) (Prod.fst (Prod.snd t))) Tip.none, AV.bool (Prod.snd (Prod.snd t))]]
      [AObj.cells [AV.sl 5 (Seq.map T.encTE T.noTE E) (Tip.tok 1), AV.sl 1 (Seq.map encI (0 : Int) L) (Tip.tok 2)], AObj.tok, AObj.tok,
        AObj.cells [AV.str { data := List.toArray (Prod.fst t) }, AV.sl 2 (Seq.map T.encS ((0 : Int), (0 : Int)) (Prod.fst (Prod.snd t))) Tip.none, AV.bool (Prod.snd (Prod.snd t))]]
      fun (r : AV) (H' : List AObj) =>
      ∃ (x : Bool),
        r = AV.bool x ∧
        H' =
        [AObj.cells [AV.sl 5 (Seq.map T.encTE T.noTE E) (Tip.tok 1), AV.sl 1 (Seq.map encI (0 : Int) L) (Tip.tok 2)], AObj.tok, AObj.tok,
        AObj.cells [AV.str { data := List.toArray (Prod.fst t) }, AV.sl 2 (Seq.map T.encS ((0 : Int), (0 : Int)) (Prod.fst (Prod.snd t))) Tip.none, AV.bool (Prod.snd (Prod.snd t))]] ∧
        condP (!x)
        (Post (AV.int IntKind.i64 (1 : Int))
        [AObj.cells [AV.sl 5 (Seq.map T.encTE T.noTE E) (Tip.tok 1), AV.sl 1 (Seq.map encI (0 : Int) L) (Tip.tok 2)], AObj.tok, AObj.tok,
        AObj.cells [AV.str { data := List.toArray (Prod.fst t) }, AV.sl 2 (Seq.map T.encS ((0 : Int), (0 : Int)) (Prod.fst (Prod.snd t))) Tip.none, AV.bool (Prod.snd (Prod.snd t))]])
        (condP (decide (c < (0 : Int)))
        (Post (AV.int IntKind.i64 (1 : Int))
        [AObj.cells [AV.sl 5 (Seq.map T.encTE T.noTE E) (Tip.tok 1), AV.sl 1 (Seq.map encI (0 : Int) L) (Tip.tok 2)], AObj.tok, AObj.tok,
        AObj.cells
        [AV.str { data := List.toArray (Prod.fst t) }, AV.sl 2 (Seq.map T.encS ((0 : Int), (0 : Int)) (Prod.fst (Prod.snd t))) Tip.none, AV.bool (Prod.snd (Prod.snd t))]])
        (ASpec Try.prog 29 [AV.ptr 0 0, AV.str { data := List.toArray (Prod.fst t) }]
        [AObj.cells [AV.sl 5 (Seq.map T.encTE T.noTE E) (Tip.tok 1), AV.sl 1 (Seq.map encI (0 : Int) L) (Tip.tok 2)], AObj.tok, AObj.tok,
        AObj.cells
        [AV.str { data := List.toArray (Prod.fst t) }, AV.sl 2 (Seq.map T.encS ((0 : Int), (0 : Int)) (Prod.fst (Prod.snd t))) Tip.none, AV.bool (Prod.snd (Prod.snd t))]]
        fun (r : AV) (H' : List AObj) =>
        ∃ (x : List UInt8 × List T.Span × Bool),
        r =
        AV.agg
        [AV.str { data := List.toArray (Prod.fst x) }, AV.sl 2 (Seq.map T.encS ((0 : Int), (0 : Int)) (Prod.fst (Prod.snd x))) Tip.none, AV.bool (Prod.snd (Prod.snd x))] ∧
        H' =
        [AObj.cells [AV.sl 5 (Seq.map T.encTE T.noTE E) (Tip.tok 1), AV.sl 1 (Seq.map encI (0 : Int) L) (Tip.tok 2)], AObj.tok, AObj.tok,
        AObj.cells
        [AV.str { data := List.toArray (Prod.fst t) }, AV.sl 2 (Seq.map T.encS ((0 : Int), (0 : Int)) (Prod.fst (Prod.snd t))) Tip.none,
        AV.bool (Prod.snd (Prod.snd t))]] ∧
        ASpec Try.prog 160
        [AV.agg
        [AV.str { data := List.toArray (Prod.fst x) }, AV.sl 2 (Seq.map T.encS ((0 : Int), (0 : Int)) (Prod.fst (Prod.snd x))) Tip.none, AV.bool (Prod.snd (Prod.snd x))],
        AV.agg
        [AV.str { data := List.toArray (Prod.fst t) }, AV.sl 2 (Seq.map T.encS ((0 : Int), (0 : Int)) (Prod.fst (Prod.snd t))) Tip.none, AV.bool (Prod.snd (Prod.snd t))]]
        [AObj.cells [AV.sl 5 (Seq.map T.encTE T.noTE E) (Tip.tok 1), AV.sl 1 (Seq.map encI (0 : Int) L) (Tip.tok 2)], AObj.tok, AObj.tok,
        AObj.cells
        [AV.str { data := List.toArray (Prod.fst t) }, AV.sl 2 (Seq.map T.encS ((0 : Int), (0 : Int)) (Prod.fst (Prod.snd t))) Tip.none, AV.bool (Prod.snd (Prod.snd t))],
        AObj.cells
        [AV.str { data := List.toArray (Prod.fst x) }, AV.sl 2 (Seq.map T.encS ((0 : Int), (0 : Int)) (Prod.fst (Prod.snd x))) Tip.none, AV.bool (Prod.snd (Prod.snd x))]]
        fun (r : AV) (H' : List AObj) =>
        ∃ (x_1 : List UInt8 × List T.Span × Bool),
        r =
        AV.agg
        [AV.str { data := List.toArray (Prod.fst x_1) }, AV.sl 2 (Seq.map T.encS ((0 : Int), (0 : Int)) (Prod.fst (Prod.snd x_1))) Tip.none,
        AV.bool (Prod.snd (Prod.snd x_1))] ∧
        H' =
        [AObj.cells [AV.sl 5 (Seq.map T.encTE T.noTE E) (Tip.tok 1), AV.sl 1 (Seq.map encI (0 : Int) L) (Tip.tok 2)], AObj.tok, AObj.tok,
        AObj.cells
        [AV.str { data := List.toArray (Prod.fst t) }, AV.sl 2 (Seq.map T.encS ((0 : Int), (0 : Int)) (Prod.fst (Prod.snd t))) Tip.none,
        AV.bool (Prod.snd (Prod.snd t))],
        AObj.cells
        [AV.str { data := List.toArray (Prod.fst x) }, AV.sl 2 (Seq.map T.encS ((0 : Int), (0 : Int)) (Prod.fst (Prod.snd x))) Tip.none,
        AV.bool (Prod.snd (Prod.snd x))]] ∧
        ASpec Try.prog 159
        [AV.agg
        [AV.str { data := List.toArray (Prod.fst x_1) }, AV.sl 2 (Seq.map T.encS ((0 : Int), (0 : Int)) (Prod.fst (Prod.snd x_1))) Tip.none,
        AV.bool (Prod.snd (Prod.snd x_1))]]
        [AObj.cells [AV.sl 5 (Seq.map T.encTE T.noTE E) (Tip.tok 1), AV.sl 1 (Seq.map encI (0 : Int) L) (Tip.tok 2)], AObj.tok, AObj.tok,
        AObj.cells
        [AV.str { data := List.toArray (Prod.fst t) }, AV.sl 2 (Seq.map T.encS ((0 : Int), (0 : Int)) (Prod.fst (Prod.snd t))) Tip.none,
        AV.bool (Prod.snd (Prod.snd t))],
        AObj.cells
        [AV.str { data := List.toArray (Prod.fst x) }, AV.sl 2 (Seq.map T.encS ((0 : Int), (0 : Int)) (Prod.fst (Prod.snd x))) Tip.none,
        AV.bool (Prod.snd (Prod.snd x))]]
        fun (r : AV) (H' : List AObj) =>
        ∃ (x_2 : Bool),
        r = AV.bool x_2 ∧
        H' =
        [AObj.cells [AV.sl 5 (Seq.map T.encTE T.noTE E) (Tip.tok 1), AV.sl 1 (Seq.map encI (0 : Int) L) (Tip.tok 2)], AObj.tok,
        AObj.tok,
        AObj.cells
        [AV.str { data := List.toArray (Prod.fst t) }, AV.sl 2 (Seq.map T.encS ((0 : Int), (0 : Int)) (Prod.fst (Prod.snd t))) Tip.none,
        AV.bool (Prod.snd (Prod.snd t))],
        AObj.cells
        [AV.str { data := List.toArray (Prod.fst x) }, AV.sl 2 (Seq.map T.encS ((0 : Int), (0 : Int)) (Prod.fst (Prod.snd x))) Tip.none,
        AV.bool (Prod.snd (Prod.snd x))]] ∧
        condP x_2
        (Post (AV.int IntKind.i64 (5 : Int))
        [AObj.cells [AV.sl 5 (Seq.map T.encTE T.noTE E) (Tip.tok 1), AV.sl 1 (Seq.map encI (0 : Int) L) (Tip.tok 2)], AObj.tok,
        AObj.tok,
        AObj.cells
        [AV.str { data := List.toArray (Prod.fst t) }, AV.sl 2 (Seq.map T.encS ((0 : Int), (0 : Int)) (Prod.fst (Prod.snd t))) Tip.none,
        AV.bool (Prod.snd (Prod.snd t))],
        AObj.cells
        [AV.str { data := List.toArray (Prod.fst x) }, AV.sl 2 (Seq.map T.encS ((0 : Int), (0 : Int)) (Prod.fst (Prod.snd x))) Tip.none,
        AV.bool (Prod.snd (Prod.snd x))]])
        (ASpec Try.prog 161
        [AV.agg
        [AV.str { data := List.toArray (Prod.fst x) }, AV.sl 2 (Seq.map T.encS ((0 : Int), (0 : Int)) (Prod.fst (Prod.snd x))) Tip.none,
        AV.bool (Prod.snd (Prod.snd x))],
        AV.agg
        [AV.str { data := List.toArray (Prod.fst t) }, AV.sl 2 (Seq.map T.encS ((0 : Int), (0 : Int)) (Prod.fst (Prod.snd t))) Tip.none,
        AV.bool (Prod.snd (Prod.snd t))]]
        [AObj.cells [AV.sl 5 (Seq.map T.encTE T.noTE E) (Tip.tok 1), AV.sl 1 (Seq.map encI (0 : Int) L) (Tip.tok 2)], AObj.tok,
        AObj.tok,
        AObj.cells
        [AV.str { data := List.toArray (Prod.fst t) }, AV.sl 2 (Seq.map T.encS ((0 : Int), (0 : Int)) (Prod.fst (Prod.snd t))) Tip.none,
        AV.bool (Prod.snd (Prod.snd t))],
        AObj.cells
        [AV.str { data := List.toArray (Prod.fst x) }, AV.sl 2 (Seq.map T.encS ((0 : Int), (0 : Int)) (Prod.fst (Prod.snd x))) Tip.none,
        AV.bool (Prod.snd (Prod.snd x))]]
        fun (r : AV) (H' : List AObj) =>
        ∃ (x_3 : Bool),
        r = AV.bool x_3 ∧
        H' =
        [AObj.cells [AV.sl 5 (Seq.map T.encTE T.noTE E) (Tip.tok 1), AV.sl 1 (Seq.map encI (0 : Int) L) (Tip.tok 2)],
        AObj.tok, AObj.tok,
        AObj.cells
        [AV.str { data := List.toArray (Prod.fst t) }, AV.sl 2 (Seq.map T.encS ((0 : Int), (0 : Int)) (Prod.fst (Prod.snd t))) Tip.none,
        AV.bool (Prod.snd (Prod.snd t))],
        AObj.cells
        [AV.str { data := List.toArray (Prod.fst x) }, AV.sl 2 (Seq.map T.encS ((0 : Int), (0 : Int)) (Prod.fst (Prod.snd x))) Tip.none,
        AV.bool (Prod.snd (Prod.snd x))]] ∧
        condP x_3
        (Post (AV.int IntKind.i64 (6 : Int))
        [AObj.cells [AV.sl 5 (Seq.map T.encTE T.noTE E) (Tip.tok 1), AV.sl 1 (Seq.map encI (0 : Int) L) (Tip.tok 2)],
        AObj.tok, AObj.tok,
        AObj.cells
        [AV.str { data := List.toArray (Prod.fst t) }, AV.sl 2 (Seq.map T.encS ((0 : Int), (0 : Int)) (Prod.fst (Prod.snd t))) Tip.none,
        AV.bool (Prod.snd (Prod.snd t))],
        AObj.cells
        [AV.str { data := List.toArray (Prod.fst x) }, AV.sl 2 (Seq.map T.encS ((0 : Int), (0 : Int)) (Prod.fst (Prod.snd x))) Tip.none,
        AV.bool (Prod.snd (Prod.snd x))]])
        (ASpec Try.prog 156
        [AV.ptr 0 0,
        AV.agg
        [AV.str { data := List.toArray (Prod.fst t) }, AV.sl 2 (Seq.map T.encS ((0 : Int), (0 : Int)) (Prod.fst (Prod.snd t))) Tip.none,
        AV.bool (Prod.snd (Prod.snd t))],
        AV.int IntKind.i64 c]
        [AObj.cells [AV.sl 5 (Seq.map T.encTE T.noTE E) (Tip.tok 1), AV.sl 1 (Seq.map encI (0 : Int) L) (Tip.tok 2)],
        AObj.tok, AObj.tok,
        AObj.cells
        [AV.str { data := List.toArray (Prod.fst t) }, AV.sl 2 (Seq.map T.encS ((0 : Int), (0 : Int)) (Prod.fst (Prod.snd t))) Tip.none,
        AV.bool (Prod.snd (Prod.snd t))],
        AObj.cells
        [AV.str { data := List.toArray (Prod.fst x) }, AV.sl 2 (Seq.map T.encS ((0 : Int), (0 : Int)) (Prod.fst (Prod.snd x))) Tip.none,
        AV.bool (Prod.snd (Prod.snd x))]]
        fun (r : AV) (H' : List AObj) =>
        ∃ (x_4 : List T.TE × List Int),
        r = AV.tup [] ∧
        H' =
        [AObj.cells
        [AV.sl 5 (Seq.map T.encTE T.noTE (Prod.fst x_4)) (Tip.tok 5),
        AV.sl 1 (Seq.map encI (0 : Int) (Prod.snd x_4)) (Tip.tok 6)],
        AObj.gone, AObj.gone,
        AObj.cells
        [AV.str { data := List.toArray (Prod.fst t) },
        AV.sl 2 (Seq.map T.encS ((0 : Int), (0 : Int)) (Prod.fst (Prod.snd t))) Tip.none, AV.bool (Prod.snd (Prod.snd t))],
        AObj.cells
        [AV.str { data := List.toArray (Prod.fst x) },
        AV.sl 2 (Seq.map T.encS ((0 : Int), (0 : Int)) (Prod.fst (Prod.snd x))) Tip.none, AV.bool (Prod.snd (Prod.snd x))],
        AObj.tok, AObj.tok] ∧
        Post (AV.int IntKind.i64 (0 : Int))
        [AObj.cells
        [AV.sl 5 (Seq.map T.encTE T.noTE (Prod.fst x_4)) (Tip.tok 5),
        AV.sl 1 (Seq.map encI (0 : Int) (Prod.snd x_4)) (Tip.tok 6)],
        AObj.gone, AObj.gone,
        AObj.cells
        [AV.str { data := List.toArray (Prod.fst t) },
        AV.sl 2 (Seq.map T.encS ((0 : Int), (0 : Int)) (Prod.fst (Prod.snd t))) Tip.none, AV.bool (Prod.snd (Prod.snd t))],
        AObj.cells
        [AV.str { data := List.toArray (Prod.fst x) },
        AV.sl 2 (Seq.map T.encS ((0 : Int), (0 : Int)) (Prod.fst (Prod.snd x))) Tip.none, AV.bool (Prod.snd (Prod.snd x))],
        AObj.tok, AObj.tok]))))) →
    ASpec Try.prog 32 [AV.ptr 0 0, AV.agg (T.encT t), AV.int IntKind.i64 c] (T.HT E L) Post := fun E L t c Post h => Go.Ab.ASpec.of_vc g32 Go.Proofs.Try.func32 (by kernel_rfl) (by kernel_rfl) (by kernel_rfl) (Go.Ab.kc (by kernel_rfl) h)

-- 35
noncomputable def l35 : Nat → List Nat
  | _ => []
noncomputable def u35 : Nat → Bool
  | _ => false
noncomputable def m35 : Nat → Bool
  | _ => false
noncomputable def g35 : Cfg := { N := 38, live := l35, cut := u35, mu := m35, ret := rets }
theorem s35 : ∀ (E : List T.TE) (L : List Int) (n : Int) (Post : AV → List AObj → Prop),
  (ASpec Try.prog 30 [AV.ptr 0 0]
      [AObj.cells [AV.sl 5 (Seq.map T.encTE T.noTE E) (Tip.tok 1), AV.sl 1 (Seq.map encI (0 : Int) L) (Tip.tok 2)], AObj.tok, AObj.tok] fun (r : AV) (H' : List AObj) =>
      ∃ (x : Int),
        r = AV.int IntKind.i64 x ∧
        H' = [AObj.cells [AV.sl 5 (Seq.map T.encTE T.noTE E) (Tip.tok 1), AV.sl 1 (Seq.map encI (0 : Int) L) (Tip.tok 2)], AObj.tok, AObj.tok] ∧
        condP (decide ((if (0 : Int) > n then (0 : Int) else n) ≥ x))
        (Post (AV.tup []) [AObj.cells [AV.sl 5 (Seq.map T.encTE T.noTE E) (Tip.tok 1), AV.sl 1 (Seq.map encI (0 : Int) L) (Tip.tok 2)], AObj.tok, AObj.tok])
        (needP (((0 : Int) ≤ if (0 : Int) > n then (0 : Int) else n) ∧ (if (0 : Int) > n then (0 : Int) else n) < (↑(List.length L) : Int))
        (needP
        ((0 : Int) ≤ List.getD L (Int.toNat (if (0 : Int) > n then (0 : Int) else n)) (0 : Int) ∧
        List.getD L (Int.toNat (if (0 : Int) > n then (0 : Int) else n)) (0 : Int) ≤ (↑(List.length E) : Int) ∧
        List.getD L (Int.toNat (if (0 : Int) > n then (0 : Int) else n)) (0 : Int) = List.getD L (Int.toNat (if (0 : Int) > n then (0 : Int) else n)) (0 : Int))
        (needP
        (((0 : Int) ≤ if (0 : Int) > n then (0 : Int) else n) ∧
        (if (0 : Int) > n then (0 : Int) else n) ≤ (↑(List.length L) : Int) ∧ (if (0 : Int) > n then (0 : Int) else n) = if (0 : Int) > n then (0 : Int) else n)
        (Post (AV.tup [])
        [AObj.cells
        [AV.sl 5 (Seq.map T.encTE T.noTE (List.drop 0 (List.take (Int.toNat (List.getD L (Int.toNat (if (0 : Int) > n then (0 : Int) else n)) (0 : Int))) E)))
        Tip.full,
        AV.sl 1 (Seq.map encI (0 : Int) (List.drop 0 (List.take (Int.toNat (if (0 : Int) > n then (0 : Int) else n)) L))) Tip.full],
        AObj.tok, AObj.tok]))))) →
    ASpec Try.prog 35 [AV.ptr 0 0, AV.int IntKind.i64 n] (T.HT E L) Post := fun E L n Post h => Go.Ab.ASpec.of_vc g35 Go.Proofs.Try.func35 (by kernel_rfl) (by kernel_rfl) (by kernel_rfl) (Go.Ab.kc (by kernel_rfl) h)

end
end Tl
end

section
/- Printed: what the code of functions 373, 324, 393, 372, 323, 263, 170, 253, 165, 154, 322, 261, 164, 39, 262, 325, 45 asks for, by the framework's own reading of it; each line is checked against the code. -/

set_option linter.unusedVariables false
set_option maxRecDepth 100000
set_option maxHeartbeats 4000000
open Go Go.Ab Go.Proofs
namespace S
noncomputable section

noncomputable def retS : List (Nat × Ret) := [
  (9032, ⟨Unit, fun _ _ _ => .bool true, fun _ H _ => H⟩),
  (9033, ⟨ByteArray × List UInt8 × Int, fun _ _ x => .tup [.str x.1, .sl 1 (.map encB 0 x.2.1) .none, .int .i64 x.2.2], fun _ H _ => H⟩),
  (45, ⟨ByteArray × ByteArray × Int, fun _ _ x => .tup [.str x.1, .str x.2.1, .int .i64 x.2.2], fun _ H _ => H⟩),
  (262, ⟨List UInt8, fun _ _ x => .sl 1 (.map encB 0 x) .none, fun _ H _ => H⟩),
  (325, ⟨ByteArray, fun _ _ x => .str x, fun _ H _ => H⟩),
  (39, ⟨Bool, fun _ _ x => .bool x, fun _ H _ => H⟩),
  (9090, ⟨List UInt8 × Bool, fun _ _ x => .tup [.sl 1 (.map encB 0 x.1) .none, .bool x.2], fun _ H _ => H⟩),
  (154, ⟨Bool, fun _ _ x => .bool x, fun _ H _ => H⟩),
  (170, ⟨ByteArray × Bool, fun _ _ x => .tup [.str x.1, .bool x.2], fun _ H _ => H⟩),
  (323, ⟨List UInt8, fun _ _ x => .sl 1 (.map encB 0 x) .none, fun _ H _ => H⟩),
  (263, ⟨ByteArray, fun _ _ x => .str x, fun _ H _ => H⟩),
  (164, ⟨List Int, fun _ _ x => .sl 1 (.map encI 0 x) .none, fun _ H _ => H⟩),
  (165, ⟨Int, fun _ _ x => .int .i64 x, fun _ H _ => H⟩),
  (372, ⟨Int, fun _ _ x => .int .u32 x, fun _ H _ => H⟩),
  (253, ⟨Int, fun _ _ x => .int .i64 x, fun _ H _ => H⟩),
  (324, ⟨Int, fun _ _ x => .int .i64 x, fun _ H _ => H⟩),
  (261, ⟨Int × Int, fun _ _ x => .tup [.int .i64 x.1, .int .i64 x.2], fun _ H _ => H⟩),
  (393, ⟨Int, fun _ _ x => .int .u32 x, fun _ H _ => H⟩),
  (373, ⟨Int, fun _ _ x => .int .i64 x, fun _ H _ => H⟩),
  (322, ⟨Int, fun _ _ x => .int .i64 x, fun _ H _ => H⟩)]
noncomputable def rets : FuncId → List Ret := lookupR (retS ++ V.retL)

-- 373
noncomputable def m373 : Nat → Bool
  | _ => false
noncomputable def l324 : Nat → List Nat
  | 3 => [0, 3, 4]
  | _ => []
noncomputable def l253 : Nat → List Nat
  | _ => []
noncomputable def u253 : Nat → Bool
  | _ => false
noncomputable def m253 : Nat → Bool
  | _ => false
noncomputable def g253 : Cfg := { N := 27, live := l253, cut := u253, mu := m253, ret := rets }
theorem s253 : ∀ (c : Int) (Post : AV → List AObj → Prop),
  condP (decide (c ≥ (97 : Int)))
      (condP (decide (c ≤ (122 : Int))) (Post (AV.int IntKind.i64 (0 : Int)) [])
        (condP (decide (c ≥ (945 : Int)))
        (condP (decide (c ≤ (969 : Int))) (Post (AV.int IntKind.i64 (1 : Int)) [])
        (condP (decide (c ≥ (48 : Int)))
        (condP (decide (c ≤ (57 : Int))) (Post (AV.int IntKind.i64 (2 : Int)) []) (condP (c == (45 : Int)) (Post (AV.int IntKind.i64 (3 : Int)) []) (Post (AV.int IntKind.i64 (4 : Int)) [])))
        (condP (c == (45 : Int)) (Post (AV.int IntKind.i64 (3 : Int)) []) (Post (AV.int IntKind.i64 (4 : Int)) []))))
        (condP (decide (c ≥ (48 : Int)))
        (condP (decide (c ≤ (57 : Int))) (Post (AV.int IntKind.i64 (2 : Int)) []) (condP (c == (45 : Int)) (Post (AV.int IntKind.i64 (3 : Int)) []) (Post (AV.int IntKind.i64 (4 : Int)) [])))
        (condP (c == (45 : Int)) (Post (AV.int IntKind.i64 (3 : Int)) []) (Post (AV.int IntKind.i64 (4 : Int)) [])))))
      (condP (decide (c ≥ (945 : Int)))
        (condP (decide (c ≤ (969 : Int))) (Post (AV.int IntKind.i64 (1 : Int)) [])
        (condP (decide (c ≥ (48 : Int)))
        (condP (decide (c ≤ (57 : Int))) (Post (AV.int IntKind.i64 (2 : Int)) []) (condP (c == (45 : Int)) (Post (AV.int IntKind.i64 (3 : Int)) []) (Post (AV.int IntKind.i64 (4 : Int)) [])))
        (condP (c == (45 : Int)) (Post (AV.int IntKind.i64 (3 : Int)) []) (Post (AV.int IntKind.i64 (4 : Int)) []))))
        (condP (decide (c ≥ (48 : Int)))
        (condP (decide (c ≤ (57 : Int))) (Post (AV.int IntKind.i64 (2 : Int)) []) (condP (c == (45 : Int)) (Post (AV.int IntKind.i64 (3 : Int)) []) (Post (AV.int IntKind.i64 (4 : Int)) [])))
        (condP (c == (45 : Int)) (Post (AV.int IntKind.i64 (3 : Int)) []) (Post (AV.int IntKind.i64 (4 : Int)) [])))) →
    ASpec Try.prog 253 [AV.int IntKind.i32 c] [] Post := fun c Post h => Go.Ab.ASpec.of_vc g253 Go.Proofs.Try.func253 (by kernel_rfl) (by kernel_rfl) (by kernel_rfl) (Go.Ab.kc (by kernel_rfl) h)

-- 165
noncomputable def l154 : Nat → List Nat
  | 3 => [3, 8]
  | _ => []
noncomputable def u154 : Nat → Bool
  | _ => false
noncomputable def m154 : Nat → Bool
  | _ => false
noncomputable def g154 : Cfg := { N := 32, live := l154, cut := u154, mu := m154, ret := rets }
noncomputable def c154 : Go.Code := Go.Ab.bodyOf Go.Proofs.Try.f154
noncomputable def q154_0 : Nat → (AV → List AObj → Prop) → AQ := fun (n : Nat) (Post : AV → List AObj → Prop) => endQ Try.prog (resultsOf Try.f154) Post
noncomputable def q154_1 : Nat → (AV → List AObj → Prop) → AQ := fun (n : Nat) (Post : AV → List AObj → Prop) => seqQ (fun (s' : Slots) (H' : List AObj) => awp Try.prog g154 n (codeSnd (codeSnd (codeSnd c154))) s' H' (q154_0 n Post)) (q154_0 n Post)
noncomputable def q154_2 : Nat → (AV → List AObj → Prop) → AQ := fun (n : Nat) (Post : AV → List AObj → Prop) => blockQ 0 (q154_1 n Post)
noncomputable def c154_3 : Go.Code := codeFst (codeSnd (codeFst (codeSnd (codeSnd c154))))
theorem s154 : ∀ (s : ByteArray) (Post : AV → List AObj → Prop),
  AWP Try.prog 32 0 c154_3 [(3, AV.int IntKind.i64 (0 : Int)), (8, AV.ptr 0 0)] [AObj.siter s 0] (q154_2 0 Post) →
    ASpec Try.prog 154 [AV.str s] [] Post := fun s Post h => Go.Ab.ASpec.of_vc g154 Go.Proofs.Try.func154 (by kernel_rfl) (by kernel_rfl) (by kernel_rfl) (Go.Ab.kc (by kernel_rfl) h)
theorem v154_3 : ∀ (s : ByteArray) (pos : Nat) (n : Int) (n_1 : Nat) (Post : AV → List AObj → Prop),
  condP (decide (pos < ByteArray.size s))
      (ASpec Try.prog 253 [AV.int IntKind.i32 (↑(Prod.fst (Utf8.decode s pos)) : Int)] [AObj.siter s (pos + Prod.snd (Utf8.decode s pos))] fun (r : AV) (H' : List AObj) =>
        ∃ (x : Int),
        r = AV.int IntKind.i64 x ∧
        H' = [AObj.siter s (pos + Prod.snd (Utf8.decode s pos))] ∧
        condP (decide (x > (3 : Int))) (Post (AV.bool false) [AObj.siter s (pos + Prod.snd (Utf8.decode s pos))])
        (condP (n == (0 : Int))
        (condP (decide (x > (1 : Int))) (Post (AV.bool false) [AObj.siter s (pos + Prod.snd (Utf8.decode s pos))])
        (condP (n == (12 : Int)) (Post (AV.bool false) [AObj.siter s (pos + Prod.snd (Utf8.decode s pos))])
        (AWP Try.prog 32 n_1 c154_3 [(3, AV.int IntKind.i64 (IntKind.wrap IntKind.i64 (n + (1 : Int)))), (8, AV.ptr 0 0)]
        [AObj.siter s (pos + Prod.snd (Utf8.decode s pos))] (q154_2 n_1 Post))))
        (condP (n == (12 : Int)) (Post (AV.bool false) [AObj.siter s (pos + Prod.snd (Utf8.decode s pos))])
        (AWP Try.prog 32 n_1 c154_3 [(3, AV.int IntKind.i64 (IntKind.wrap IntKind.i64 (n + (1 : Int)))), (8, AV.ptr 0 0)]
        [AObj.siter s (pos + Prod.snd (Utf8.decode s pos))] (q154_2 n_1 Post)))))
      (Post (AV.bool (decide (n > (0 : Int)))) [AObj.siter s pos]) →
    AWP Try.prog 32 n_1 c154_3 [(3, AV.int IntKind.i64 n), (8, AV.ptr 0 0)] [AObj.siter s pos] (q154_2 n_1 Post) := fun s pos n n Post h => Go.Ab.AWP.loop' g154 (Cfg.live g154) c154_3 (by kernel_rfl) (by kernel_rfl) (Go.Ab.kc (by kernel_rfl) h)

-- 322
end
end S
end

section
/- The plain law of numbers as bytes. -/

namespace V

/-- the digits that go on -/
def lead (v : Nat) : List UInt8 := if _h : v = 0 then [] else lead (v / 128) ++ [UInt8.ofNat (128 + v % 128)]
  termination_by v
  decreasing_by omega

def enc (v : Nat) : List UInt8 := lead (v / 128) ++ [UInt8.ofNat (v % 128)]

end V
end

section
/- vlq.Put: what it computes. -/

set_option linter.unusedVariables false
set_option linter.unusedSimpArgs false
open Go Go.Ab Go.Proofs
namespace V

def big : Nat := 140737488351232

theorem tmodN (a b : Nat) : Int.tmod (a : Int) (b : Int) = ((a % b : Nat) : Int) := by rfl

end V
end

section
/- The reader of bytes: what its methods compute. -/

set_option linter.unusedVariables false
set_option linter.unusedSimpArgs false
open Go Go.Ab Go.Proofs
namespace V

def scan : Nat → List UInt8 → Nat → Nat → Int ⊕ (Nat × Nat)
  | 0, _, _, _ => .inl 4
  | _ + 1, [], _, _ => .inl 2
  | f + 1, c :: s, x, i => if 128 ≤ c.toNat then scan f s (x * 128 + c.toNat % 128) (i + 1) else .inr (x * 128 + c.toNat % 128, i + 1)

/-- the number ahead, how many bytes it has, and what is wrong -/
def lookM (s : List UInt8) (most : Int) : Int × Nat × Int :=
  match s with
  | [] => (0, 0, 2)
  | c :: _ => if c = 128 then (0, 0, 3) else match scan 6 s 0 0 with
    | .inl e => (0, 0, e)
    | .inr (n, k) => if (n : Int) > min most 1099511627776 then (0, 0, 4) else (n, k, 0)

theorem getD_drop (bs : List UInt8) (q : Nat) (h : q < bs.length) : bs.drop q = bs.getD q 0 :: bs.drop (q + 1) := by
  rw [List.drop_eq_getElem_cons h]
  simp [List.getD, List.getElem?_eq_getElem h]

theorem scan_le : ∀ (f : Nat) (s : List UInt8) (x i n k : Nat), scan f s x i = .inr (n, k) → i < k ∧ k ≤ i + s.length
  | 0, s, x, i, n, k, h => by simp [scan] at h
  | f + 1, [], x, i, n, k, h => by simp [scan] at h
  | f + 1, c :: s, x, i, n, k, h => by
    simp only [scan] at h
    split at h
    · have := scan_le f s _ _ _ _ h
      simp; omega
    · simp at h
      simp; omega

theorem lookM_le (s : List UInt8) (most : Int) : (lookM s most).2.1 ≤ s.length ∧ 0 ≤ (lookM s most).1 ∧ (lookM s most).1 ≤ 1099511627776 ∧ ((lookM s most).2.2 ≠ 0 → (lookM s most).1 = 0 ∧ (lookM s most).2.1 = 0) := by
  cases s with
  | nil => simp [lookM]
  | cons c s =>
    simp only [lookM]
    split
    · simp
    · split
      · simp
      · rename_i n k hs
        have := scan_le _ _ _ _ _ _ hs
        split
        · simp
        · refine ⟨?_, by simp, ?_, by simp⟩
          · show k ≤ _
            omega
          · show (n : Int) ≤ _
            omega

end V
end

section
/- The document's numbers, texts and reader: what they compute. -/

set_option linter.unusedVariables false
set_option linter.unusedSimpArgs false
open Go Go.Ab Go.Proofs
namespace V

abbrev B (l : List UInt8) : ByteArray := ⟨l.toArray⟩

theorem B_size (l : List UInt8) : (B l).size = l.length := by simp [ByteArray.size]
theorem B_toList (l : List UInt8) : (B l).toList = l := by rw [ByteArray.toList_eq]
theorem B_beq (a b : List UInt8) : ((B a).toList == (B b).toList) = (a == b) := by rw [B_toList, B_toList]
theorem B_extract (l : List UInt8) (i j : Nat) (h : j ≤ l.length) : (B l).extract i j = B ((l.take j).drop i) := by
  apply ByteArray.ext
  apply Array.toList_inj.1
  simp [List.drop_take]

theorem condS {a b : List UInt8} {A C : Prop} (h1 : a = b → A) (h2 : a ≠ b → C) : condP ((B a).toList == (B b).toList) A C := by
  rw [B_beq]
  by_cases h : a = b
  · rw [beq_iff_eq.2 h]; exact h1 h
  · rw [beq_eq_false_iff_ne.2 h]; exact h2 h

/-! ### numbers -/

/-! ### the document's look -/

def acc (x : Nat) : List UInt8 → Nat
  | [] => x
  | c :: s => acc (x * 128 + c.toNat % 128) s

theorem acc_lt : ∀ (s : List UInt8) (x i : Nat), x < 128 ^ i → acc x s < 128 ^ (i + s.length)
  | [], x, i, h => h
  | c :: s, x, i, h => by
    simp only [acc, List.length_cons]
    have := acc_lt s (x * 128 + c.toNat % 128) (i + 1) (by rw [Nat.pow_succ]; omega)
    rwa [show i + (s.length + 1) = i + 1 + s.length by omega]

theorem acc_append (x : Nat) : ∀ (s t : List UInt8), acc x (s ++ t) = acc (acc x s) t
  | [], t => rfl
  | c :: s, t => acc_append _ s t

theorem scan_hi : ∀ (k : Nat) (s : List UInt8) (x i f : Nat), k ≤ s.length → k ≤ f → (∀ j, j < k → 128 ≤ (s.getD j 0).toNat) → scan f s x i = scan (f - k) (s.drop k) (acc x (s.take k)) (i + k)
  | 0, s, x, i, f, _, _, _ => by simp [acc]
  | k + 1, [], x, i, f, h, _, _ => by simp at h
  | k + 1, c :: s, x, i, 0, _, h, _ => by omega
  | k + 1, c :: s, x, i, f + 1, h1, h2, h3 => by
    have hc : 128 ≤ c.toNat := by simpa using h3 0 (by omega)
    simp only [scan, if_pos hc]
    rw [scan_hi k s _ (i + 1) f (by simpa using h1) (by omega) (fun j hj => by simpa using h3 (j + 1) (by omega))]
    simp only [List.take_succ_cons, acc, List.drop_succ_cons]
    congr 1 <;> omega

theorem look14 {l : List UInt8} {most : Int} {k : Nat} {Post : AV → List AObj → Prop} (hk : k < 6) (hkl : k < l.length) : ∀ (m i : Nat), m + i = k + 1 →
    (if (acc 0 (l.take (k + 1)) : Int) > min most 1099511627776 then Post (.tup [.int .i64 0, .int .i64 0, .int .i64 4]) [] else Post (.tup [.int .i64 (acc 0 (l.take (k + 1)) : Nat), .int .i64 (k + 1 : Nat), .int .i64 0]) []) →
    AWP Try.prog 60 0 c252_14 [(0, .str (B l)), (1, .int .i64 most), (7, .int .i64 k), (8, .int .i64 (acc 0 (l.take i) : Nat)), (9, .int .i64 i)] [] (q252_4 0 Post) := by
  intro m
  induction m with
  | zero =>
    intro i hm h
    refine v252_14 _ _ _ _ _ _ _ (condD (fun hc => by omega) fun hc => ?_)
    rw [show i = k + 1 by omega]
    refine condD (fun h1 => ?_) fun h1 => condD (fun h2 => ?_) fun h2 => ?_
    · rw [if_pos (by omega)] at h; exact h
    · rw [if_pos (by omega)] at h; exact h
    · rw [if_neg (by omega)] at h
      rw [show IntKind.wrap .i64 ((k : Int) + 1) = ((k + 1 : Nat) : Int) by rw [wrap64 (by omega) (by omega)]; simp]
      exact h
  | succ m ih =>
    intro i hm h
    refine v252_14 _ _ _ _ _ _ _ (condD (fun hc => needJ ?_ (needJ (by decide) ?_)) fun hc => by omega)
    · rw [B_size]; omega
    · have hx := acc_lt (l.take i) 0 0 (by simp)
      have hlen : (l.take i).length ≤ 5 := by simp; omega
      have hp : (128 : Nat) ^ (0 + (l.take i).length) ≤ 128 ^ 5 := Nat.pow_le_pow_right (by omega) (by omega)
      have h5 : (128 : Nat) ^ 5 = 34359738368 := by decide
      have e : acc 0 (l.take (i + 1)) = acc 0 (l.take i) * 128 + (l.getD i 0).toNat % 128 := by
        have : l.take (i + 1) = l.take i ++ [l.getD i 0] := by
          rw [List.take_add_one]
          simp [List.getElem?_eq_getElem (show i < l.length by omega)]
        rw [this, acc_append]; rfl
      have := ih (i + 1) (by omega) h
      rw [e] at this
      generalize acc 0 (l.take i) = x at this hx ⊢
      have hg : (B l).data.toList.getD (Int.toNat (i : Int)) 0 = l.getD i 0 := rfl
      rw [hg]
      generalize l.getD i 0 = c at this ⊢
      have hc8 : c.toNat < 256 := c.toNat_lt
      rw [show IntKind.wrap .i64 ((i : Int) + 1) = ((i + 1 : Nat) : Int) by rw [wrap64 (by omega) (by omega)]; simp]
      rw [show (128 : Int) = ((128 : Nat) : Int) from rfl, tmodN, wrap64 (x := (x : Int) * ((128 : Nat) : Int)) (by omega) (by omega), wrap64 (x := ((c.toNat % 128 : Nat) : Int)) (by omega) (by omega), wrap64 (by omega) (by omega)]
      have e2 : (x : Int) * ((128 : Nat) : Int) + ((c.toNat % 128 : Nat) : Int) = ((x * 128 + c.toNat % 128 : Nat) : Int) := by simp
      rw [e2]
      exact this

def lookP (Post : AV → List AObj → Prop) (most : Int) : Int ⊕ (Nat × Nat) → Prop
  | .inl e => Post (.tup [.int .i64 0, .int .i64 0, .int .i64 e]) []
  | .inr (n, k) => if (n : Int) > min most 1099511627776 then Post (.tup [.int .i64 0, .int .i64 0, .int .i64 4]) [] else Post (.tup [.int .i64 n, .int .i64 k, .int .i64 0]) []

theorem look6 {l : List UInt8} {most : Int} {Post : AV → List AObj → Prop} (hl : l.length ≤ 10 * big) : ∀ (m k : Nat), m + k = 6 → k ≤ l.length → (∀ j, j < k → 128 ≤ (l.getD j 0).toNat) → lookP Post most (scan 6 l 0 0) →
    AWP Try.prog 60 0 c252_6 [(0, .str (B l)), (1, .int .i64 most), (7, .int .i64 k)] [] (q252_2 0 Post) := by
  unfold big at hl
  -- behind the loop
  have tail : ∀ k, k ≤ 6 → k ≤ l.length → (∀ j, j < k → 128 ≤ (l.getD j 0).toNat) → (k < 6 → k < l.length → (l.getD k 0).toNat < 128) → lookP Post most (scan 6 l 0 0) →
      condP ((k : Int) == (6 : Int)) (Post (.tup [.int .i64 0, .int .i64 0, .int .i64 4]) [])
        (condP ((k : Int) == ((B l).size : Int)) (Post (.tup [.int .i64 0, .int .i64 0, .int .i64 2]) [])
          (AWP Try.prog 60 0 c252_14 [(0, .str (B l)), (1, .int .i64 most), (7, .int .i64 k), (8, .int .i64 0), (9, .int .i64 0)] [] (q252_4 0 Post))) := by
    intro k hk hkl hhi hlo h
    rw [scan_hi k l 0 0 6 hkl hk hhi] at h
    refine condE (fun e => ?_) fun e => condE (fun e2 => ?_) fun e2 => ?_
    · have : k = 6 := by omega
      subst this
      exact h
    · rw [B_size] at e2
      have : k = l.length := by omega
      rw [List.drop_eq_nil_of_le (by omega), show 6 - k = (5 - k) + 1 by omega] at h
      exact h
    · rw [B_size] at e2
      have hlt : (l.getD k 0).toNat < 128 := hlo (by omega) (by omega)
      rw [getD_drop l k (by omega), show 6 - k = (5 - k) + 1 by omega] at h
      simp only [scan, if_neg (show ¬ 128 ≤ (l.getD k 0).toNat by omega)] at h
      refine look14 (by omega) (by omega) (k + 1) 0 rfl ?_
      have e : acc 0 (l.take (k + 1)) = acc 0 (l.take k) * 128 + (l.getD k 0).toNat % 128 := by
        have : l.take (k + 1) = l.take k ++ [l.getD k 0] := by
          rw [List.take_add_one]
          simp [List.getElem?_eq_getElem (show k < l.length by omega)]
        rw [this, acc_append]; rfl
      rw [e]
      simpa [lookP] using h
  intro m
  induction m with
  | zero =>
    intro k hm hkl hhi h
    have : k = 6 := by omega
    subst this
    refine v252_6 _ _ _ _ _ (condD (fun _ => condD (fun hc => by omega) fun _ => ?_) fun _ => ?_)
    · exact tail 6 (by omega) hkl hhi (fun h => by omega) h
    · exact tail 6 (by omega) hkl hhi (fun h => by omega) h
  | succ m ih =>
    intro k hm hkl hhi h
    refine v252_6 _ _ _ _ _ (condD (fun hc => condD (fun _ => needJ ?_ ?_) fun hc => by omega) fun hc => ?_)
    · exact ⟨by omega, hc⟩
    · rw [B_size] at hc
      have hg : (B l).data.toList.getD (Int.toNat (k : Int)) 0 = l.getD k 0 := rfl
      rw [hg]
      refine condD (fun hx => ?_) fun hx => ?_
      · rw [show IntKind.wrap .i64 ((k : Int) + 1) = ((k + 1 : Nat) : Int) by rw [wrap64 (by omega) (by omega)]; simp]
        refine ih (k + 1) (by omega) (by omega) (fun j hj => ?_) h
        by_cases e : j = k
        · subst e; omega
        · exact hhi j (by omega)
      · exact tail k (by omega) hkl hhi (fun _ _ => by omega) h
    · rw [B_size] at hc
      exact tail k (by omega) hkl hhi (fun _ h => by omega) h

theorem look_spec (l : List UInt8) (most : Int) (hl : l.length ≤ 10 * big) (H : List AObj) :
    ASpec Try.prog 252 [.str (B l), .int .i64 most] H (fun r H' => r = .tup [.int .i64 (lookM l most).1, .int .i64 (lookM l most).2.1, .int .i64 (lookM l most).2.2] ∧ H' = H) := by
  have k : ASpec Try.prog 252 [.str (B l), .int .i64 most] [] (fun r H' => r = .tup [.int .i64 (lookM l most).1, .int .i64 (lookM l most).2.1, .int .i64 (lookM l most).2.2] ∧ H' = []) := by
    refine s252 _ _ _ (condS (b := []) (fun e => ?_) fun e => ?_)
    · subst e; exact ⟨rfl, rfl⟩
    · cases l with
      | nil => exact (e rfl).elim
      | cons c l =>
        refine needJ ⟨by omega, by rw [B_size]; simp⟩ ?_
        have hg : (B (c :: l)).data.toList.getD 0 0 = c := rfl
        rw [hg]
        refine condE (fun h1 => ?_) fun h1 => ?_
        · have h1 : c = 128 := UInt8.toNat_inj.1 (by have : c.toNat = 128 := by omega
                                                     exact this)
          rw [show lookM (c :: l) most = (0, 0, 3) by simp only [lookM, if_pos h1]]
          exact ⟨rfl, rfl⟩
        · have h1 : c ≠ 128 := by intro e; rw [e] at h1; exact h1 rfl
          refine look6 hl 6 0 rfl (by omega) (fun j hj => by omega) ?_
          have e : lookM (c :: l) most = match scan 6 (c :: l) 0 0 with
            | .inl e => (0, 0, e)
            | .inr (n, k) => if (n : Int) > min most 1099511627776 then (0, 0, 4) else (n, k, 0) := by simp only [lookM, if_neg h1] <;> rfl
          rw [e]
          cases scan 6 (c :: l) 0 0 with
          | inl er => exact ⟨rfl, rfl⟩
          | inr nk =>
            obtain ⟨n, k⟩ := nk
            by_cases hm : (n : Int) > min most 1099511627776
            · simp [lookP, hm]
            · simp [lookP, hm]
  exact ASpec.pureH H k _ _ rfl rfl

end V
end

section
/- Readers as objects, in any heap; the chapter's examples. -/

set_option linter.unusedVariables false
set_option linter.unusedSimpArgs false
open Go Go.Ab Go.Proofs
namespace V

theorem set_same {α : Type _} {l : List α} {i : Nat} {a : α} (h : l[i]? = some a) : l.set i a = l := by
  apply List.ext_getElem?
  intro j
  rw [List.getElem?_set]
  split
  · rename_i e; subst e
    have := (List.getElem?_eq_some_iff.1 h).1
    simp only [this, if_true]
    exact h.symm
  · rfl

end V
end

section
/- VlqOrder: the law's function returns true. -/

set_option linter.unusedVariables false
set_option linter.unusedSimpArgs false
open Go Go.Ab Go.Proofs
namespace V

end V
end

section
/- VlqBack: what was put is read: the law's function returns true. -/

set_option linter.unusedVariables false
set_option linter.unusedSimpArgs false
open Go Go.Ab Go.Proofs
namespace V

end V
end

section
/- The document's reader, and a reader that is none: what their methods compute, in any heap. -/

set_option linter.unusedVariables false
set_option linter.unusedSimpArgs false
open Go Go.Ab Go.Proofs
namespace V

/-- the document's reader -/
abbrev dr (l : List UInt8) (e : Int) : AObj := .cells [.str (B l), .int .i64 e]
abbrev AtD (H : List AObj) (id : Nat) (l : List UInt8) (e : Int) : Prop := H[id]? = some (dr l e)

def dnumM (l : List UInt8) (e most : Int) : Int × List UInt8 × Int :=
  if e ≠ 0 then (0, l, e) else ((lookM l most).1, l.drop (lookM l most).2.1, (lookM l most).2.2)
def dstrM (l : List UInt8) (e most : Int) : List UInt8 × List UInt8 × Int :=
  if e ≠ 0 then ([], l, e) else if (lookM l most).2.2 ≠ 0 then ([], l, (lookM l most).2.2) else
    if (lookM l most).1 > (l.length : Int) - ((lookM l most).2.1 : Nat) then ([], l, 2) else
    ((l.drop (lookM l most).2.1).take (lookM l most).1.toNat, l.drop ((lookM l most).2.1 + (lookM l most).1.toNat), 0)

theorem dnum_spec0 (l : List UInt8) (e most : Int) (hl : l.length ≤ 10 * big) :
    ASpec Try.prog 147 [.ptr 0 0, .int .i64 most] [dr l e] (fun r H' => r = .int .i64 (dnumM l e most).1 ∧ H' = [dr (dnumM l e most).2.1 (dnumM l e most).2.2]) := by
  refine s147 _ _ _ _ (condNe (fun he => ?_) fun he => ?_)
  · rw [show dnumM l e most = (0, l, e) by simp only [dnumM, if_pos he]]
    exact ⟨rfl, rfl⟩
  · subst he
    rw [show dnumM l 0 most = ((lookM l most).1, l.drop (lookM l most).2.1, (lookM l most).2.2) by simp [dnumM]]
    obtain ⟨h1, h2, h3, h4⟩ := lookM_le l most
    refine ASpec.call (look_spec l most hl _) (Les.refl _) ⟨((lookM l most).1, ((lookM l most).2.1 : Nat), (lookM l most).2.2), rfl, rfl, needJ ?_ ⟨rfl, ?_⟩⟩
    · simp only [B_size]; omega
    · simp only [Int.toNat_natCast, B_size]
      rw [B_extract _ _ _ (Nat.le_refl _), List.take_of_length_le (Nat.le_refl _)]

theorem dstr_spec0 (l : List UInt8) (e most : Int) (hl : l.length ≤ 10 * big) :
    ASpec Try.prog 148 [.ptr 0 0, .int .i64 most] [dr l e] (fun r H' => r = .str (B (dstrM l e most).1) ∧ H' = [dr (dstrM l e most).2.1 (dstrM l e most).2.2]) := by
  refine s148 _ _ _ _ (condNe (fun he => ?_) fun he => ?_)
  · rw [show dstrM l e most = ([], l, e) by simp only [dstrM, if_pos he]]
    exact ⟨rfl, rfl⟩
  · subst he
    obtain ⟨h1, h2, h3, h4⟩ := lookM_le l most
    refine ASpec.call (look_spec l most hl _) (Les.refl _) ⟨((lookM l most).1, ((lookM l most).2.1 : Nat), (lookM l most).2.2), rfl, rfl, ?_⟩
    have hs : dstrM l 0 most = if (lookM l most).2.2 ≠ 0 then ([], l, (lookM l most).2.2) else
      if (lookM l most).1 > (l.length : Int) - ((lookM l most).2.1 : Nat) then ([], l, 2) else
      ((l.drop (lookM l most).2.1).take (lookM l most).1.toNat, l.drop ((lookM l most).2.1 + (lookM l most).1.toNat), 0) := by simp [dstrM]
    rw [hs]
    generalize lookM l most = q at h1 h2 h3 h4 ⊢
    obtain ⟨n, k, er⟩ := q
    unfold big at hl
    simp only at h1 h2 h3 h4 ⊢
    simp only [B_size]
    refine condE (fun he => ?_) fun he => ?_
    · subst he
      rw [wrap64 (x := (l.length : Int) - ((k : Nat) : Int)) (by omega) (by omega)]
      refine condD (fun hg => ?_) fun hg => ?_
      · rw [if_neg (by simp), if_pos hg]; exact ⟨rfl, rfl⟩
      · rw [if_neg (by simp), if_neg hg]
        have hw : IntKind.wrap .i64 (((k : Nat) : Int) + n) = ((k + n.toNat : Nat) : Int) := by
          rw [wrap64 (x := ((k : Nat) : Int) + n) (by omega) (by omega)]; omega
        refine condNe (fun h => (h rfl).elim) fun _ => ?_
        rw [hw]
        refine needJ (by omega) (needJ (by omega) ?_)
        simp only [Int.toNat_natCast]
        rw [B_extract _ _ _ (by omega), B_extract _ _ _ (Nat.le_refl _), List.take_of_length_le (Nat.le_refl _), List.drop_take, show k + n.toNat - k = n.toNat by omega]
        exact ⟨rfl, rfl⟩
    · refine condNe (fun h => ?_) fun h => (he h).elim
      rw [if_pos he]; exact ⟨rfl, rfl⟩

theorem dnum_spec {H : List AObj} {id : Nat} {l : List UInt8} {e : Int} (most : Int) (hl : l.length ≤ 10 * big) (h : AtD H id l e) :
    ASpec Try.prog 147 [.ptr id 0, .int .i64 most] H (fun r H' => r = .int .i64 (dnumM l e most).1 ∧ H' = H.set id (dr (dnumM l e most).2.1 (dnumM l e most).2.2)) :=
  ASpec.oneH H id (dnum_spec0 l e most hl) _ _ _ rfl rfl h rfl
theorem dstr_spec {H : List AObj} {id : Nat} {l : List UInt8} {e : Int} (most : Int) (hl : l.length ≤ 10 * big) (h : AtD H id l e) :
    ASpec Try.prog 148 [.ptr id 0, .int .i64 most] H (fun r H' => r = .str (B (dstrM l e most).1) ∧ H' = H.set id (dr (dstrM l e most).2.1 (dstrM l e most).2.2)) :=
  ASpec.oneH H id (dstr_spec0 l e most hl) _ _ _ rfl rfl h rfl

/-! ### a reader that is none -/

/-! ### the reader and the document's -/

end V
end

section
/- Stamps: what the code and the document sum up, close and open. -/

set_option linter.unusedVariables false
set_option linter.unusedSimpArgs false
open Go Go.Ab Go.Proofs V
namespace Go.Ab

theorem Le.tup {l r : List AV} (h : Les l r) : Le (.tup l) (.tup r) := by
  intro M w loc v hv
  cases hv with
  | tup _ vs hs hr =>
    have hl := h.len
    exact .tup _ vs (by omega) fun i hi => h.get i (by omega) hi M w loc _ (hr i (by omega))

theorem Le.agg {l r : List AV} (h : Les l r) : Le (.agg l) (.agg r) := by
  intro M w loc v hv
  cases hv with
  | agg _ vs hs hr =>
    have hl := h.len
    exact .agg _ vs (by omega) fun i hi => h.get i (by omega) hi M w loc _ (hr i (by omega))

end Go.Ab
namespace S

def fnv : Nat → List UInt8 → Nat
  | n, [] => n
  | n, c :: l => fnv ((n ^^^ c.toNat) * 16777619 % 4294967296) l

abbrev sum (l : List UInt8) : Nat := fnv 2166136261 l
/-! ### xor, bit by bit -/

/-! ### sums -/

/-! ### sealing -/

/-! ### opening -/

end S
end

section
/- Labels: runes, kinds, and which names may be. -/

set_option linter.unusedVariables false
set_option linter.unusedSimpArgs false
set_option maxRecDepth 100000
open Go Go.Ab Go.Proofs V
namespace S

def kindM (c : Int) : Int := if 97 ≤ c ∧ c ≤ 122 then 0 else if 945 ≤ c ∧ c ≤ 969 then 1 else if 48 ≤ c ∧ c ≤ 57 then 2 else if c = 45 then 3 else 4

theorem kind_spec (c : Int) (H : List AObj) : ASpec Try.prog 253 [.int .i32 c] H (fun r H' => r = .int .i64 (kindM c) ∧ H' = H) := by
  have k : ASpec Try.prog 253 [.int .i32 c] [] (fun r H' => r = .int .i64 (kindM c) ∧ H' = []) := by
    refine s253 _ _ ?_
    repeat' (first | refine condD (fun _ => ?_) fun _ => ?_ | refine condE (fun _ => ?_) fun _ => ?_)
    all_goals (refine ⟨?_, rfl⟩; congr 1; unfold kindM; repeat' split)
    all_goals omega
  exact ASpec.pureH H k _ _ rfl rfl

/-! ### the rune at a place -/

/-- a byte behind a place -/
abbrev bt (l : List UInt8) (p k : Nat) : Nat := (l.getD (p + k) 0).toNat

theorem bt_lt (l : List UInt8) (p k : Nat) : bt l p k < 256 := (l.getD (p + k) 0).toNat_lt

theorem get_B (l : List UInt8) (j : Nat) : (B l).get! j = l.getD j 0 := by
  show l.toArray[j]! = _
  rw [getElem!_def]
  simp [List.getD]
  rfl

abbrev wideC (a b0 b1 b2 b3 : Nat) : Nat :=
  if 194 ≤ b0 ∧ b0 ≤ 223 then (if 2 ≤ a ∧ (128 ≤ b1 ∧ b1 ≤ 191) then 2 else 0)
  else if 224 ≤ b0 ∧ b0 ≤ 239 then (if 3 ≤ a ∧ (128 ≤ b1 ∧ b1 ≤ 191) ∧ (128 ≤ b2 ∧ b2 ≤ 191) ∧ ¬ (b0 = 224 ∧ b1 < 160) ∧ ¬ (b0 = 237 ∧ 159 < b1) then 3 else 0)
  else if 240 ≤ b0 ∧ b0 ≤ 244 then (if 4 ≤ a ∧ (128 ≤ b1 ∧ b1 ≤ 191) ∧ (128 ≤ b2 ∧ b2 ≤ 191) ∧ (128 ≤ b3 ∧ b3 ≤ 191) ∧ ¬ (b0 = 240 ∧ b1 < 144) ∧ ¬ (b0 = 244 ∧ 143 < b1) then 4 else 0)
  else 0

def wideM (l : List UInt8) (p : Nat) : Nat := wideC (l.length - p) (bt l p 0) (bt l p 1) (bt l p 2) (bt l p 3)

abbrev runeC (w b0 b1 b2 b3 : Nat) : Nat × Nat :=
  if b0 < 128 then (b0, 1) else if w = 0 then (65533, 1) else if w = 2 then (b0 % 32 * 64 + b1 % 64, 2)
  else if w = 3 then ((b0 % 16 * 64 + b1 % 64) * 64 + b2 % 64, 3) else (((b0 % 8 * 64 + b1 % 64) * 64 + b2 % 64) * 64 + b3 % 64, 4)

def runeM (l : List UInt8) (p : Nat) : Nat × Nat := runeC (wideM l p) (bt l p 0) (bt l p 1) (bt l p 2) (bt l p 3)

theorem decode_core (a b0 b1 b2 b3 : Nat) (h0 : b0 < 256) (h1 : b1 < 256) (h2 : b2 < 256) (h3 : b3 < 256) :
    (if b0 < 128 then (b0, 1)
     else if b0 / 32 = 6 ∧ (1 < a ∧ b1 / 64 = 2) then (if 128 ≤ b0 % 32 * 64 + b1 % 64 then (b0 % 32 * 64 + b1 % 64, 2) else (65533, 1))
     else if b0 / 16 = 14 ∧ (1 < a ∧ b1 / 64 = 2) ∧ (2 < a ∧ b2 / 64 = 2) then
       (if 2048 ≤ b0 % 16 * 4096 + b1 % 64 * 64 + b2 % 64 ∧ (b0 % 16 * 4096 + b1 % 64 * 64 + b2 % 64 < 55296 ∨ (57344 ≤ b0 % 16 * 4096 + b1 % 64 * 64 + b2 % 64 ∧ b0 % 16 * 4096 + b1 % 64 * 64 + b2 % 64 ≤ 1114111))
        then (b0 % 16 * 4096 + b1 % 64 * 64 + b2 % 64, 3) else (65533, 1))
     else if b0 / 8 = 30 ∧ (1 < a ∧ b1 / 64 = 2) ∧ (2 < a ∧ b2 / 64 = 2) ∧ (3 < a ∧ b3 / 64 = 2) then
       (if 65536 ≤ b0 % 8 * 262144 + b1 % 64 * 4096 + b2 % 64 * 64 + b3 % 64 ∧ (b0 % 8 * 262144 + b1 % 64 * 4096 + b2 % 64 * 64 + b3 % 64 < 55296 ∨ (57344 ≤ b0 % 8 * 262144 + b1 % 64 * 4096 + b2 % 64 * 64 + b3 % 64 ∧ b0 % 8 * 262144 + b1 % 64 * 4096 + b2 % 64 * 64 + b3 % 64 ≤ 1114111))
        then (b0 % 8 * 262144 + b1 % 64 * 4096 + b2 % 64 * 64 + b3 % 64, 4) else (65533, 1))
     else ((65533 : Nat), (1 : Nat))) = runeC (wideC a b0 b1 b2 b3) b0 b1 b2 b3 := by
  have e2 : ∀ w : Nat, w = 0 ∨ w = 2 ∨ w = 3 ∨ w = 4 ∨ 4 < w ∨ w = 1 := by omega
  by_cases c0 : b0 < 128
  · rw [if_pos c0]; unfold runeC; rw [if_pos c0]
  rw [if_neg c0]
  unfold runeC
  rw [if_neg c0]
  by_cases c1 : 194 ≤ b0 ∧ b0 ≤ 223
  · unfold wideC
    rw [if_pos c1]
    by_cases d : 1 < a ∧ b1 / 64 = 2
    · rw [if_pos ⟨by omega, d⟩, if_pos (by omega), if_pos (show 2 ≤ a ∧ (128 ≤ b1 ∧ b1 ≤ 191) by omega)]; rfl
    · rw [if_neg (fun h => d h.2), if_neg (fun h => d h.2.1), if_neg (fun h => d h.2.1), if_neg (show ¬ (2 ≤ a ∧ (128 ≤ b1 ∧ b1 ≤ 191)) by omega)]; rfl
  by_cases c2 : 224 ≤ b0 ∧ b0 ≤ 239
  · unfold wideC
    rw [if_neg c1, if_pos c2]
    rw [if_neg (show ¬ (b0 / 32 = 6 ∧ (1 < a ∧ b1 / 64 = 2)) by omega)]
    by_cases d : (1 < a ∧ b1 / 64 = 2) ∧ (2 < a ∧ b2 / 64 = 2)
    · rw [if_pos ⟨by omega, d⟩]
      by_cases f : ¬ (b0 = 224 ∧ b1 < 160) ∧ ¬ (b0 = 237 ∧ 159 < b1)
      · rw [if_pos (show 3 ≤ a ∧ (128 ≤ b1 ∧ b1 ≤ 191) ∧ (128 ≤ b2 ∧ b2 ≤ 191) ∧ ¬ (b0 = 224 ∧ b1 < 160) ∧ ¬ (b0 = 237 ∧ 159 < b1) by omega), if_pos (by omega)]
        simp only [if_neg (show ¬ (3 = 0) by omega), if_neg (show ¬ (3 = 2) by omega), if_true]
        rw [show b0 % 16 * 4096 + b1 % 64 * 64 + b2 % 64 = (b0 % 16 * 64 + b1 % 64) * 64 + b2 % 64 by omega]
      · rw [if_neg (show ¬ (3 ≤ a ∧ (128 ≤ b1 ∧ b1 ≤ 191) ∧ (128 ≤ b2 ∧ b2 ≤ 191) ∧ ¬ (b0 = 224 ∧ b1 < 160) ∧ ¬ (b0 = 237 ∧ 159 < b1)) by omega), if_neg (by omega)]; rfl
    · rw [if_neg (fun h => d h.2), if_neg (show ¬ (b0 / 8 = 30 ∧ (1 < a ∧ b1 / 64 = 2) ∧ (2 < a ∧ b2 / 64 = 2) ∧ (3 < a ∧ b3 / 64 = 2)) by omega),
        if_neg (show ¬ (3 ≤ a ∧ (128 ≤ b1 ∧ b1 ≤ 191) ∧ (128 ≤ b2 ∧ b2 ≤ 191) ∧ ¬ (b0 = 224 ∧ b1 < 160) ∧ ¬ (b0 = 237 ∧ 159 < b1)) by omega)]; rfl
  by_cases c3 : 240 ≤ b0 ∧ b0 ≤ 244
  · unfold wideC
    rw [if_neg c1, if_neg c2, if_pos c3]
    rw [if_neg (show ¬ (b0 / 32 = 6 ∧ (1 < a ∧ b1 / 64 = 2)) by omega), if_neg (show ¬ (b0 / 16 = 14 ∧ (1 < a ∧ b1 / 64 = 2) ∧ (2 < a ∧ b2 / 64 = 2)) by omega)]
    by_cases d : (1 < a ∧ b1 / 64 = 2) ∧ (2 < a ∧ b2 / 64 = 2) ∧ (3 < a ∧ b3 / 64 = 2)
    · rw [if_pos ⟨by omega, d⟩]
      by_cases f : ¬ (b0 = 240 ∧ b1 < 144) ∧ ¬ (b0 = 244 ∧ 143 < b1)
      · rw [if_pos (show 4 ≤ a ∧ (128 ≤ b1 ∧ b1 ≤ 191) ∧ (128 ≤ b2 ∧ b2 ≤ 191) ∧ (128 ≤ b3 ∧ b3 ≤ 191) ∧ ¬ (b0 = 240 ∧ b1 < 144) ∧ ¬ (b0 = 244 ∧ 143 < b1) by omega), if_pos (by omega)]
        simp only [if_neg (show ¬ (4 = 0) by omega), if_neg (show ¬ (4 = 2) by omega), if_neg (show ¬ (4 = 3) by omega)]
        rw [show b0 % 8 * 262144 + b1 % 64 * 4096 + b2 % 64 * 64 + b3 % 64 = ((b0 % 8 * 64 + b1 % 64) * 64 + b2 % 64) * 64 + b3 % 64 by omega]
      · rw [if_neg (show ¬ (4 ≤ a ∧ (128 ≤ b1 ∧ b1 ≤ 191) ∧ (128 ≤ b2 ∧ b2 ≤ 191) ∧ (128 ≤ b3 ∧ b3 ≤ 191) ∧ ¬ (b0 = 240 ∧ b1 < 144) ∧ ¬ (b0 = 244 ∧ 143 < b1)) by omega), if_neg (by omega)]; rfl
    · rw [if_neg (fun h => d h.2), if_neg (show ¬ (4 ≤ a ∧ (128 ≤ b1 ∧ b1 ≤ 191) ∧ (128 ≤ b2 ∧ b2 ≤ 191) ∧ (128 ≤ b3 ∧ b3 ≤ 191) ∧ ¬ (b0 = 240 ∧ b1 < 144) ∧ ¬ (b0 = 244 ∧ 143 < b1)) by omega)]; rfl
  · unfold wideC
    rw [if_neg c1, if_neg c2, if_neg c3]
    by_cases d : b0 / 32 = 6 ∧ (1 < a ∧ b1 / 64 = 2)
    · rw [if_pos d, if_neg (by omega)]; rfl
    rw [if_neg d, if_neg (show ¬ (b0 / 16 = 14 ∧ (1 < a ∧ b1 / 64 = 2) ∧ (2 < a ∧ b2 / 64 = 2)) by omega)]
    by_cases f : b0 / 8 = 30 ∧ (1 < a ∧ b1 / 64 = 2) ∧ (2 < a ∧ b2 / 64 = 2) ∧ (3 < a ∧ b3 / 64 = 2)
    · rw [if_pos f, if_neg (by omega)]; rfl
    · rw [if_neg f]; rfl

theorem validN (n : Nat) : Utf8.valid (n : Int) = (decide (n < 55296) || (decide (57344 ≤ n) && decide (n ≤ 1114111))) := by
  unfold Utf8.valid
  rw [Bool.eq_iff_iff]
  simp only [Bool.and_eq_true, Bool.or_eq_true, decide_eq_true_eq]
  omega

set_option maxRecDepth 100000 in
theorem decode_eq (l : List UInt8) (p : Nat) (hp : p < l.length) : Utf8.decode (B l) p = runeM l p := by
  unfold runeM wideM
  rw [← decode_core (l.length - p) _ _ _ _ (bt_lt l p 0) (bt_lt l p 1) (bt_lt l p 2) (bt_lt l p 3)]
  have hb : ∀ k, ((B l).get! (p + k)).toNat = bt l p k := fun k => by rw [get_B]
  have hc : ∀ k, decide (p + k < (B l).size) = decide (k < l.length - p) := fun k => by rw [B_size]; apply decide_eq_decide.2; omega
  unfold Utf8.decode
  simp only [hb, hc, validN]
  generalize bt l p 0 = b0
  generalize bt l p 1 = b1
  generalize bt l p 2 = b2
  generalize bt l p 3 = b3
  generalize l.length - p = a
  simp only [Utf8.runeError, Bool.and_eq_true, Bool.or_eq_true, decide_eq_true_eq, beq_iff_eq, ge_iff_le, and_assoc]

theorem runeM_width (l : List UInt8) (p : Nat) : 1 ≤ (runeM l p).2 ∧ (runeM l p).2 ≤ 4 := by
  unfold runeM runeC
  repeat' split
  all_goals simp

/-! ### the document's walk over a rune's bytes -/

section
variable {l : List UInt8} {p : Nat} {Post : AV → List AObj → Prop}

end
end S
end

section
/- Which names may be: the code's walk and the document's. -/

set_option linter.unusedVariables false
set_option linter.unusedSimpArgs false
set_option maxRecDepth 100000
open Go Go.Ab Go.Proofs V
namespace S
theorem condBn {b : Bool} {A C : Prop} (h1 : b = false → A) (h2 : b = true → C) : condP (!b) A C := by cases b <;> simp_all [condP]
section
variable {l : List UInt8} {p : Nat}

/-! ### all runes -/

def runesF : Nat → List UInt8 → Nat → List Int
  | 0, _, _ => []
  | f + 1, l, p => if p < l.length then ((runeM l p).1 : Int) :: runesF f l (p + (runeM l p).2) else []
def runesM (l : List UInt8) : List Int := runesF l.length l 0

/-! ### names -/

def fitF (n : Nat) : List Int → Bool
  | [] => decide (0 < n)
  | c :: r => if 3 < kindM c ∨ (n = 0 ∧ 1 < kindM c) ∨ n = 12 then false else fitF (n + 1) r

def fitM (l : List UInt8) : Bool := fitF 0 (runesM l)

theorem fit3 {Post : AV → List AObj → Prop} (hl : l.length ≤ 10 * big) : ∀ (f p n : Nat), l.length - p ≤ f → n ≤ 12 → (∀ q, Post (.bool (fitF n (runesF f l p))) [.siter (B l) q]) →
    AWP Try.prog 32 0 c154_3 [(3, .int .i64 n), (8, .ptr 0 0)] [.siter (B l) p] (q154_2 0 Post) := by
  intro f
  induction f with
  | zero =>
    intro p n hf hn h
    refine v154_3 _ _ _ _ _ (condD (fun hc => by rw [B_size] at hc; omega) fun _ => ?_)
    have := h p
    simp only [runesF, fitF] at this
    rw [show decide ((n : Int) > 0) = decide (0 < n) from decide_eq_decide.2 (by omega)]
    exact this
  | succ f ih =>
    intro p n hf hn h
    refine v154_3 _ _ _ _ _ (condD (fun hc => ?_) fun hc => ?_)
    · rw [B_size] at hc
      rw [decode_eq l p hc]
      have hw := runeM_width l p
      simp only [runesF, if_pos hc, fitF] at h
      refine ASpec.call (kind_spec _ _) (Les.refl _) ⟨_, rfl, rfl, ?_⟩
      generalize kindM ((runeM l p).1 : Nat) = k at h ⊢
      have no : (3 < k ∨ (n = 0 ∧ 1 < k) ∨ n = 12) → Post (.bool false) [.siter (B l) (p + (runeM l p).2)] := by
        intro hh
        have := h (p + (runeM l p).2)
        rw [if_pos hh] at this
        exact this
      have yes : ¬ (3 < k ∨ (n = 0 ∧ 1 < k) ∨ n = 12) → AWP Try.prog 32 0 c154_3 [(3, .int .i64 (IntKind.wrap .i64 ((n : Int) + 1))), (8, .ptr 0 0)] [.siter (B l) (p + (runeM l p).2)] (q154_2 0 Post) := by
        intro hh
        rw [show IntKind.wrap .i64 ((n : Int) + 1) = ((n + 1 : Nat) : Int) by rw [wrap64 (by omega) (by omega)]; simp]
        refine ih (p + (runeM l p).2) (n + 1) (by omega) (by omega) (fun q => ?_)
        have := h q
        rw [if_neg hh] at this
        exact this
      refine condD (fun h1 => no (.inl h1)) fun h1 => condE (fun h2 => condD (fun h3 => no (.inr (.inl ⟨by omega, h3⟩))) fun h3 => condE (fun h4 => no (.inr (.inr (by omega)))) fun h4 => yes (by omega)) fun h2 => condE (fun h4 => no (.inr (.inr (by omega)))) fun h4 => yes (by omega)
    · rw [B_size] at hc
      have := h p
      simp only [runesF, if_neg hc, fitF] at this
      rw [show decide ((n : Int) > 0) = decide (0 < n) from decide_eq_decide.2 (by omega)]
      exact this

theorem fit_spec (hl : l.length ≤ 10 * big) (H : List AObj) : ASpec Try.prog 154 [.str (B l)] H (fun r H' => r = .bool (fitM l) ∧ H' = H) := by
  have k : ASpec Try.prog 154 [.str (B l)] [] (fun r H' => r = .bool (fitM l) ∧ H' = []) := by
    refine ASpec.sel (s154 _ _ (fit3 hl l.length 0 0 (by omega) (by omega) (fun q => ⟨[], [], .bool (fitM l), Sel.none, Le.refl _, rfl, rfl⟩)))
  exact ASpec.pureH H k _ _ rfl rfl

end
end S
end

section
/- Which spans, needs and manifests may be: the code's walks and the document's. -/

set_option linter.unusedVariables false
set_option linter.unusedSimpArgs false
set_option maxRecDepth 100000
open Go Go.Ab Go.Proofs V S T
namespace C

/-- the answer c, whatever lies in the heap -/
abbrev PB (c : Bool) : AV → List AObj → Prop := fun r H' => ∃ l H2 r2, Sel 0 l H' H2 ∧ Le r (AV.ren (selR l H'.length) r2) ∧ (r2 = .bool c ∧ H2 = [])
theorem pb {b c : Bool} {H' : List AObj} (h : b = c) : PB c (.bool b) H' := ⟨[], [], .bool c, Sel.none, h ▸ Le.refl _, rfl, rfl⟩

theorem dropD {α : Type} (l : List α) (d : α) (i : Nat) (h : i < l.length) : l.drop i = l.getD i d :: l.drop (i + 1) := by
  rw [List.drop_eq_getElem_cons h]
  simp [List.getD, List.getElem?_eq_getElem h]

theorem memD {α : Type} (l : List α) (d : α) (i : Nat) (h : i < l.length) : l.getD i d ∈ l := by
  simp [List.getD, List.getElem?_eq_getElem h]

theorem succ64 {i : Nat} (h : i ≤ 10000000) : IntKind.wrap .i64 ((i : Int) + 1) = ((i + 1 : Nat) : Int) := by rw [wrap64 (by omega) (by omega)]; simp
abbrev lim : Nat := 1000000

/-! ### spans -/

def chkS (e : Int) : List Span → Bool
  | [] => true
  | x :: r => if x.1 ≤ e ∨ x.2 ≤ x.1 ∨ 1000000000 < x.2 then false else chkS x.2 r
def spanOk (l : List Span) : Bool := chkS (-1) l

theorem chk3 {l : List Span} {c : Bool} (hl : l.length ≤ lim) : ∀ (m i : Nat) (e : Int), m + i = l.length → chkS e (l.drop i) = c →
    AWP Try.prog 31 0 c256_3 [(3, .int .i64 e), (6, .sl 2 (.map encS (0, 0) l) .none), (7, .int .i64 l.length), (8, .int .i64 i)] [] (q256_2 0 (PB c)) := by
  intro m
  induction m with
  | zero =>
    intro i e hm h
    refine v256_3 _ _ _ _ _ _ (condD (fun hc => by omega) fun _ => pb ?_)
    rw [List.drop_eq_nil_of_le (by omega)] at h
    exact h
  | succ m ih =>
    intro i e hm h
    rw [dropD l (0, 0) i (by omega)] at h
    simp only [chkS] at h
    refine v256_3 _ _ _ _ _ _ (condD (fun hc => needJ ⟨by omega, by omega⟩ ?_) fun hc => by omega)
    rw [Int.toNat_natCast]
    generalize l.getD i (0, 0) = x at h ⊢
    refine condD (fun h1 => pb ?_) fun h1 => condD (fun h2 => pb ?_) fun h2 => condD (fun h3 => pb ?_) fun h3 => ?_
    · rw [if_pos (.inl h1)] at h; exact h
    · rw [if_pos (.inr (.inl h2))] at h; exact h
    · rw [if_pos (.inr (.inr h3))] at h; exact h
    · rw [if_neg (by omega)] at h
      rw [succ64 (by unfold lim at hl; omega)]
      exact AWP.shape [] [(3, .int .i64 x.2), (6, .sl 2 (.map encS (0, 0) l) .none), (7, .int .i64 l.length), (8, .int .i64 (i + 1 : Nat))] [] Sel.none ⟨rfl, Le.refl _, rfl, Le.refl _, rfl, Le.refl _, rfl, Le.refl _, trivial⟩ (ih (i + 1) x.2 (by omega) h)

theorem spanCheck_spec (l : List Span) (hl : l.length ≤ lim) (H : List AObj) : ASpec Try.prog 256 [.sl 2 (.map encS (0, 0) l) .none] H (fun r H' => r = .bool (spanOk l) ∧ H' = H) :=
  ASpec.pureH H (ASpec.sel (s256 _ _ (chk3 hl l.length 0 (-1) (by omega) rfl))) _ _ rfl rfl

/-! ### needs -/

/-! ### manifests -/

/-! ### are they large? -/

end C
end

section
/- Sets of places as spans: plain laws. -/

set_option linter.unusedVariables false
set_option linter.unusedSimpArgs false
open Go Go.Ab Go.Proofs V S T C
namespace Sp

def inS (s : Span) (p : Int) : Bool := decide (s.1 ≤ p ∧ p < s.2)
def hasS (l : List Span) (p : Int) : Bool := l.any (fun s => inS s p)

theorem hasS_nil (p : Int) : hasS [] p = false := rfl
theorem hasS_cons (x : Span) (l : List Span) (p : Int) : hasS (x :: l) p = (inS x p || hasS l p) := rfl
theorem hasS_append (a b : List Span) (p : Int) : hasS (a ++ b) p = (hasS a p || hasS b p) := by simp [hasS]
theorem inS_iff {s : Span} {p : Int} : inS s p = true ↔ s.1 ≤ p ∧ p < s.2 := by simp [inS]
theorem inS_false {s : Span} {p : Int} : inS s p = false ↔ ¬ (s.1 ≤ p ∧ p < s.2) := by simp [inS]

theorem chkS_cons {e : Int} {x : Span} {r : List Span} (h : chkS e (x :: r) = true) : e < x.1 ∧ x.1 < x.2 ∧ x.2 ≤ 1000000000 ∧ chkS x.2 r = true := by
  simp only [chkS] at h
  split at h
  · cases h
  · exact ⟨by omega, by omega, by omega, h⟩
theorem chkS_mk {e : Int} {x : Span} {r : List Span} (h1 : e < x.1) (h2 : x.1 < x.2) (h3 : x.2 ≤ 1000000000) (h4 : chkS x.2 r = true) : chkS e (x :: r) = true := by
  simp only [chkS]
  rw [if_neg (by omega)]; exact h4
theorem chkS_low : ∀ {e : Int} {l : List Span} {p : Int}, chkS e l = true → p ≤ e → hasS l p = false
  | _, [], _, _, _ => rfl
  | e, x :: r, p, h, hp => by
    obtain ⟨h1, h2, h3, h4⟩ := chkS_cons h
    rw [hasS_cons, chkS_low h4 (by omega), inS_false.2 (by omega)]; rfl
theorem chkS_top : ∀ {e : Int} {l : List Span} {p : Int}, chkS e l = true → 1000000000 ≤ p → hasS l p = false
  | _, [], _, _, _ => rfl
  | e, x :: r, p, h, hp => by
    obtain ⟨h1, h2, h3, h4⟩ := chkS_cons h
    rw [hasS_cons, chkS_top h4 hp, inS_false.2 (by omega)]; rfl
/-- sets that have the same places are one -/
theorem ext : ∀ {a b : List Span} {e e' : Int}, chkS e a = true → chkS e' b = true → (∀ p, hasS a p = hasS b p) → a = b
  | [], [], _, _, _, _, _ => rfl
  | [], y :: t, _, _, _, hb, h => by
    obtain ⟨h1, h2, h3, h4⟩ := chkS_cons hb
    have := h y.1
    rw [hasS_cons, inS_iff.2 (by omega)] at this
    cases this
  | x :: r, [], _, _, ha, _, h => by
    obtain ⟨h1, h2, h3, h4⟩ := chkS_cons ha
    have := h x.1
    rw [hasS_cons, inS_iff.2 (by omega)] at this
    cases this
  | x :: r, y :: t, e, e', ha, hb, h => by
    obtain ⟨a1, a2, a3, a4⟩ := chkS_cons ha
    obtain ⟨b1, b2, b3, b4⟩ := chkS_cons hb
    have key : ∀ p, p ≤ x.2 → p ≤ y.2 → inS x p = inS y p := by
      intro p h1 h2
      have := h p
      rw [hasS_cons, hasS_cons, chkS_low a4 h1, chkS_low b4 h2, Bool.or_false, Bool.or_false] at this
      exact this
    have f1 : x.1 = y.1 := by
      by_cases h1 : x.1 < y.1
      · have := key x.1 (by omega) (by omega)
        rw [inS_iff.2 (by omega), eq_comm, inS_iff] at this; omega
      · by_cases h2 : y.1 < x.1
        · have := key y.1 (by omega) (by omega)
          rw [eq_comm, inS_iff.2 (by omega), eq_comm, inS_iff] at this; omega
        · omega
    have f2 : x.2 = y.2 := by
      by_cases h1 : x.2 < y.2
      · have := key x.2 (by omega) (by omega)
        rw [eq_comm, inS_iff.2 (by omega), eq_comm, inS_iff] at this; omega
      · by_cases h2 : y.2 < x.2
        · have := key y.2 (by omega) (by omega)
          rw [inS_iff.2 (by omega), eq_comm, inS_iff] at this; omega
        · omega
    have hxy : x = y := Prod.ext f1 f2
    subst hxy
    rw [ext a4 b4 (fun p => ?_)]
    by_cases hp : p ≤ x.2
    · rw [chkS_low a4 hp, chkS_low b4 hp]
    · have := h p
      rw [hasS_cons, hasS_cons, inS_false.2 (by omega), Bool.false_or, Bool.false_or] at this
      exact this

/-! ### one more span behind -/

/-- the last span's end; 'e' of none -/
def lastS (e : Int) : List Span → Int
  | [] => e
  | x :: r => lastS x.2 r
theorem lastS_append (e : Int) (x : Span) : ∀ (l : List Span) (e : Int), lastS e (l ++ [x]) = x.2
  | [], e => rfl
  | y :: r, e => lastS_append e x r y.2
theorem chkS_append : ∀ {l : List Span} {e : Int} {x : Span}, chkS e l = true → lastS e l < x.1 → x.1 < x.2 → x.2 ≤ 1000000000 → chkS e (l ++ [x]) = true
  | [], e, x, _, h1, h2, h3 => chkS_mk h1 h2 h3 rfl
  | y :: r, e, x, h, h1, h2, h3 => by
    obtain ⟨a1, a2, a3, a4⟩ := chkS_cons h
    exact chkS_mk a1 a2 a3 (chkS_append a4 h1 h2 h3)
theorem chkS_front : ∀ {l : List Span} {e : Int} {x : Span}, chkS e (l ++ [x]) = true → chkS e l = true ∧ lastS e l < x.1 ∧ x.1 < x.2 ∧ x.2 ≤ 1000000000
  | [], e, x, h => by
    obtain ⟨a1, a2, a3, a4⟩ := chkS_cons h
    exact ⟨rfl, a1, a2, a3⟩
  | y :: r, e, x, h => by
    obtain ⟨a1, a2, a3, a4⟩ := chkS_cons h
    obtain ⟨b1, b2, b3, b4⟩ := chkS_front a4
    exact ⟨chkS_mk a1 a2 a3 b1, b2, b3, b4⟩

/-- what add does -/
def addS (l : List Span) (s : Span) : List Span :=
  if 0 < l.length ∧ s.1 ≤ (l.getD (l.length - 1) (0, 0)).2 then l.take (l.length - 1) ++ [((l.getD (l.length - 1) (0, 0)).1, max (l.getD (l.length - 1) (0, 0)).2 s.2)] else l ++ [s]

theorem split_last (l : List Span) (h : 0 < l.length) : l = l.take (l.length - 1) ++ [l.getD (l.length - 1) (0, 0)] := by
  have h1 := List.take_append_drop (l.length - 1) l
  rw [dropD l (0, 0) (l.length - 1) (by omega), List.drop_eq_nil_of_le (by omega)] at h1
  exact h1.symm

/-- a set that ends no later than a place, and one more span from there on -/
theorem addS_ok {l : List Span} {at_ to : Int} (h : chkS (-1) l = true) (he : lastS (-1) l ≤ at_) (h0 : 0 ≤ at_) (h1 : at_ < to) (h2 : to ≤ 1000000000) :
    chkS (-1) (addS l (at_, to)) = true ∧ lastS (-1) (addS l (at_, to)) = to ∧ ∀ p, hasS (addS l (at_, to)) p = (hasS l p || inS (at_, to) p) := by
  unfold addS
  split
  · rename_i hc
    have hl := split_last l hc.1
    generalize l.take (l.length - 1) = r at hl ⊢
    generalize l.getD (l.length - 1) (0, 0) = x at hl hc ⊢
    subst hl
    rw [lastS_append (-1)] at he
    obtain ⟨a1, a2, a3, a4⟩ := chkS_front h
    have hx : max x.2 to = to := by omega
    have hxa : x.2 = at_ := by have := hc.2; simp only at this; omega
    simp only [hx]
    refine ⟨chkS_append a1 a2 (by simp only; omega) h2, lastS_append (-1) _ _ _, fun p => ?_⟩
    rw [hasS_append, hasS_append, hasS_cons, hasS_cons, hasS_nil, Bool.or_false, Bool.or_false, Bool.or_assoc]
    congr 1
    rw [Bool.eq_iff_iff, Bool.or_eq_true, inS_iff, inS_iff, inS_iff]
    simp only; omega
  · rename_i hc
    refine ⟨chkS_append h ?_ h1 h2, lastS_append (-1) _ _ _, fun p => ?_⟩
    · cases hz : l with
      | nil => simp only [lastS]; omega
      | cons y t =>
        have hpos : 0 < l.length := by rw [hz]; simp
        have hl := split_last l hpos
        have : lastS (-1) l = (l.getD (l.length - 1) (0, 0)).2 := by
          conv => lhs; rw [hl]
          exact lastS_append (-1) _ _ _
        rw [← hz, this]
        simp only [hpos, true_and, Int.not_le] at hc
        exact hc
    · rw [hasS_append, hasS_cons, hasS_nil, Bool.or_false]

/-! ### where a set changes -/

/-- how many spans end at a place, or ahead of it -/
def aftS (p : Int) : List Span → Nat
  | [] => 0
  | x :: r => if x.2 ≤ p then aftS p r + 1 else 0
theorem aftS_le (p : Int) : ∀ l : List Span, aftS p l ≤ l.length
  | [] => Nat.le_refl _
  | x :: r => by
    simp only [aftS]
    split
    · have := aftS_le p r; simp; omega
    · simp
theorem aftS_lt (p : Int) : ∀ (l : List Span) (i : Nat), i < aftS p l → (l.getD i (0, 0)).2 ≤ p
  | [], i, h => by simp [aftS] at h
  | x :: r, i, h => by
    simp only [aftS] at h
    split at h
    · rename_i hx
      match i, h with
      | 0, _ => exact hx
      | i + 1, h => exact aftS_lt p r i (by omega)
    · omega
theorem chkS_rise : ∀ {l : List Span} {e : Int}, chkS e l = true → ∀ i, i < l.length → e < (l.getD i (0, 0)).1 ∧ (l.getD i (0, 0)).1 < (l.getD i (0, 0)).2 ∧ (l.getD i (0, 0)).2 ≤ 1000000000 ∧ ∀ j, j < i → (l.getD j (0, 0)).2 < (l.getD i (0, 0)).1
  | [], e, _, i, hi => by simp at hi
  | x :: r, e, h, i, hi => by
    obtain ⟨a1, a2, a3, a4⟩ := chkS_cons h
    match i, hi with
    | 0, _ => exact ⟨a1, a2, a3, fun j hj => by omega⟩
    | i + 1, hi =>
      obtain ⟨b1, b2, b3, b4⟩ := chkS_rise a4 i (by simpa using hi)
      simp only [List.getD_cons_succ]
      refine ⟨by omega, b2, b3, fun j hj => ?_⟩
      match j, hj with
      | 0, _ => exact b1
      | j + 1, hj => exact b4 j (by omega)
theorem aftS_at (p : Int) : ∀ (l : List Span), aftS p l < l.length → p < (l.getD (aftS p l) (0, 0)).2
  | [], h => by simp at h
  | x :: r, h => by
    simp only [aftS] at h ⊢
    split
    · rename_i hx
      rw [if_pos hx] at h
      exact aftS_at p r (by simpa using h)
    · rename_i hx
      simp only [List.getD_cons_zero]; omega
theorem aftS_ge {l : List Span} {e p : Int} (hs : chkS e l = true) {i : Nat} (h : aftS p l ≤ i) (hi : i < l.length) : p < (l.getD i (0, 0)).2 := by
  have h0 := aftS_at p l (by omega)
  rcases Nat.eq_or_lt_of_le h with e1 | e1
  · rw [← e1]; exact h0
  · obtain ⟨_, h2, _, h4⟩ := chkS_rise hs i hi
    have := h4 _ e1
    omega

theorem hasS_aft : ∀ {l : List Span} {e : Int} {p : Int}, chkS e l = true → (hasS l p = true ↔ aftS p l < l.length ∧ (l.getD (aftS p l) (0, 0)).1 ≤ p)
  | [], e, p, _ => by simp [hasS]
  | x :: r, e, p, h => by
    obtain ⟨a1, a2, a3, a4⟩ := chkS_cons h
    rw [hasS_cons, Bool.or_eq_true]
    by_cases hx : x.2 ≤ p
    · have e1 : aftS p (x :: r) = aftS p r + 1 := by simp only [aftS, if_pos hx]
      rw [e1, hasS_aft a4, inS_iff]
      simp only [List.length_cons, List.getD_cons_succ, Nat.add_lt_add_iff_right]
      constructor
      · rintro (h | h)
        · omega
        · exact h
      · exact .inr
    · have e1 : aftS p (x :: r) = 0 := by simp only [aftS, if_neg hx]
      rw [e1, inS_iff]
      simp only [List.length_cons, List.getD_cons_zero]
      constructor
      · rintro (h | h)
        · exact ⟨by omega, h.1⟩
        · by_cases h1 : x.1 ≤ p
          · exact ⟨by omega, h1⟩
          · rw [chkS_low a4 (by omega)] at h; cases h
      · rintro ⟨_, h1⟩; exact .inl ⟨h1, by omega⟩

/-- where the set changes next -/
def nextS (l : List Span) (p : Int) : Int :=
  if aftS p l = l.length then 1000000000 else if p < (l.getD (aftS p l) (0, 0)).1 then (l.getD (aftS p l) (0, 0)).1 else (l.getD (aftS p l) (0, 0)).2

theorem nextS_gt {l : List Span} {e p : Int} (hs : chkS e l = true) (hp : p < 1000000000) : p < nextS l p ∧ nextS l p ≤ 1000000000 := by
  unfold nextS
  split
  · exact ⟨hp, Int.le_refl _⟩
  · rename_i h
    have := aftS_le p l
    obtain ⟨h1, h2, h3, _⟩ := chkS_rise hs (aftS p l) (by omega)
    have h0 := aftS_at p l (by omega)
    split
    · omega
    · omega

theorem nextS_same : ∀ {l : List Span} {e p q : Int}, chkS e l = true → p ≤ q → q < nextS l p → hasS l q = hasS l p
  | [], e, p, q, _, _, _ => rfl
  | x :: r, e, p, q, h, h1, h2 => by
    obtain ⟨a1, a2, a3, a4⟩ := chkS_cons h
    rw [hasS_cons, hasS_cons]
    by_cases hx : x.2 ≤ p
    · have e2 : nextS (x :: r) p = nextS r p := by
        simp only [nextS, aftS, if_pos hx, List.length_cons, List.getD_cons_succ, Nat.add_right_cancel_iff]
      rw [e2] at h2
      rw [nextS_same a4 h1 h2, inS_false.2 (by omega), inS_false.2 (by omega)]
    · have e2 : nextS (x :: r) p = if p < x.1 then x.1 else x.2 := by
        simp only [nextS, aftS, if_neg hx, List.length_cons, List.getD_cons_zero]
        rw [if_neg (by omega)]
      rw [e2] at h2
      rw [chkS_low a4 (show p ≤ x.2 by omega)]
      split at h2
      · rw [chkS_low a4 (show q ≤ x.2 by omega), inS_false.2 (by omega), inS_false.2 (by omega)]
      · rw [chkS_low a4 (show q ≤ x.2 by omega), inS_iff.2 (by omega), inS_iff.2 (by omega)]

/-! ### the set of what a function keeps -/

/-- l has just what f keeps, below a place -/
def Kept (f : Int → Bool) (at_ : Int) (l : List Span) : Prop := chkS (-1) l = true ∧ lastS (-1) l ≤ at_ ∧ ∀ p, hasS l p = (decide (0 ≤ p ∧ p < at_) && f p)

theorem kept_nil (f : Int → Bool) : Kept f 0 [] := ⟨rfl, by simp [lastS], fun p => by
  rw [hasS_nil, decide_eq_false (by omega)]; rfl⟩

theorem kept_put {f : Int → Bool} {at_ to : Int} {l : List Span} (h : Kept f at_ l) (h0 : 0 ≤ at_) (h1 : at_ < to) (h2 : to ≤ 1000000000) (hf : ∀ q, at_ ≤ q → q < to → f q = true) : Kept f to (addS l (at_, to)) := by
  obtain ⟨a, b, c⟩ := h
  obtain ⟨x, y, z⟩ := addS_ok a b h0 h1 h2
  refine ⟨x, by omega, fun p => ?_⟩
  rw [z, c]
  by_cases hp : at_ ≤ p ∧ p < to
  · rw [inS_iff.2 hp, Bool.or_true, hf p hp.1 hp.2, decide_eq_true (by omega)]; rfl
  · rw [inS_false.2 hp, Bool.or_false]
    congr 1
    rw [Bool.eq_iff_iff, decide_eq_true_iff, decide_eq_true_iff]; omega
theorem kept_skip {f : Int → Bool} {at_ to : Int} {l : List Span} (h : Kept f at_ l) (h1 : at_ ≤ to) (hf : ∀ q, at_ ≤ q → q < to → f q = false) : Kept f to l := by
  obtain ⟨a, b, c⟩ := h
  refine ⟨a, by omega, fun p => ?_⟩
  rw [c]
  by_cases hp : at_ ≤ p ∧ p < to
  · rw [hf p hp.1 hp.2]; simp
  · congr 1
    rw [Bool.eq_iff_iff, decide_eq_true_iff, decide_eq_true_iff]; omega
theorem kept_one {f : Int → Bool} {l l' : List Span} (h : Kept f 1000000000 l) (h' : Kept f 1000000000 l') : l = l' := ext h.1 h'.1 (fun p => by rw [h.2.2, h'.2.2])
end Sp
end

section
/- Printed: what the code of functions 184, 264, 172, 270, 271, 273, 272, 276, 275, 274, 181, 326, 277 asks for, by the framework's own reading of it; each line is checked against the code. -/

set_option linter.unusedVariables false
set_option maxRecDepth 100000
set_option maxHeartbeats 4000000
open Go Go.Ab Go.Proofs
namespace W
noncomputable section

noncomputable def updC (args : List AV) (H : List AObj) (p e : Int) : List AObj := match args with
  | .ptr c _ :: _ => match H[c]? with
    | some (.cells [.ptr id off]) => V.upd3 [.ptr id off] H p e
    | _ => H
  | _ => H
noncomputable def tl (args : List AV) : List AV := match args with
  | _ :: r => r
  | _ => []
noncomputable def retW : List (Nat × Ret) := [
  (9039, ⟨Unit, fun _ _ _ => .bool true, fun _ H _ => H⟩),
  (181, ⟨T.Mani × Int, fun _ _ x => .tup [.agg (T.encM x.1), .int .i64 x.2], fun _ H _ => H⟩),
  (277, ⟨T.Mani × Int, fun _ _ x => .tup [.agg (T.encM x.1), .int .i64 x.2], fun _ H _ => H⟩),
  (184, ⟨List UInt8, fun _ _ x => .sl 1 (.map encB 0 x) .none, fun _ H _ => H⟩),
  (172, ⟨ByteArray, fun _ _ x => .str x, fun _ H _ => H⟩),
  (270, ⟨ByteArray × Int × Int, fun _ _ x => .str x.1, fun a H x => updC a H x.2.1 x.2.2⟩),
  (271, ⟨T.Span × Int × Int, fun _ _ x => .agg (T.encS x.1), fun a H x => updC a H x.2.1 x.2.2⟩),
  (272, ⟨T.Need × Int × Int, fun _ _ x => .agg (T.encN x.1), fun a H x => updC (tl a) H x.2.1 x.2.2⟩),
  (275, ⟨T.Rel × Int × Int, fun _ _ x => .agg (T.encR x.1), fun a H x => updC a H x.2.1 x.2.2⟩),
  (273, ⟨List T.Span × Int × Int, fun _ _ x => .sl 2 (.map T.encS (0, 0) x.1) .none, fun a H x => V.upd3 a H x.2.1 x.2.2⟩),
  (276, ⟨List T.Need × Int × Int, fun _ _ x => .sl 2 (.map T.encN ([], []) x.1) .none, fun a H x => V.upd3 a H x.2.1 x.2.2⟩),
  (274, ⟨List T.Rel × Int × Int, fun _ _ x => .sl 2 (.map T.encR (0, []) x.1) .none, fun a H x => V.upd3 a H x.2.1 x.2.2⟩),
  (326, ⟨List T.Need × ByteArray × Int, fun _ _ x => .sl 2 (.map T.encN ([], []) x.1) .none, fun a H x => V.upd2 a H x.2.1 x.2.2⟩),
  (264, ⟨ByteArray, fun _ _ x => .str x, fun _ H _ => H⟩)]
noncomputable def rets : FuncId → List Ret := lookupR (retW ++ C.retC ++ V.retL)

-- 184
noncomputable def l326 : Nat → List Nat
  | 4 => [0, 3, 4, 5]
  | 9 => [0, 3, 4, 5, 6, 7, 8]
  | _ => []
noncomputable def u326 : Nat → Bool
  | _ => false
noncomputable def m326 : Nat → Bool
  | _ => false
noncomputable def g326 : Cfg := { N := 47, live := l326, cut := u326, mu := m326, ret := rets }
noncomputable def c326 : Go.Code := Go.Ab.bodyOf Go.Proofs.Try.f326
noncomputable def q326_0 : Nat → (AV → List AObj → Prop) → AQ := fun (n : Nat) (Post : AV → List AObj → Prop) => endQ Try.prog (resultsOf Try.f326) Post
noncomputable def q326_1 : Nat → (AV → List AObj → Prop) → AQ := fun (n : Nat) (Post : AV → List AObj → Prop) => seqQ (fun (s' : Slots) (H' : List AObj) => awp Try.prog g326 n (codeSnd (codeSnd (codeSnd (codeSnd c326)))) s' H' (q326_0 n Post)) (q326_0 n Post)
noncomputable def q326_2 : Nat → (AV → List AObj → Prop) → AQ := fun (n : Nat) (Post : AV → List AObj → Prop) => blockQ 0 (q326_1 n Post)
noncomputable def c326_4 : Go.Code := codeFst (codeSnd (codeFst (codeSnd (codeSnd (codeSnd c326)))))
noncomputable def q326_3 : Nat → (AV → List AObj → Prop) → AQ := fun (n : Nat) (Post : AV → List AObj → Prop) => loopQ Try.prog 47 n c326_4 (q326_2 n Post) (Cfg.live g326)
noncomputable def q326_4 : Nat → (AV → List AObj → Prop) → AQ := fun (n : Nat) (Post : AV → List AObj → Prop) => seqQ (fun (s' : Slots) (H' : List AObj) => awp Try.prog g326 n (codeSnd (codeSnd (codeFst c326_4))) s' H' (q326_3 n Post)) (q326_3 n Post)
noncomputable def q326_5 : Nat → (AV → List AObj → Prop) → AQ := fun (n : Nat) (Post : AV → List AObj → Prop) => blockQ 1 (q326_4 n Post)
noncomputable def q326_6 : Nat → (AV → List AObj → Prop) → AQ := fun (n : Nat) (Post : AV → List AObj → Prop) => seqQ (fun (s' : Slots) (H' : List AObj) => awp Try.prog g326 n (codeSnd (codeSnd (codeSnd (codeFst (codeFst (codeSnd (codeFst c326_4))))))) s' H' (q326_5 n Post)) (q326_5 n Post)
noncomputable def q326_7 : Nat → (AV → List AObj → Prop) → AQ := fun (n : Nat) (Post : AV → List AObj → Prop) => blockQ 2 (q326_6 n Post)
noncomputable def c326_9 : Go.Code := codeFst (codeSnd (codeFst (codeSnd (codeSnd (codeFst (codeFst (codeSnd (codeFst c326_4))))))))
theorem v326_4 : ∀ (s : ByteArray) (e : Int) (acc : List T.Need) (n i : Int) (n_1 : Nat) (Post : AV → List AObj → Prop),
  condP (decide (i < n))
      (ASpec Try.prog 148 [AV.ptr 0 0, AV.int IntKind.i64 (24 : Int)] [AObj.cells [AV.str s, AV.int IntKind.i64 e], AObj.tok] fun (r : AV) (H' : List AObj) =>
        ∃ (x : ByteArray × ByteArray × Int),
        r = AV.str (Prod.fst x) ∧
        H' = [AObj.cells [AV.str (Prod.fst (Prod.snd x)), AV.int IntKind.i64 (Prod.snd (Prod.snd x))], AObj.tok] ∧
        ASpec Try.prog 147 [AV.ptr 0 0, AV.int IntKind.i64 (6 : Int)]
        [AObj.cells [AV.str (Prod.fst (Prod.snd x)), AV.int IntKind.i64 (Prod.snd (Prod.snd x))], AObj.tok, AObj.cells [AV.str (Prod.fst x), AV.sl 0 (Seq.raw []) Tip.nil]]
        fun (r : AV) (H' : List AObj) =>
        ∃ (x_1 : Int × ByteArray × Int),
        r = AV.int IntKind.i64 (Prod.fst x_1) ∧
        H' =
        [AObj.cells [AV.str (Prod.fst (Prod.snd x_1)), AV.int IntKind.i64 (Prod.snd (Prod.snd x_1))], AObj.tok,
        AObj.cells [AV.str (Prod.fst x), AV.sl 0 (Seq.raw []) Tip.nil]] ∧
        AWP Try.prog 47 n_1 c326_9
        [(0, AV.ptr 0 0), (3, AV.sl 2 (Seq.map T.encN ([], []) acc) (Tip.tok 1)), (4, AV.int IntKind.i64 n),
        (5, AV.int IntKind.i64 i), (6, AV.ptr 2 0), (7, AV.int IntKind.i64 (Prod.fst x_1)), (8, AV.int IntKind.i64 (0 : Int))]
        [AObj.cells [AV.str (Prod.fst (Prod.snd x_1)), AV.int IntKind.i64 (Prod.snd (Prod.snd x_1))], AObj.tok, AObj.cells [AV.str (Prod.fst x), AV.sl 0 (Seq.raw []) Tip.nil]]
        (q326_7 n_1 Post))
      (Post (AV.sl 2 (Seq.map T.encN ([], []) acc) (Tip.tok 1)) [AObj.cells [AV.str s, AV.int IntKind.i64 e], AObj.tok]) →
    AWP Try.prog 47 n_1 c326_4
      [(0, AV.ptr 0 0), (3, AV.sl 2 (Seq.map T.encN ([], []) acc) (Tip.tok 1)), (4, AV.int IntKind.i64 n), (5, AV.int IntKind.i64 i)]
      [AObj.cells [AV.str s, AV.int IntKind.i64 e], AObj.tok] (q326_2 n_1 Post) := fun s e acc n i n Post h => Go.Ab.AWP.loop' g326 (Cfg.live g326) c326_4 (by kernel_rfl) (by kernel_rfl) (Go.Ab.kc (by kernel_rfl) h)
theorem v326_9 : ∀ (s : ByteArray) (e : Int) (acc : List T.Need) (n i : Int) (nm : ByteArray) (sp : List T.Span) (k j : Int) (n_1 : Nat) (Post : AV → List AObj → Prop),
  condP (decide (j < k))
      (ASpec Try.prog 147 [AV.ptr 0 0, AV.int IntKind.i64 (1000000000 : Int)]
        [AObj.cells [AV.str s, AV.int IntKind.i64 e], AObj.tok, AObj.cells [AV.str nm, AV.sl 2 (Seq.map T.encS ((0 : Int), (0 : Int)) sp) (Tip.tok 3)], AObj.tok]
        fun (r : AV) (H' : List AObj) =>
        ∃ (x : Int × ByteArray × Int),
        r = AV.int IntKind.i64 (Prod.fst x) ∧
        H' =
        [AObj.cells [AV.str (Prod.fst (Prod.snd x)), AV.int IntKind.i64 (Prod.snd (Prod.snd x))], AObj.tok,
        AObj.cells [AV.str nm, AV.sl 2 (Seq.map T.encS ((0 : Int), (0 : Int)) sp) (Tip.tok 3)], AObj.tok] ∧
        ASpec Try.prog 147 [AV.ptr 0 0, AV.int IntKind.i64 (1000000000 : Int)]
        [AObj.cells [AV.str (Prod.fst (Prod.snd x)), AV.int IntKind.i64 (Prod.snd (Prod.snd x))], AObj.tok,
        AObj.cells [AV.str nm, AV.sl 2 (Seq.map T.encS ((0 : Int), (0 : Int)) sp) (Tip.tok 3)], AObj.tok]
        fun (r : AV) (H' : List AObj) =>
        ∃ (x_1 : Int × ByteArray × Int),
        r = AV.int IntKind.i64 (Prod.fst x_1) ∧
        H' =
        [AObj.cells [AV.str (Prod.fst (Prod.snd x_1)), AV.int IntKind.i64 (Prod.snd (Prod.snd x_1))], AObj.tok,
        AObj.cells [AV.str nm, AV.sl 2 (Seq.map T.encS ((0 : Int), (0 : Int)) sp) (Tip.tok 3)], AObj.tok] ∧
        needP ((List.length sp + 1) * 16 ≤ 140737488351232)
        (AWP Try.prog 47 n_1 c326_9
        [(0, AV.ptr 0 0), (3, AV.sl 2 (Seq.map T.encN ([], []) acc) (Tip.tok 1)), (4, AV.int IntKind.i64 n),
        (5, AV.int IntKind.i64 i), (6, AV.ptr 2 0), (7, AV.int IntKind.i64 k),
        (8, AV.int IntKind.i64 (IntKind.wrap IntKind.i64 (j + (1 : Int))))]
        [AObj.cells [AV.str (Prod.fst (Prod.snd x_1)), AV.int IntKind.i64 (Prod.snd (Prod.snd x_1))], AObj.tok,
        AObj.cells
        [AV.str nm,
        AV.sl 2
        (Seq.app (Seq.map T.encS ((0 : Int), (0 : Int)) sp)
        (Seq.raw [[AV.int IntKind.i64 (Prod.fst x), AV.int IntKind.i64 (IntKind.wrap IntKind.i64 (Prod.fst x + Prod.fst x_1))]]))
        (Tip.tok 4)],
        AObj.gone, AObj.tok]
        (q326_7 n_1 Post)))
      (needP ((List.length acc + 1) * 40 ≤ 140737488351232)
        (AWP Try.prog 47 n_1 c326_4
        [(0, AV.ptr 0 0),
        (3,
        AV.sl 2 (Seq.app (Seq.map T.encN ([], []) acc) (Seq.raw [[AV.str nm, AV.sl 2 (Seq.map T.encS ((0 : Int), (0 : Int)) sp) (Tip.tok 3)]])) (Tip.tok 4)),
        (4, AV.int IntKind.i64 n), (5, AV.int IntKind.i64 (IntKind.wrap IntKind.i64 (i + (1 : Int))))]
        [AObj.cells [AV.str s, AV.int IntKind.i64 e], AObj.gone, AObj.cells [AV.str nm, AV.sl 2 (Seq.map T.encS ((0 : Int), (0 : Int)) sp) (Tip.tok 3)], AObj.tok, AObj.tok]
        (q326_2 n_1 Post))) →
    AWP Try.prog 47 n_1 c326_9
      [(0, AV.ptr 0 0), (3, AV.sl 2 (Seq.map T.encN ([], []) acc) (Tip.tok 1)), (4, AV.int IntKind.i64 n), (5, AV.int IntKind.i64 i),
        (6, AV.ptr 2 0), (7, AV.int IntKind.i64 k), (8, AV.int IntKind.i64 j)]
      [AObj.cells [AV.str s, AV.int IntKind.i64 e], AObj.tok, AObj.cells [AV.str nm, AV.sl 2 (Seq.map T.encS ((0 : Int), (0 : Int)) sp) (Tip.tok 3)], AObj.tok] (q326_7 n_1 Post) := fun s e acc n i nm sp k j n Post h => Go.Ab.AWP.loop' g326 (Cfg.live g326) c326_9 (by kernel_rfl) (by kernel_rfl) (Go.Ab.kc (by kernel_rfl) h)

-- 277
end
end W
end

section
/- Manifests as bytes: what the code puts, and the document. -/

set_option linter.unusedVariables false
set_option linter.unusedSimpArgs false
set_option maxRecDepth 100000
open Go Go.Ab Go.Proofs V S T C
namespace W

section
variable {Post : AV → List AObj → Prop}

abbrev sl1 (b : List UInt8) : AV := .sl 1 (.map encB 0 b) .none
noncomputable abbrev slR (l : List Rel) : AV := .sl 2 (.map T.encR (0, []) l) .none
noncomputable abbrev slN (l : List Need) : AV := .sl 2 (.map encN ([], []) l) .none
noncomputable abbrev slS (l : List Span) : AV := .sl 2 (.map encS (0, 0) l) .none

/-! ### the document's -/

end
end W
end

section
/- Manifests out of bytes: what the code reads. -/

set_option linter.unusedVariables false
set_option linter.unusedSimpArgs false
set_option maxRecDepth 100000
open Go Go.Ab Go.Proofs V S T C
namespace W

/-! ### the model -/

theorem lookM_most (s : List UInt8) (most : Int) (h : 0 ≤ most) : (lookM s most).1 ≤ most := by
  cases s with
  | nil => simpa [lookM] using h
  | cons c s =>
    simp only [lookM]
    split
    · exact h
    · split
      · exact h
      · split
        · exact h
        · simp only; omega

/-! ### the walk -/

section
variable {bs : List UInt8} {p : Nat} {e : Int}

theorem leAppT {α : Type} {en : α → List AV} {d : α} (hr : ∀ ρ x, renL ρ (en x) = en x) {acc : List α} {x : α} {sz k j : Nat} {ρ : Nat → Nat} {ex : List AV} (hx : ex = en x) (hk : ρ j = k) :
    Le (.sl sz (.app (.map en d acc) (.raw [ex])) (.tok k)) (AV.ren ρ (.sl sz (.map en d (acc ++ [x])) (.tok j))) := by
  subst hk; subst hx
  refine Le.sl (s' := Seq.ren ρ (.map en d (acc ++ [x]))) ?_ (.inl rfl) (.inl rfl)
  simp [Ab.Seq.toList, Seq.ren, hr]

theorem leNone {α : Type} {en : α → List AV} {d : α} (hr : ∀ ρ x, renL ρ (en x) = en x) {acc : List α} {sz : Nat} {tip : Tip} {ρ : Nat → Nat} :
    Le (.sl sz (.map en d acc) tip) (AV.ren ρ (.sl sz (.map en d acc) .none)) :=
  Le.sl (s' := Seq.ren ρ (.map en d acc)) (by simp [Ab.Seq.toList, Seq.ren, hr]) (.inl rfl) (.inr rfl)

theorem renS (ρ : Nat → Nat) (x : Span) : renL ρ (encS x) = encS x := rfl
end

end W
end

section
/- WirePuts: the bytes of any manifest, and the manifest of any bytes, or what is wrong first, are the document's: the law's function returns true. -/

set_option linter.unusedVariables false
set_option linter.unusedSimpArgs false
set_option maxRecDepth 100000
open Go Go.Ab Go.Proofs V S T C
namespace W

/-! ### the document's model -/

def dSpan (l : List UInt8) (e : Int) : Span × List UInt8 × Int :=
  (((dnumM l e 1000000000).1, IntKind.wrap .i64 ((dnumM l e 1000000000).1 + (dnumM (dnumM l e 1000000000).2.1 (dnumM l e 1000000000).2.2 1000000000).1)),
    (dnumM (dnumM l e 1000000000).2.1 (dnumM l e 1000000000).2.2 1000000000).2)

def dF {α : Type} (one : List UInt8 → Int → α × List UInt8 × Int) : Nat → List UInt8 → Int → List α × List UInt8 × Int
  | 0, l, e => ([], l, e)
  | k + 1, l, e => ((one l e).1 :: (dF one k (one l e).2.1 (one l e).2.2).1, (dF one k (one l e).2.1 (one l e).2.2).2)

def dL {α : Type} (one : List UInt8 → Int → α × List UInt8 × Int) (l : List UInt8) (e most : Int) : List α × List UInt8 × Int :=
  dF one (dnumM l e most).1.toNat (dnumM l e most).2.1 (dnumM l e most).2.2

def dNeed (l : List UInt8) (e : Int) : Need × List UInt8 × Int :=
  (((dstrM l e 24).1, (dL dSpan (dstrM l e 24).2.1 (dstrM l e 24).2.2 6).1), (dL dSpan (dstrM l e 24).2.1 (dstrM l e 24).2.2 6).2)
/-! ### it is the code's -/

/-! ### the document's walk -/

theorem dnumM_len (l : List UInt8) (e most : Int) : (dnumM l e most).2.1.length ≤ l.length := by
  unfold dnumM; split <;> simp
theorem dstrM_len (l : List UInt8) (e most : Int) : (dstrM l e most).2.1.length ≤ l.length := by
  unfold dstrM; repeat' split
  all_goals simp
theorem dnumM_most (l : List UInt8) (e most : Int) (h : 0 ≤ most) : 0 ≤ (dnumM l e most).1 ∧ (dnumM l e most).1 ≤ most := by
  unfold dnumM
  split
  · exact ⟨Int.le_refl _, h⟩
  · exact ⟨(lookM_le _ _).2.1, lookM_most _ _ h⟩
theorem dSpan_len (l : List UInt8) (e : Int) : (dSpan l e).2.1.length ≤ l.length := Nat.le_trans (dnumM_len _ _ _) (dnumM_len _ _ _)
theorem dF_len {α : Type} {one : List UInt8 → Int → α × List UInt8 × Int} (h : ∀ l e, (one l e).2.1.length ≤ l.length) : ∀ (k : Nat) (l : List UInt8) (e : Int), (dF one k l e).2.1.length ≤ l.length
  | 0, l, e => Nat.le_refl _
  | k + 1, l, e => Nat.le_trans (dF_len h k _ _) (h l e)
theorem dL_len {α : Type} {one : List UInt8 → Int → α × List UInt8 × Int} (h : ∀ l e, (one l e).2.1.length ≤ l.length) (l : List UInt8) (e most : Int) : (dL one l e most).2.1.length ≤ l.length :=
  Nat.le_trans (dF_len h _ _ _) (dnumM_len _ _ _)
theorem dNeed_len (l : List UInt8) (e : Int) : (dNeed l e).2.1.length ≤ l.length := Nat.le_trans (dL_len dSpan_len _ _ _) (dstrM_len _ _ _)
section
variable {Post : AV → List AObj → Prop}

theorem q9 {acc : List Need} {n i : Int} {nm : List UInt8} (ha : acc.length ≤ 100) {k : Nat} (hk : k ≤ 100) {R : Need × List UInt8 × Int}
    (K : AWP Try.prog 47 1 c326_4 [(0, .ptr 0 0), (3, .sl 2 (.map encN ([], []) (acc ++ [R.1])) (.tok 1)), (4, .int .i64 n), (5, .int .i64 (IntKind.wrap .i64 (i + 1)))] [dr R.2.1 R.2.2, .tok] (q326_2 1 Post)) :
    ∀ (m j : Nat) (l : List UInt8) (e : Int) (sp : List Span), m + j = k → l.length ≤ 10 * big → sp.length + m ≤ 100 → R = ((nm, sp ++ (dF dSpan m l e).1), (dF dSpan m l e).2) →
    AWP Try.prog 47 1 c326_9 [(0, .ptr 0 0), (3, .sl 2 (.map encN ([], []) acc) (.tok 1)), (4, .int .i64 n), (5, .int .i64 i), (6, .ptr 2 0), (7, .int .i64 k), (8, .int .i64 j)]
      [dr l e, .tok, .cells [.str (B nm), .sl 2 (.map encS (0, 0) sp) (.tok 3)], .tok] (q326_7 1 Post) := by
  intro m
  induction m with
  | zero =>
    intro j l e sp hm hl hs hR
    refine v326_9 _ _ _ _ _ _ _ _ _ _ _ (condD (fun hc => by omega) fun _ => needJ (by omega) ?_)
    simp only [dF, List.append_nil] at hR
    subst hR
    refine AWP.shape [0, 4] [(0, .ptr 0 0), (3, .sl 2 (.map encN ([], []) (acc ++ [(nm, sp)])) (.tok 1)), (4, .int .i64 n), (5, .int .i64 (IntKind.wrap .i64 (i + 1)))] [dr l e, .tok] ?_ ⟨rfl, Le.refl _, rfl, ?_, rfl, Le.refl _, rfl, Le.refl _, trivial⟩ K
    · refine ⟨by decide, rfl, by decide, fun i hi => ?_, fun i hi => .inl ?_⟩
      · match i, hi with
        | 0, _ => rfl
      · match i, hi with
        | 0, _ | 1, _ => rfl
    · exact Le.trans (leAppE (x := (nm, sp)) ⟨Le.refl _, Le.sl rfl (.inl rfl) (.inr rfl), trivial⟩) (Le.refl _)
  | succ m ih =>
    intro j l e sp hm hl hs hR
    refine v326_9 _ _ _ _ _ _ _ _ _ _ _ (condD (fun _ => ?_) fun hc => by omega)
    have h1 := dnumM_len l e 1000000000
    refine ASpec.call (dnum_spec (H := [dr l e, .tok, .cells [.str (B nm), .sl 2 (.map encS (0, 0) sp) (.tok 3)], .tok]) (id := 0) (l := l) (e := e) 1000000000 hl rfl) (Les.refl _)
      ⟨((dnumM l e 1000000000).1, B (dnumM l e 1000000000).2.1, (dnumM l e 1000000000).2.2), rfl, rfl, ?_⟩
    refine ASpec.call (dnum_spec (H := [dr (dnumM l e 1000000000).2.1 (dnumM l e 1000000000).2.2, .tok, .cells [.str (B nm), .sl 2 (.map encS (0, 0) sp) (.tok 3)], .tok]) (id := 0) (l := (dnumM l e 1000000000).2.1) (e := (dnumM l e 1000000000).2.2) 1000000000 (by omega) rfl) (Les.refl _)
      ⟨((dnumM (dnumM l e 1000000000).2.1 (dnumM l e 1000000000).2.2 1000000000).1, B (dnumM (dnumM l e 1000000000).2.1 (dnumM l e 1000000000).2.2 1000000000).2.1, (dnumM (dnumM l e 1000000000).2.1 (dnumM l e 1000000000).2.2 1000000000).2.2), rfl, rfl, needJ (by omega) ?_⟩
    refine AWP.re (ReSt.leCell (id := 2) (cs' := [.str (B nm), .sl 2 (.map encS (0, 0) (sp ++ [(dSpan l e).1])) (.tok 4)]) rfl ⟨Le.refl _, leAppE (Les.refl _), trivial⟩) ?_
    rw [succ64 (by omega)]
    refine AWP.shape [0, 1, 2, 4] [(0, .ptr 0 0), (3, .sl 2 (.map encN ([], []) acc) (.tok 1)), (4, .int .i64 n), (5, .int .i64 i), (6, .ptr 2 0), (7, .int .i64 k), (8, .int .i64 (j + 1 : Nat))]
      [dr (dSpan l e).2.1 (dSpan l e).2.2, .tok, .cells [.str (B nm), .sl 2 (.map encS (0, 0) (sp ++ [(dSpan l e).1])) (.tok 3)], .tok] ?_
      ⟨rfl, Le.refl _, rfl, Le.refl _, rfl, Le.refl _, rfl, Le.refl _, rfl, Le.refl _, rfl, Le.refl _, rfl, Le.refl _, trivial⟩ (ih (j + 1) _ _ _ (by omega) (Nat.le_trans (dSpan_len l e) hl) (by simp; omega) ?_)
    · refine ⟨by decide, rfl, by decide, fun i hi => ?_, fun i hi => .inl ?_⟩
      · match i, hi with
        | 0, _ => rfl
      · match i, hi with
        | 0, _ | 1, _ | 2, _ | 3, _ => rfl
    · rw [hR]; simp [dF]

theorem q4 {n : Nat} (hn : n ≤ 50) : ∀ (m i : Nat) (l : List UInt8) (e : Int) (acc : List Need), m + i = n → l.length ≤ 10 * big → acc.length + m ≤ 100 →
    Post (.sl 2 (.map encN ([], []) (acc ++ (dF dNeed m l e).1)) (.tok 1)) [dr (dF dNeed m l e).2.1 (dF dNeed m l e).2.2, .tok] →
    AWP Try.prog 47 1 c326_4 [(0, .ptr 0 0), (3, .sl 2 (.map encN ([], []) acc) (.tok 1)), (4, .int .i64 n), (5, .int .i64 i)] [dr l e, .tok] (q326_2 1 Post) := by
  intro m
  induction m with
  | zero =>
    intro i l e acc hm hl ha h
    refine v326_4 _ _ _ _ _ _ _ (condD (fun hc => by omega) fun _ => ?_)
    simp only [dF, List.append_nil] at h
    exact h
  | succ m ih =>
    intro i l e acc hm hl ha h
    refine v326_4 _ _ _ _ _ _ _ (condD (fun _ => ?_) fun hc => by omega)
    have h1 := dstrM_len l e 24
    have h2 := dnumM_most (dstrM l e 24).2.1 (dstrM l e 24).2.2 6 (by omega)
    have h3 := dnumM_len (dstrM l e 24).2.1 (dstrM l e 24).2.2 6
    refine ASpec.call (dstr_spec (H := [dr l e, .tok]) (id := 0) (l := l) (e := e) 24 hl rfl) (Les.refl _) ⟨(B (dstrM l e 24).1, B (dstrM l e 24).2.1, (dstrM l e 24).2.2), rfl, rfl, ?_⟩
    refine ASpec.call (dnum_spec (H := [dr (dstrM l e 24).2.1 (dstrM l e 24).2.2, .tok, .cells [.str (B (dstrM l e 24).1), .sl 0 (.raw []) .nil]]) (id := 0) (l := (dstrM l e 24).2.1) (e := (dstrM l e 24).2.2) 6 (by omega) rfl) (Les.refl _)
      ⟨((dnumM (dstrM l e 24).2.1 (dstrM l e 24).2.2 6).1, B (dnumM (dstrM l e 24).2.1 (dstrM l e 24).2.2 6).2.1, (dnumM (dstrM l e 24).2.1 (dstrM l e 24).2.2 6).2.2), rfl, rfl, ?_⟩
    refine AWP.re (ReSt.tokCell (id := 2) (j := 1) (q' := .map encS (0, 0) []) (sz' := 2) rfl rfl (.inl rfl) rfl (.inr rfl)) ?_
    obtain ⟨k, hk⟩ := Int.eq_ofNat_of_zero_le h2.1
    rw [hk]
    refine q9 (nm := (dstrM l e 24).1) (by omega) (k := k) (by omega) (R := dNeed l e) ?_ k 0 _ _ [] (by omega) (by omega) (by simp; omega) ?_
    · rw [succ64 (by omega)]
      refine ih (i + 1) _ _ _ (by omega) (Nat.le_trans (dNeed_len l e) hl) (by simp; omega) ?_
      simp only [dF] at h
      simpa using h
    · rw [dNeed, dL, hk]; rfl

/-! ### are they alike? -/

theorem cons_dec {α : Type} [DecidableEq α] (x y : α) (a b : List α) : decide (x :: a = y :: b) = (decide (x = y) && decide (a = b)) := by
  rw [Bool.eq_iff_iff]; simp

/-! ### the law -/

end
end W
end

section
/- Sets of places: what the code and the document's code compute. -/

set_option linter.unusedVariables false
set_option linter.unusedSimpArgs false
set_option maxRecDepth 100000
open Go Go.Ab Go.Proofs V S T C
open W (sl1 slS slN slR leNone cons_dec renS)
open Sp
namespace Sg

abbrev PA (r0 : AV) : AV → List AObj → Prop := fun r H' => ∃ l H2 r2, Sel 0 l H' H2 ∧ Le r (AV.ren (selR l H'.length) r2) ∧ (r2 = r0 ∧ H2 = [])
theorem pa {r r0 : AV} {H' : List AObj} (h : Le r (AV.ren (selR [] H'.length) r0)) : PA r0 r H' := ⟨[], [], r0, Sel.none, h, rfl, rfl⟩
theorem condQ {a b : Bool} {A B : Prop} (h1 : a = b → A) (h2 : a ≠ b → B) : condP (a == b) A B := by
  by_cases h : a = b
  · rw [beq_iff_eq.2 h]; exact h1 h
  · rw [beq_eq_false_iff_ne.2 h]; exact h2 h

abbrev ok (l : List Span) : Prop := chkS (-1) l = true

theorem chkS_len : ∀ {l : List Span} {e : Int}, chkS e l = true → (l.length : Int) ≤ lastS e l - e
  | [], e, _ => by simp [lastS]
  | x :: r, e, h => by
    obtain ⟨h1, h2, h3, h4⟩ := chkS_cons h
    have := chkS_len h4
    simp only [lastS, List.length_cons]; omega
theorem lastS_top : ∀ {l : List Span} {e : Int}, chkS e l = true → e ≤ 1000000000 → lastS e l ≤ 1000000000
  | [], e, _, h => h
  | x :: r, e, h, _ => by
    obtain ⟨h1, h2, h3, h4⟩ := chkS_cons h
    simp only [lastS]
    exact lastS_top h4 h3
theorem ok_len {l : List Span} (h : ok l) : l.length ≤ 1000000001 := by
  have h1 := chkS_len h
  have h2 := lastS_top h (by omega)
  omega

theorem suc64 {i : Nat} (h : i ≤ 100000000000) : IntKind.wrap .i64 ((i : Int) + 1) = ((i + 1 : Nat) : Int) := by rw [wrap64 (by omega) (by omega)]; simp
theorem pre64 {i : Nat} (h : i ≤ 100000000000) (h1 : 0 < i) : IntKind.wrap .i64 ((i : Int) - 1) = ((i - 1 : Nat) : Int) := by rw [wrap64 (by omega) (by omega)]; omega
theorem mid64 {i j : Nat} (h : i + j ≤ 100000000000) : IntKind.wrap .i64 (Int.fdiv (IntKind.wrap .u64 (IntKind.wrap .i64 ((i : Int) + j))) 2) = (((i + j) / 2 : Nat) : Int) := by
  rw [wrap64 (x := (i : Int) + j) (by omega) (by omega)]
  have e : IntKind.wrap .u64 ((i : Int) + j) = ((i + j : Nat) : Int) := by
    simp only [IntKind.wrap, IntKind.bits, IntKind.signed]
    have e : (2 : Int) ^ 64 = 18446744073709551616 := by decide
    simp only [e, Bool.false_and]
    rw [if_neg (by simp)]
    omega
  rw [e, show Int.fdiv ((i + j : Nat) : Int) 2 = (((i + j) / 2 : Nat) : Int) by rw [Int.fdiv_eq_ediv_of_nonneg _ (by omega)]; omega]
  rw [wrap64 (by omega) (by omega)]

/-! ### where a place stands -/

theorem aftf_spec (x : Span) (p : Int) (H : List AObj) : ASpec Try.prog 367 [.agg (encS x), .int .i64 p] H (fun r H' => r = .int .i64 (if x.2 ≤ p then -1 else 1) ∧ H' = H) := by
  have k : ASpec Try.prog 367 [.agg (encS x), .int .i64 p] [] (fun r H' => r = .int .i64 (if x.2 ≤ p then -1 else 1) ∧ H' = []) :=
    ASpec.sel (s367 _ _ _ (condD (fun h => pa (by rw [if_pos h]; exact Le.refl _)) fun h => pa (by rw [if_neg h]; exact Le.refl _)))
  exact ASpec.pureH H k _ _ rfl rfl

theorem bsf3 {l : List Span} {p : Int} (hs : ok l) : ∀ (m i j : Nat), j - i ≤ m → i ≤ aftS p l → aftS p l ≤ j → j ≤ l.length →
    AWP Try.prog 49 0 c366_3 [(0, slS l), (1, .int .i64 p), (2, .fn 367 []), (8, .int .i64 l.length), (9, .int .i64 i), (10, .int .i64 j)] []
      (q366_2 0 (PA (.tup [.int .i64 (aftS p l : Nat), .bool false]))) := by
  have hl := ok_len hs
  have done : ∀ i : Nat, i = aftS p l → condP (decide ((i : Int) < (l.length : Int))) (needP (0 ≤ (i : Int) ∧ (i : Int) < (l.length : Int)) (ASpec Try.prog 367 [.agg (encS (l.getD (i : Int).toNat (0, 0))), .int .i64 p] []
      (fun r H' => ∃ x : Int, r = .int .i64 x ∧ H' = [] ∧ PA (.tup [.int .i64 (aftS p l : Nat), .bool false]) (.tup [.int .i64 i, .bool (x == 0)]) [])))
      (PA (.tup [.int .i64 (aftS p l : Nat), .bool false]) (.tup [.int .i64 i, .bool false]) []) := by
    rintro i rfl
    refine condD (fun h => needJ ⟨by omega, h⟩ ?_) fun h => pa (Le.refl _)
    refine ASpec.call (aftf_spec _ p _) (Les.refl _) ⟨_, rfl, rfl, pa ?_⟩
    have e : ((if (l.getD ((aftS p l : Nat) : Int).toNat (0, 0)).2 ≤ p then (-1 : Int) else 1) == 0) = false := by split <;> rfl
    rw [e]; exact Le.refl _
  intro m
  induction m with
  | zero =>
    intro i j h1 h2 h3 h4
    exact v366_3 _ _ _ _ _ _ _ (condD (fun hc => by omega) fun _ => done i (by omega))
  | succ m ih =>
    intro i j h1 h2 h3 h4
    refine v366_3 _ _ _ _ _ _ _ (condD (fun hc => needJ (by omega) ?_) fun _ => done i (by omega))
    rw [mid64 (by omega)]
    have hm1 : i ≤ (i + j) / 2 := by omega
    have hm2 : (i + j) / 2 < j := by omega
    refine needJ ⟨by omega, by omega⟩ ?_
    generalize (i + j) / 2 = h at hm1 hm2 ⊢
    rw [Int.toNat_natCast]
    refine ASpec.call (aftf_spec _ p _) (Les.refl _) ⟨_, rfl, rfl, ?_⟩
    by_cases hc : (l.getD h (0, 0)).2 ≤ p
    · rw [if_pos hc]
      refine condD (fun _ => ?_) fun hc => by omega
      rw [suc64 (by omega)]
      refine ih (h + 1) j (by omega) ?_ h3 h4
      rcases Nat.lt_or_ge h (aftS p l) with hk | hk
      · omega
      · have := aftS_ge hs hk (by omega); omega
    · rw [if_neg hc]
      refine condD (fun hc => by omega) fun _ => ?_
      refine ih i h (by omega) h2 ?_ (by omega)
      rcases Nat.lt_or_ge h (aftS p l) with hk | hk
      · exact (hc (aftS_lt p l h hk)).elim
      · exact hk

theorem after_spec (l : List Span) (p : Int) (hs : ok l) (H : List AObj) : ASpec Try.prog 318 [slS l, .int .i64 p] H (fun r H' => r = .int .i64 (aftS p l : Nat) ∧ H' = H) := by
  have k : ASpec Try.prog 318 [slS l, .int .i64 p] [] (fun r H' => r = .int .i64 (aftS p l : Nat) ∧ H' = []) := by
    have k2 : ASpec Try.prog 366 [slS l, .int .i64 p, .fn 367 []] [] (fun r H' => r = .tup [.int .i64 (aftS p l : Nat), .bool false] ∧ H' = []) :=
      ASpec.sel (s366 _ _ _ (bsf3 hs l.length 0 l.length (by omega) (by omega) (aftS_le p l) (by omega)))
    exact s318 _ _ _ (ASpec.call k2 (Les.refl _) ⟨(((aftS p l : Nat) : Int), false), rfl, rfl, rfl, rfl⟩)
  exact ASpec.pureH H k _ _ rfl rfl

theorem has_spec (l : List Span) (p : Int) (hs : ok l) (H : List AObj) : ASpec Try.prog 254 [slS l, .int .i64 p] H (fun r H' => r = .bool (hasS l p) ∧ H' = H) := by
  have k : ASpec Try.prog 254 [slS l, .int .i64 p] [] (fun r H' => r = .bool (hasS l p) ∧ H' = []) := by
    have e := hasS_aft (p := p) hs
    refine s254 _ _ _ (ASpec.call (after_spec l p hs _) (Les.refl _) ⟨_, rfl, rfl, condD (fun h => needJ ⟨by omega, h⟩ ⟨?_, rfl⟩) fun h => ⟨?_, rfl⟩⟩)
    · rw [Int.toNat_natCast]
      congr 1
      rw [Bool.eq_iff_iff, e, decide_eq_true_iff]
      exact ⟨fun h2 => ⟨by omega, h2⟩, fun h2 => h2.2⟩
    · congr 1
      symm
      cases hx : hasS l p with
      | false => rfl
      | true => have := (e.1 hx).1; omega
  exact ASpec.pureH H k _ _ rfl rfl

theorem next_spec (l : List Span) (p : Int) (hs : ok l) (H : List AObj) : ASpec Try.prog 368 [slS l, .int .i64 p] H (fun r H' => r = .int .i64 (nextS l p) ∧ H' = H) := by
  have k : ASpec Try.prog 368 [slS l, .int .i64 p] [] (fun r H' => r = .int .i64 (nextS l p) ∧ H' = []) := by
    have hle := aftS_le p l
    refine s368 _ _ _ (ASpec.call (after_spec l p hs _) (Les.refl _) ⟨_, rfl, rfl, condE (fun h => ⟨?_, rfl⟩) fun h => needJ ⟨by omega, by omega⟩ ?_⟩)
    · rw [nextS, if_pos (by omega)]
    · rw [Int.toNat_natCast]
      refine condD (fun h2 => needJ ⟨by omega, by omega⟩ ⟨?_, rfl⟩) fun h2 => needJ ⟨by omega, by omega⟩ ⟨?_, rfl⟩
      · rw [nextS, if_neg (by omega), if_pos (by omega)]
      · rw [nextS, if_neg (by omega), if_neg (by omega)]
  exact ASpec.pureH H k _ _ rfl rfl

/-! ### one more span -/

noncomputable abbrev arS (o : List Span) : AObj := .arr 2 (.map encS (0, 0) o)

theorem add_nil (s : Span) (H : List AObj) : ASpec Try.prog 369 [.sl 0 (.raw []) .nil, .agg (encS s)] H (fun r H' => r = .msl 2 H.length 0 1 ∧ H' = H ++ [arS [s]]) := by
  have k : ASpec Try.prog 369 [.sl 0 (.raw []) .nil, .agg (encS s)] [] (fun r H' => r = .msl 2 0 0 1 ∧ H' = [arS [s]]) := by
    refine ASpec.arrEnd (ASpec.sel (s369n _ _ (needJ (by omega) (needJ (by omega) ?_))))
    refine ⟨[1], [.arr 2 (.raw [encS s])], .msl 2 0 0 1, Sel.one 1 rfl rfl, Le.refl _, 0, 2, .raw [encS s], .map encS (0, 0) [s], rfl, rfl, rfl, rfl⟩
  exact ASpec.anyH H k _ _ _ rfl rfl rfl

theorem sel01 {a b : AObj} (h : AObj.ren (selR [0] 2) a = a := by rfl) : Sel 1 [0] [a, b] [a] := by
  refine ⟨by decide, rfl, Nat.le_refl _, fun i hi => ?_, fun i hi => .inl ?_⟩
  · match i, hi with
    | 0, _ => rfl
  · match i, hi with
    | 0, _ => simp [h]

theorem add_mem (o : List Span) (s : Span) (ho : o.length ≤ 2000000000) :
    ASpec Try.prog 369 [.msl 2 0 0 o.length, .agg (encS s)] [arS o] (fun r H' => (r = .msl 2 0 0 (addS o s).length ∧ H' = [arS (addS o s)] ∧ (addS o s).length = o.length) ∨ (r = .msl 2 1 0 (addS o s).length ∧ H' = [.gone, arS (addS o s)])) := by
  refine ASpec.sel (ASpec.arrEnd (s369m _ _ _ _ ?_))
  have app : ¬ (0 < o.length ∧ s.1 ≤ (o.getD (o.length - 1) (0, 0)).2) → ∃ id sz q q', ([.gone, .cells (encS s), .arr 2 (.app (.map encS (0, 0) o) (.raw [encS s]))] : List AObj)[id]? = some (.arr sz q) ∧ Seq.toList q' = q.toList ∧
      ∃ l H2 r2, Sel 1 l (([.gone, .cells (encS s), .arr 2 (.app (.map encS (0, 0) o) (.raw [encS s]))] : List AObj).set id (.arr sz q')) H2 ∧ Le (.msl 2 2 0 (o.length + 1)) (AV.ren (selR l (([.gone, .cells (encS s), .arr 2 (.app (.map encS (0, 0) o) (.raw [encS s]))] : List AObj).set id (.arr sz q')).length) r2) ∧
      ((r2 = .msl 2 0 0 (addS o s).length ∧ H2 = [arS (addS o s)] ∧ (addS o s).length = o.length) ∨ (r2 = .msl 2 1 0 (addS o s).length ∧ H2 = [.gone, arS (addS o s)])) := by
    intro hc
    have e : addS o s = o ++ [s] := by rw [addS, if_neg hc]
    refine ⟨2, 2, _, .map encS (0, 0) (o ++ [s]), rfl, by simp [Seq.toList], [0, 2], [.gone, arS (o ++ [s])], .msl 2 1 0 (o.length + 1), ?_, Le.refl _, .inr ⟨?_, ?_⟩⟩
    · refine ⟨by decide, rfl, by decide, fun i hi => ?_, fun i hi => ?_⟩
      · match i, hi with
        | 0, _ => rfl
      · match i, hi with
        | 0, _ => exact .inl rfl
        | 1, _ => exact .inl rfl
    · rw [e]; simp
    · rw [e]
  refine condD (fun h => ?_) fun h => ?_
  · by_cases hz : o.length = 0
    · rw [hz] at h
      have : IntKind.wrap .i64 (((0 : Nat) : Int) - 1) = -1 := by rw [wrap64 (by omega) (by omega)]; rfl
      rw [this] at h; omega
    rw [pre64 (by omega) (by omega), Int.toNat_natCast, Nat.zero_add]
    refine needJ ⟨by omega, by omega⟩ (needJ (by omega) (condD (fun h2 => needJ ⟨by omega, by omega⟩ (needJ (by omega) (needJ ⟨by omega, by omega⟩ (needJ (by omega) ?_)))) fun h2 => needJ ⟨rfl, by omega⟩ (app ?_)))
    · have e : addS o s = o.take (o.length - 1) ++ [((o.getD (o.length - 1) (0, 0)).1, max (o.getD (o.length - 1) (0, 0)).2 s.2)] := by rw [addS, if_pos ⟨by omega, h2⟩]
      have el : (addS o s).length = o.length := by rw [e]; simp; omega
      have em : (max (o.getD (o.length - 1) (0, 0)).2 s.2) = if s.2 > (o.getD (o.length - 1) (0, 0)).2 then s.2 else (o.getD (o.length - 1) (0, 0)).2 := by
        rw [Int.max_def]
        by_cases hx : s.2 > (o.getD (o.length - 1) (0, 0)).2
        · rw [if_pos hx, if_pos (by omega)]
        · rw [if_neg hx]
          by_cases hy : (o.getD (o.length - 1) (0, 0)).2 ≤ s.2
          · rw [if_pos hy]; omega
          · rw [if_neg hy]
      have es : o.set (o.length - 1) ((o.getD (o.length - 1) (0, 0)).1, max (o.getD (o.length - 1) (0, 0)).2 s.2) = addS o s := by
        rw [e, List.set_eq_take_append_cons_drop, if_pos (by omega), show o.length - 1 + 1 = o.length by omega, List.drop_length]
      refine ⟨0, 2, _, .map encS (0, 0) (addS o s), rfl, ?_, [0], [arS (addS o s)], .msl 2 0 0 o.length, sel01, Le.refl _, .inl ⟨by rw [el], rfl, el⟩⟩
      rw [← es, em]
      simp only [Seq.toList, List.map_set]
      rfl
    · rintro ⟨_, h3⟩; exact h2 h3
  · have hz : o.length = 0 := by
      by_cases hz : o.length = 0
      · exact hz
      · rw [pre64 (by omega) (by omega)] at h; omega
    exact needJ ⟨rfl, by omega⟩ (app (by omega))

/-! ### what two sets both have -/

abbrev andF (a b : List Span) (p : Int) : Bool := hasS a p && hasS b p

theorem and_next {a b : List Span} (ha : ok a) (hb : ok b) {p : Int} (hp : p < 1000000000) {to : Int} (ht : to = if nextS b p < nextS a p then nextS b p else nextS a p) :
    p < to ∧ to ≤ 1000000000 ∧ ∀ q, p ≤ q → q < to → andF a b q = andF a b p := by
  have h1 := nextS_gt ha hp
  have h2 := nextS_gt hb hp
  refine ⟨by rw [ht]; split <;> omega, by rw [ht]; split <;> omega, fun q hq1 hq2 => ?_⟩
  have hqa : q < nextS a p := by rw [ht] at hq2; split at hq2 <;> omega
  have hqb : q < nextS b p := by rw [ht] at hq2; split at hq2 <;> omega
  simp only [andF]
  rw [nextS_same ha hq1 hqa, nextS_same hb hq1 hqb]

theorem meet_ex {a b : List Span} (ha : ok a) (hb : ok b) : ∀ (m : Nat) (p : Int) (o : List Span), (1000000000 - p).toNat ≤ m → 0 ≤ p → p ≤ 1000000000 → Kept (andF a b) p o → ∃ o', Kept (andF a b) 1000000000 o'
  | 0, p, o, hm, h0, h1, hk => by
    have : p = 1000000000 := by omega
    subst this; exact ⟨o, hk⟩
  | m + 1, p, o, hm, h0, h1, hk => by
    by_cases hp : p < 1000000000
    · obtain ⟨n1, n2, n3⟩ := and_next ha hb hp rfl
      by_cases hf : andF a b p = true
      · exact meet_ex ha hb m _ _ (by omega) (by omega) n2 (kept_put hk h0 n1 n2 (fun q hq1 hq2 => by rw [n3 q hq1 hq2]; exact hf))
      · exact meet_ex ha hb m _ _ (by omega) (by omega) n2 (kept_skip hk (by omega) (fun q hq1 hq2 => by rw [n3 q hq1 hq2]; simpa using hf))
    · have : p = 1000000000 := by omega
      subst this; exact ⟨o, hk⟩

open Classical in
noncomputable def meetS (a b : List Span) : List Span := if h : ∃ o, Kept (andF a b) 1000000000 o then choose h else []
theorem meet_eq {a b o : List Span} (h : Kept (andF a b) 1000000000 o) : meetS a b = o := by
  have hex : ∃ o, Kept (andF a b) 1000000000 o := ⟨o, h⟩
  rw [meetS, dif_pos hex]
  exact kept_one (Classical.choose_spec hex) h
theorem meet_kept {a b : List Span} (ha : ok a) (hb : ok b) : Kept (andF a b) 1000000000 (meetS a b) := by
  obtain ⟨o, h⟩ := meet_ex ha hb 1000000000 0 [] (by omega) (by omega) (by omega) (kept_nil _)
  rw [meet_eq h]; exact h
theorem meet_ok {a b : List Span} (ha : ok a) (hb : ok b) : ok (meetS a b) := (meet_kept ha hb).1
theorem meet_has {a b : List Span} (ha : ok a) (hb : ok b) (p : Int) : hasS (meetS a b) p = (hasS a p && hasS b p) := by
  rw [(meet_kept ha hb).2.2]
  by_cases hp : 0 ≤ p ∧ p < 1000000000
  · rw [decide_eq_true hp]; rfl
  · rw [decide_eq_false hp, Bool.false_and]
    by_cases h0 : p ≤ -1
    · rw [chkS_low ha h0]; rfl
    · rw [chkS_top ha (by omega)]; rfl

theorem freezeS {n : Nat} {k : Nat} {o : List Span} (hn : n ≤ 1) : ReSt n [(k, .msl 2 0 0 o.length)] [arS o] [(k, slS o)] [.gone] := by
  refine ReSt.freeze (H := [arS o]) (id := 0) (sz := 2) (q := .map encS (0, 0) o) rfl hn (fun d => ?_)
  by_cases hd : d = k
  · subst hd
    refine .inr (.inr ⟨0, o.length, .map encS (0, 0) o, ?_, by simp [Seq.toList], ?_, by simp [Seq.toList, ← List.map_take]⟩)
    · simp [Ab.get]
    · simp [Ab.get]
  · left
    simp only [Ab.get]
    have e : Nat.beq k d = false := by
      cases hx : Nat.beq k d with
      | false => rfl
      | true => exact absurd (Nat.eq_of_beq_eq_true hx).symm hd
    rw [e]; rfl

theorem leS0 {ρ : Nat → Nat} : Le (.sl 0 (.raw []) .nil) (AV.ren ρ (slS [])) := Le.sl (s' := Seq.ren ρ (.map encS (0, 0) [])) rfl (.inr ⟨rfl, fun _ h => by cases h⟩) (.inr rfl)

theorem and_spec (x y : Bool) (H : List AObj) : ASpec Try.prog 320 [.bool x, .bool y] H (fun r H' => r = .bool (x && y) ∧ H' = H) :=
  ASpec.pureH (r0 := .bool (x && y)) H (s320 x y _ (condB (fun h => by rw [h]; exact ⟨rfl, rfl⟩) fun h => by rw [h]; exact ⟨rfl, rfl⟩)) _ _ rfl rfl

section
variable {a b : List Span} (ha : ok a) (hb : ok b)
include ha hb

theorem kept3m : ∀ (m : Nat) (p : Int) (o : List Span), (1000000000 - p).toNat ≤ m → 0 ≤ p → p ≤ 1000000000 → Kept (andF a b) p o →
    AWP Try.prog 34 0 c319_3 [(0, slS a), (1, slS b), (2, .fn 320 []), (7, .msl 2 0 0 o.length), (8, .int .i64 p)] [arS o] (q319_2 0 (PA (slS (meetS a b)))) := by
  have done : ∀ (p : Int) (o : List Span), ¬ p < 1000000000 → p ≤ 1000000000 → Kept (andF a b) p o → AWP Try.prog 34 0 c319_8 [(7, .msl 2 0 0 o.length)] [arS o] (q319_0 0 (PA (slS (meetS a b)))) := by
    intro p o h1 h2 hk
    have : p = 1000000000 := by omega
    subst this
    refine AWP.re (freezeS (by omega)) (AWP.shape [] [(7, slS o)] [] Sel.none ⟨rfl, Le.refl _, trivial⟩ (v319_8s _ _ _ (pa ?_)))
    rw [meet_eq hk]; exact Le.refl _
  intro m
  induction m with
  | zero =>
    intro p o hm h0 h1 hk
    exact v319_3m _ _ _ _ _ _ _ (condD (fun h => by omega) fun h => done p o h h1 hk)
  | succ m ih =>
    intro p o hm h0 h1 hk
    have hol := ok_len hk.1
    refine v319_3m _ _ _ _ _ _ _ (condD (fun hp => ?_) fun h => done p o h h1 hk)
    obtain ⟨n1, n2, n3⟩ := and_next ha hb hp rfl
    refine ASpec.call (next_spec a p ha _) (Les.refl _) ⟨_, rfl, rfl, ?_⟩
    refine ASpec.call (next_spec b p hb _) (Les.refl _) ⟨_, rfl, rfl, ?_⟩
    refine ASpec.call (has_spec a p ha _) (Les.refl _) ⟨_, rfl, rfl, ?_⟩
    refine ASpec.call (has_spec b p hb _) (Les.refl _) ⟨_, rfl, rfl, ?_⟩
    refine ASpec.call (and_spec _ _ _) (Les.refl _) ⟨_, rfl, rfl, ?_⟩
    generalize (if nextS b p < nextS a p then nextS b p else nextS a p) = to at n1 n2 n3 ⊢
    refine condB (fun hf => ?_) fun hf => ?_
    · have hk' := kept_put hk h0 n1 n2 (fun q hq1 hq2 => by rw [n3 q hq1 hq2]; exact hf)
      have nxt := ih to (addS o (p, to)) (by omega) (by omega) n2 hk'
      refine (add_mem o (p, to) (by omega)).mono fun r H' hh => .inr ?_
      rcases hh with ⟨e1, e2, e3⟩ | ⟨e1, e2⟩
      · subst e1 e2
        refine .inl ⟨addS o (p, to), by rw [e3], rfl, ?_⟩
        rw [e3] at nxt; exact nxt
      · subst e1 e2
        refine .inr ⟨addS o (p, to), rfl, rfl, ?_⟩
        exact AWP.shape [1] [(0, slS a), (1, slS b), (2, .fn 320 []), (7, .msl 2 0 0 (addS o (p, to)).length), (8, .int .i64 to)] [arS (addS o (p, to))] (Sel.one 1 rfl rfl)
          ⟨rfl, Le.refl _, rfl, Le.refl _, rfl, Le.refl _, rfl, Le.refl _, rfl, Le.refl _, trivial⟩ nxt
    · exact ih to o (by omega) (by omega) n2 (kept_skip hk (by omega) (fun q hq1 hq2 => by rw [n3 q hq1 hq2]; exact hf))

theorem kept3n : ∀ (m : Nat) (p : Int), (1000000000 - p).toNat ≤ m → 0 ≤ p → p ≤ 1000000000 → Kept (andF a b) p [] →
    AWP Try.prog 34 0 c319_3 [(0, slS a), (1, slS b), (2, .fn 320 []), (7, .sl 0 (.raw []) .nil), (8, .int .i64 p)] [] (q319_2 0 (PA (slS (meetS a b)))) := by
  have done : ∀ (p : Int), ¬ p < 1000000000 → p ≤ 1000000000 → Kept (andF a b) p [] → AWP Try.prog 34 0 c319_8 [(7, .sl 0 (.raw []) .nil)] [] (q319_0 0 (PA (slS (meetS a b)))) := by
    intro p h1 h2 hk
    have : p = 1000000000 := by omega
    subst this
    refine v319_8n _ _ (pa ?_)
    rw [meet_eq hk]; exact leS0
  intro m
  induction m with
  | zero =>
    intro p hm h0 h1 hk
    exact v319_3n _ _ _ _ _ (condD (fun h => by omega) fun h => done p h h1 hk)
  | succ m ih =>
    intro p hm h0 h1 hk
    refine v319_3n _ _ _ _ _ (condD (fun hp => ?_) fun h => done p h h1 hk)
    obtain ⟨n1, n2, n3⟩ := and_next ha hb hp rfl
    refine ASpec.call (next_spec a p ha _) (Les.refl _) ⟨_, rfl, rfl, ?_⟩
    refine ASpec.call (next_spec b p hb _) (Les.refl _) ⟨_, rfl, rfl, ?_⟩
    refine ASpec.call (has_spec a p ha _) (Les.refl _) ⟨_, rfl, rfl, ?_⟩
    refine ASpec.call (has_spec b p hb _) (Les.refl _) ⟨_, rfl, rfl, ?_⟩
    refine ASpec.call (and_spec _ _ _) (Les.refl _) ⟨_, rfl, rfl, ?_⟩
    generalize (if nextS b p < nextS a p then nextS b p else nextS a p) = to at n1 n2 n3 ⊢
    refine condB (fun hf => ?_) fun hf => ?_
    · have hk' := kept_put hk h0 n1 n2 (fun q hq1 hq2 => by rw [n3 q hq1 hq2]; exact hf)
      have nxt := kept3m ha hb m to (addS [] (p, to)) (by omega) (by omega) n2 hk'
      exact ASpec.call (add_nil (p, to) []) (Les.refl _) (.inl ⟨(p, to), rfl, rfl, nxt⟩)
    · exact ih to (by omega) (by omega) n2 (kept_skip hk (by omega) (fun q hq1 hq2 => by rw [n3 q hq1 hq2]; exact hf))

theorem meet_spec (H : List AObj) : ASpec Try.prog 258 [slS a, slS b] H (fun r H' => r = slS (meetS a b) ∧ H' = H) := by
  have k : ASpec Try.prog 258 [slS a, slS b] [] (fun r H' => r = slS (meetS a b) ∧ H' = []) := by
    have k2 : ASpec Try.prog 319 [slS a, slS b, .fn 320 []] [] (fun r H' => r = slS (meetS a b) ∧ H' = []) :=
      ASpec.sel (s319 _ _ _ (kept3n ha hb 1000000000 0 (by omega) (by omega) (by omega) (kept_nil _)))
    exact s258 _ _ _ (ASpec.call k2 (Les.refl _) ⟨_, rfl, rfl, rfl, rfl⟩)
  exact ASpec.pureH H k _ _ rfl rfl
end

/-! ### within -/

/-- has the second set all that the first one has? -/
def subS (a b : List Span) : Bool := a.all fun s => decide (aftS s.1 b < b.length ∧ (b.getD (aftS s.1 b) (0, 0)).1 ≤ s.1 ∧ s.2 ≤ (b.getD (aftS s.1 b) (0, 0)).2)

theorem within2 {a b : List Span} (hb : ok b) (hal : a.length ≤ 2000000000) {c : Bool} : ∀ (m i : Nat), m + i = a.length → subS (a.drop i) b = c →
    AWP Try.prog 43 0 c259_2 [(1, slS b), (8, slS a), (9, .int .i64 a.length), (10, .int .i64 i)] [] (q259_2 0 (PB c)) := by
  intro m
  induction m with
  | zero =>
    intro i hm h
    refine v259_2 _ _ _ _ _ _ (condD (fun hc => by omega) fun _ => pb ?_)
    rw [List.drop_eq_nil_of_le (by omega)] at h
    exact h
  | succ m ih =>
    intro i hm h
    rw [dropD a (0, 0) i (by omega)] at h
    refine v259_2 _ _ _ _ _ _ (condD (fun hc => needJ ⟨by omega, by omega⟩ ?_) fun hc => by omega)
    rw [Int.toNat_natCast]
    generalize a.getD i (0, 0) = x at h ⊢
    have hle := aftS_le x.1 b
    have no : ∀ {H' : List AObj}, ¬ (aftS x.1 b < b.length ∧ (b.getD (aftS x.1 b) (0, 0)).1 ≤ x.1 ∧ x.2 ≤ (b.getD (aftS x.1 b) (0, 0)).2) → PB c (.bool false) H' := by
      intro H' hh
      refine pb ?_
      rw [← h, subS, List.all_cons, decide_eq_false hh, Bool.false_and]
    refine ASpec.call (after_spec b x.1 hb _) (Les.refl _) ⟨_, rfl, rfl, condE (fun h1 => no (by omega)) fun h1 => needJ ⟨by omega, by omega⟩ ?_⟩
    rw [Int.toNat_natCast]
    refine condD (fun h2 => no (by omega)) fun h2 => needJ ⟨by omega, by omega⟩ (condD (fun h3 => no (by omega)) fun h3 => ?_)
    rw [suc64 (by omega)]
    refine AWP.shape [] [(1, slS b), (8, slS a), (9, .int .i64 a.length), (10, .int .i64 (i + 1 : Nat))] [] Sel.none ⟨rfl, Le.refl _, rfl, Le.refl _, rfl, Le.refl _, rfl, Le.refl _, trivial⟩ (ih (i + 1) (by omega) ?_)
    rw [← h, subS, subS, List.all_cons, decide_eq_true (⟨by omega, by omega, by omega⟩ : aftS x.1 b < b.length ∧ (b.getD (aftS x.1 b) (0, 0)).1 ≤ x.1 ∧ x.2 ≤ (b.getD (aftS x.1 b) (0, 0)).2), Bool.true_and]

theorem within_spec (a b : List Span) (ha : ok a) (hb : ok b) (H : List AObj) : ASpec Try.prog 259 [slS a, slS b] H (fun r H' => r = .bool (subS a b) ∧ H' = H) :=
  ASpec.pureH (r0 := .bool (subS a b)) H (ASpec.sel (s259 _ _ _ (within2 hb (by have := ok_len ha; omega) a.length 0 (by omega) rfl))) _ _ rfl rfl

/-- within: each place of the first set is one of the second -/
theorem subS_iff {a b : List Span} (ha : ok a) (hb : ok b) : subS a b = true ↔ ∀ p, hasS a p = true → hasS b p = true := by
  constructor
  · intro h p hp
    simp only [hasS, List.any_eq_true] at hp
    obtain ⟨s, hs, hsp⟩ := hp
    rw [inS_iff] at hsp
    have := List.all_eq_true.1 h s hs
    simp only [decide_eq_true_eq] at this
    obtain ⟨h1, h2, h3⟩ := this
    simp only [hasS, List.any_eq_true]
    exact ⟨_, memD b (0, 0) _ h1, inS_iff.2 ⟨by omega, by omega⟩⟩
  · intro h
    refine List.all_eq_true.2 fun s hs => ?_
    obtain ⟨i, hi, e⟩ := List.getElem_of_mem hs
    have hr := chkS_rise ha i hi
    rw [List.getD_eq_getElem?_getD, List.getElem?_eq_getElem hi] at hr
    simp only [Option.getD_some, e] at hr
    obtain ⟨r1, r2, r3, _⟩ := hr
    have hin : ∀ q, s.1 ≤ q → q < s.2 → hasS b q = true := fun q h1 h2 => h q (by simp only [hasS, List.any_eq_true]; exact ⟨s, hs, inS_iff.2 ⟨h1, h2⟩⟩)
    obtain ⟨k1, k2⟩ := (hasS_aft hb).1 (hin s.1 (by omega) r2)
    refine decide_eq_true ⟨k1, k2, ?_⟩
    have hat := aftS_at s.1 b k1
    by_cases hc : s.2 ≤ (b.getD (aftS s.1 b) (0, 0)).2
    · exact hc
    · exfalso
      have h1 := hin (b.getD (aftS s.1 b) (0, 0)).2 (by omega) (by omega)
      have hn : hasS b (b.getD (aftS s.1 b) (0, 0)).2 = false := by
        have key : ∀ {l : List Span} {e : Int}, chkS e l = true → ∀ i, i < l.length → hasS l (l.getD i (0, 0)).2 = false := by
          intro l
          induction l with
          | nil => intro e _ i hi; simp at hi
          | cons x r ih =>
            intro e hl i hi
            obtain ⟨a1, a2, a3, a4⟩ := chkS_cons hl
            match i, hi with
            | 0, _ =>
              simp only [List.getD_cons_zero]
              rw [hasS_cons, chkS_low a4 (Int.le_refl _), inS_false.2 (by omega)]; rfl
            | i + 1, hi =>
              simp only [List.getD_cons_succ]
              have hx := chkS_rise a4 i (by simpa using hi)
              rw [hasS_cons, ih a4 i (by simpa using hi), inS_false.2 (by omega)]; rfl
        exact key hb _ k1
      rw [hn] at h1; cases h1
end Sg
end
